import Derived.Test.YtbiabimalkkeiaaGreatDoorNm
set_option linter.unusedVariables false
set_option linter.unusedSimpArgs false
set_option linter.unnecessarySimpa false
set_option linter.unusedSectionVars false
namespace Go.Proofs.YtbiabimalkkeiaaGreatDoor
open Go Go.Vc Go.Proofs
/-- impl.VecBin -/
def F_impl_VecBin (P : Program) (v0 v1 v2 : Value) (w : World) (R : Value → World → Prop) : Prop :=
  vbox P T_impl_Vec v1 w fun t4 w_1 =>
  vbox P T_impl_Vec v2 w_1 fun t5 w_2 =>
  valloc P T_impl_Vec w_2 fun t6 w_3 =>
  vjoin (fun J =>
    vload P T_impl_Vec t4 w_3 fun t9 w_5 =>
    vcall P n_impl_VecOk #[t9] w_5 fun t10 w_6 =>
    vun P .not t10 w_6 fun t11 w_7 =>
    vif t11 (
      vbuild P T_impl_Vec [] w_7 fun t17 w_8 =>
      vstore P T_impl_Vec t6 t17 w_8 fun _ w_9 =>
      vlv P T_impl_Vec t6 w_9 fun r6 w_10 =>
      R (.tuple #[r6, (.bool false)]) w_10) (
      vload P T_impl_Vec t5 w_7 fun t13 w_11 =>
      vcall P n_impl_VecOk #[t13] w_11 fun t14 w_12 =>
      vun P .not t14 w_12 fun t15 w_13 =>
      vif t15 (
        vbuild P T_impl_Vec [] w_13 fun t17_1 w_14 =>
        vstore P T_impl_Vec t6 t17_1 w_14 fun _ w_15 =>
        vlv P T_impl_Vec t6 w_15 fun r6_1 w_16 =>
        R (.tuple #[r6_1, (.bool false)]) w_16) (
        J [] w_13))) (fun _ _ w_4 =>
    vbin P .eql T_int true v0 (.int .i64 14) w_4 fun t19 w_17 =>
    vif t19 (
      vdraw w_17 fun w_18 =>
      vfaddr P T_impl_Vec t4 0 w_18 fun t20 w_19 => w_19 = w_18 ∧
      vload P T_int t20 w_18 fun t21 w_20 => w_20 = w_18 ∧
      vfaddr P T_impl_Vec t5 0 w_18 fun t22 w_21 => w_21 = w_18 ∧
      vload P T_int t22 w_18 fun t23 w_22 => w_22 = w_18 ∧
      vbin P .add T_int false t21 t23 w_18 fun t24 w_23 => w_23 = w_18 ∧
      vfaddr P T_impl_Vec t4 1 w_18 fun t25 w_24 => w_24 = w_18 ∧
      vload P T_int t25 w_18 fun t26 w_25 => w_25 = w_18 ∧
      vfaddr P T_impl_Vec t5 0 w_18 fun t27 w_26 => w_26 = w_18 ∧
      vload P T_int t27 w_18 fun t28 w_27 => w_27 = w_18 ∧
      vbin P .shl T_int false t26 t28 w_18 fun t29 w_28 => w_28 = w_18 ∧
      vfaddr P T_impl_Vec t5 1 w_18 fun t30 w_29 => w_29 = w_18 ∧
      vload P T_int t30 w_18 fun t31 w_30 => w_30 = w_18 ∧
      vbin P .or T_int false t29 t31 w_18 fun t32 w_31 => w_31 = w_18 ∧
      vbuild P T_impl_Vec [(0, t24), (1, t32)] w_18 fun t33 w_32 => w_32 = w_18 ∧
      valloc P T_impl_Vec w_18 fun t8 w_33 => (vbuild P T_impl_Vec [(0, t24), (1, t32)] w_33 fun v x => v = t33 ∧ x = w_33) ∧ (vbin P .or T_int false t29 t31 w_33 fun v x => v = t32 ∧ x = w_33) ∧ (vload P T_int t30 w_33 fun v x => v = t31 ∧ x = w_33) ∧ (vfaddr P T_impl_Vec t5 1 w_33 fun v x => v = t30 ∧ x = w_33) ∧ (vbin P .shl T_int false t26 t28 w_33 fun v x => v = t29 ∧ x = w_33) ∧ (vload P T_int t27 w_33 fun v x => v = t28 ∧ x = w_33) ∧ (vfaddr P T_impl_Vec t5 0 w_33 fun v x => v = t27 ∧ x = w_33) ∧ (vload P T_int t25 w_33 fun v x => v = t26 ∧ x = w_33) ∧ (vfaddr P T_impl_Vec t4 1 w_33 fun v x => v = t25 ∧ x = w_33) ∧ (vbin P .add T_int false t21 t23 w_33 fun v x => v = t24 ∧ x = w_33) ∧ (vload P T_int t22 w_33 fun v x => v = t23 ∧ x = w_33) ∧ (vfaddr P T_impl_Vec t5 0 w_33 fun v x => v = t22 ∧ x = w_33) ∧ (vload P T_int t20 w_33 fun v x => v = t21 ∧ x = w_33) ∧ (vfaddr P T_impl_Vec t4 0 w_33 fun v x => v = t20 ∧ x = w_33) ∧
      vstore P T_impl_Vec t8 t33 w_33 fun _ w_34 =>
      vfaddr P T_impl_Vec t8 0 w_34 fun t34 w_35 =>
      vload P T_int t34 w_35 fun t35 w_36 =>
      vbin P .gtr T_int true t35 (.int .i64 4) w_36 fun t36 w_37 =>
      vif t36 (
        vbuild P T_impl_Vec [] w_37 fun t37 w_38 =>
        vstore P T_impl_Vec t6 t37 w_38 fun _ w_39 =>
        vlv P T_impl_Vec t6 w_39 fun r6_2 w_40 =>
        R (.tuple #[r6_2, (.bool false)]) w_40) (
        vload P T_impl_Vec t8 w_37 fun t38 w_41 =>
        vstore P T_impl_Vec t6 t38 w_41 fun _ w_42 =>
        vlv P T_impl_Vec t6 w_42 fun r6_3 w_43 =>
        R (.tuple #[r6_3, (.bool true)]) w_43)) (
      vjoin (fun J_1 =>
        vbin P .lss T_int true v0 (.int .i64 3) w_17 fun t40 w_45 =>
        vif t40 (
          vbuild P T_impl_Vec [] w_45 fun t52 w_46 =>
          vstore P T_impl_Vec t6 t52 w_46 fun _ w_47 =>
          vlv P T_impl_Vec t6 w_47 fun r6_4 w_48 =>
          R (.tuple #[r6_4, (.bool false)]) w_48) (
          vbin P .gtr T_int true v0 (.int .i64 13) w_45 fun t43 w_49 =>
          vif t43 (
            vbuild P T_impl_Vec [] w_49 fun t52_1 w_50 =>
            vstore P T_impl_Vec t6 t52_1 w_50 fun _ w_51 =>
            vlv P T_impl_Vec t6 w_51 fun r6_5 w_52 =>
            R (.tuple #[r6_5, (.bool false)]) w_52) (
            vfaddr P T_impl_Vec t4 0 w_49 fun t46 w_53 =>
            vload P T_int t46 w_53 fun t47 w_54 =>
            vfaddr P T_impl_Vec t5 0 w_54 fun t48 w_55 =>
            vload P T_int t48 w_55 fun t49 w_56 =>
            vbin P .neq T_int false t47 t49 w_56 fun t50 w_57 =>
            vif t50 (
              vbuild P T_impl_Vec [] w_57 fun t52_2 w_58 =>
              vstore P T_impl_Vec t6 t52_2 w_58 fun _ w_59 =>
              vlv P T_impl_Vec t6 w_59 fun r6_6 w_60 =>
              R (.tuple #[r6_6, (.bool false)]) w_60) (
              J_1 [] w_57)))) (fun _ _ w_44 =>
        vdraw w_44 fun w_61 =>
        vload P T_impl_Vec t4 w_61 fun t53 w_62 => w_62 = w_61 ∧
        vload P T_impl_Vec t4 w_61 fun t57 w_63 => w_63 = w_61 ∧
        vload P T_impl_Vec t5 w_61 fun t58 w_64 => w_64 = w_61 ∧
        vcall P n_impl_binaries #[] w_61 fun t54 w_65 => (vload P T_impl_Vec t5 w_65 fun v x => v = t58 ∧ x = w_65) ∧ (vload P T_impl_Vec t4 w_65 fun v x => v = t57 ∧ x = w_65) ∧ (vload P T_impl_Vec t4 w_65 fun v x => v = t53 ∧ x = w_65) ∧
        vindex P T_A_14_func_impl_Vec_impl_Vec_impl_raw t54 v0 w_65 fun t56 w_66 => w_66 = w_65 ∧
        vcallv P t56 #[t57, t58] w_65 fun t59 w_67 => (vload P T_impl_Vec t4 w_67 fun v x => v = t53 ∧ x = w_67) ∧
        vcall P n_impl_Vec_vec #[t53, t59] w_67 fun t60 w_68 =>
        vstore P T_impl_Vec t6 t60 w_68 fun _ w_69 =>
        vlv P T_impl_Vec t6 w_69 fun r6_7 w_70 =>
        R (.tuple #[r6_7, (.bool true)]) w_70)))
def A_impl_VecBin : Ann := { ord := [(4, [0, 1, 2, 3, 4, 5, 6, 7, 8, 9, 10, 11, 12, 13, 14, 15], [(0, [1, 4, 13, 15]), (1, [4, 13, 15]), (2, [3, 4, 13, 15]), (3, [4, 13, 15]), (4, [13, 15]), (5, [6, 9, 12, 13, 15]), (6, [9, 12, 13, 15]), (7, [8, 9, 12, 13, 15]), (8, [9, 12, 13, 15]), (9, [12, 13, 15]), (10, [11, 12, 13, 15]), (11, [12, 13, 15]), (12, [13, 15]), (13, [15]), (14, [15])]), (10, [0, 2, 4, 5, 1, 3, 6, 7, 8, 9], [(0, [7, 8, 9]), (2, [3, 6, 7, 8, 9]), (4, [6, 7, 8, 9]), (5, [6, 7, 8, 9]), (1, [3, 6, 7, 8, 9]), (3, [6, 7, 8, 9]), (6, [7, 8, 9]), (7, [8, 9]), (8, [9])])], loops := [], cuts := [(8195, []), (36874, [])] }
theorem k_impl_VecBin (v0 v1 v2 : Value) (w : World) (R : Value → World → Prop) : vc PP A_impl_VecBin ((Tryz.f67.body).getD .skip) (retF PP Tryz.f67.results.toList R) (nthV [v0, v1, v2]) w = F_impl_VecBin PP v0 v1 v2 w R := by kernel_rfl
theorem c_impl_VecBin {v0 v1 v2 : Value} {w : World} {R : Value → World → Prop} (h : F_impl_VecBin PP v0 v1 v2 w R) : vcall PP n_impl_VecBin #[v0, v1, v2] w R :=
  call_of_vc (T := A_impl_VecBin) (c := (Tryz.f67.body).getD .skip) (n := 61) mixed Tryz.func67 rfl rfl (by kernel_rfl) (by kernel_rfl) rfl (by rw [k_impl_VecBin]; exact h)

/-- spec.l2Read -/
def F_spec_l2Read (P : Program) (v0 v1 v2 : Value) (w : World) (R : Value → World → Prop) : Prop :=
  valloc P T_impl_Term w fun t6 w_1 =>
  vjoin (fun J =>
    vbi P .len [T_string] T_int [v0] w_1 fun t19 w_3 =>
    vbin P .geq T_int false v1 t19 w_3 fun t20 w_4 =>
    vif t20 (
      vbuild P T_impl_Term [] w_4 fun t25 w_5 =>
      vstore P T_impl_Term t6 t25 w_5 fun _ w_6 =>
      vlv P T_impl_Term t6 w_6 fun r6 w_7 =>
      R (.tuple #[r6, (.int .i64 (-1))]) w_7) (
      vbin P .lss T_int true v2 (.int .i64 1) w_4 fun t23 w_8 =>
      vif t23 (
        vbuild P T_impl_Term [] w_8 fun t25_1 w_9 =>
        vstore P T_impl_Term t6 t25_1 w_9 fun _ w_10 =>
        vlv P T_impl_Term t6 w_10 fun r6_1 w_11 =>
        R (.tuple #[r6_1, (.int .i64 (-1))]) w_11) (
        J [] w_8))) (fun _ _ w_2 =>
    vindex P T_string v0 v1 w_2 fun t28 w_12 =>
    vbin P .neq T_uint8 true t28 (.int .u8 40) w_12 fun t29 w_13 =>
    vif t29 (
      vcall P n_spec_l2Word #[v0, v1] w_13 fun t33 w_14 =>
      vextract P t33 0 w_14 fun t34 w_15 =>
      vextract P t33 1 w_15 fun t35 w_16 =>
      vbin P .eql T_string true t34 (.string { data := #[] }) w_16 fun t37 w_17 =>
      vif t37 (
        vbuild P T_impl_Term [] w_17 fun t38 w_18 =>
        vstore P T_impl_Term t6 t38 w_18 fun _ w_19 =>
        vlv P T_impl_Term t6 w_19 fun r6_2 w_20 =>
        R (.tuple #[r6_2, (.int .i64 (-1))]) w_20) (
        vcall P n_spec_l2Leaf #[t34] w_17 fun t40 w_21 =>
        vstore P T_impl_Term t6 t40 w_21 fun _ w_22 =>
        vlv P T_impl_Term t6 w_22 fun r6_3 w_23 =>
        R (.tuple #[r6_3, t35]) w_23)) (
      vbin P .add T_int true v1 (.int .i64 1) w_13 fun t45 w_24 =>
      vcall P n_spec_l2Word #[v0, t45] w_24 fun t46 w_25 =>
      vextract P t46 0 w_25 fun t47 w_26 =>
      vextract P t46 1 w_26 fun t48 w_27 =>
      vcall P n_spec_l2Op #[t47] w_27 fun t50 w_28 =>
      vbuild P T_impl_Term [(0, t50)] w_28 fun t51 w_29 =>
      valloc P T_impl_Term w_29 fun t12 w_30 =>
      vstore P T_impl_Term t12 t51 w_30 fun _ w_31 =>
      vjoin (fun J_1 =>
        vfaddr P T_impl_Term t12 0 w_31 fun t52 w_33 =>
        vload P T_int t52 w_33 fun t53 w_34 =>
        vbin P .eql T_int true t53 (.int .i64 0) w_34 fun t54 w_35 =>
        vif t54 (
          vload P T_impl_Term t12 w_35 fun t60 w_36 =>
          vstore P T_impl_Term t6 t60 w_36 fun _ w_37 =>
          vlv P T_impl_Term t6 w_37 fun r6_4 w_38 =>
          R (.tuple #[r6_4, (.int .i64 (-1))]) w_38) (
          vfaddr P T_impl_Term t12 0 w_35 fun t56 w_39 =>
          vload P T_int t56 w_39 fun t57 w_40 =>
          vbin P .eql T_int true t57 (.int .i64 24) w_40 fun t58 w_41 =>
          vif t58 (
            vload P T_impl_Term t12 w_41 fun t60_1 w_42 =>
            vstore P T_impl_Term t6 t60_1 w_42 fun _ w_43 =>
            vlv P T_impl_Term t6 w_43 fun r6_5 w_44 =>
            R (.tuple #[r6_5, (.int .i64 (-1))]) w_44) (
            J_1 [] w_41))) (fun _ _ w_32 =>
        vfaddr P T_impl_Term t12 0 w_32 fun t61 w_45 =>
        vload P T_int t61 w_45 fun t62 w_46 =>
        vbin P .neq T_int true t62 (.int .i64 22) w_46 fun t63 w_47 =>
        vif t63 (
          vbin P .sub T_int true v2 (.int .i64 1) w_47 fun t67 w_48 =>
          vload P T_impl_Term t12 w_48 fun t68 w_49 =>
          vcall P n_spec_l2Kids #[v0, t48, t67, t68] w_49 fun t69 w_50 =>
          vextract P t69 0 w_50 fun t70 w_51 =>
          vextract P t69 1 w_51 fun t71 w_52 =>
          vstore P T_impl_Term t6 t70 w_52 fun _ w_53 =>
          vlv P T_impl_Term t6 w_53 fun r6_6 w_54 =>
          R (.tuple #[r6_6, t71]) w_54) (
          vbin P .add T_int true t48 (.int .i64 1) w_47 fun t75 w_55 =>
          vbi P .len [T_string] T_int [v0] w_55 fun t77 w_56 =>
          vcall P n_spec_l1Min #[t75, t77] w_56 fun t78 w_57 =>
          vcall P n_spec_l2Word #[v0, t78] w_57 fun t79 w_58 =>
          vextract P t79 0 w_58 fun t80 w_59 =>
          vextract P t79 1 w_59 fun t81 w_60 =>
          vbin P .add T_int true t81 (.int .i64 1) w_60 fun t85 w_61 =>
          vbi P .len [T_string] T_int [v0] w_61 fun t87 w_62 =>
          vcall P n_spec_l1Min #[t85, t87] w_62 fun t88 w_63 =>
          vcall P n_spec_l2Word #[v0, t88] w_63 fun t89 w_64 =>
          vextract P t89 0 w_64 fun t90 w_65 =>
          vextract P t89 1 w_65 fun t91 w_66 =>
          vcall P n_spec_l12Num #[t80] w_66 fun t94 w_67 =>
          vextract P t94 0 w_67 fun t95 w_68 =>
          vextract P t94 1 w_68 fun _ w_69 =>
          vfaddr P T_impl_Term t12 1 w_69 fun t97 w_70 =>
          vstore P T_int t97 t95 w_70 fun _ w_71 =>
          vcall P n_spec_l12Num #[t90] w_71 fun t100 w_72 =>
          vextract P t100 0 w_72 fun t101 w_73 =>
          vextract P t100 1 w_73 fun _ w_74 =>
          vfaddr P T_impl_Term t12 2 w_74 fun t103 w_75 =>
          vstore P T_int t103 t101 w_75 fun _ w_76 =>
          vbin P .sub T_int true v2 (.int .i64 1) w_76 fun t107 w_77 =>
          vload P T_impl_Term t12 w_77 fun t108 w_78 =>
          vcall P n_spec_l2Kids #[v0, t91, t107, t108] w_78 fun t109 w_79 =>
          vextract P t109 0 w_79 fun t110 w_80 =>
          vextract P t109 1 w_80 fun t111 w_81 =>
          vstore P T_impl_Term t6 t110 w_81 fun _ w_82 =>
          vlv P T_impl_Term t6 w_82 fun r6_7 w_83 =>
          R (.tuple #[r6_7, t111]) w_83))))
def A_spec_l2Read : Ann := { ord := [], loops := [], cuts := [(8195, []), (45068, [])] }
theorem k_spec_l2Read (v0 v1 v2 : Value) (w : World) (R : Value → World → Prop) : vc PP A_spec_l2Read ((Tryz.f68.body).getD .skip) (retF PP Tryz.f68.results.toList R) (nthV [v0, v1, v2]) w = F_spec_l2Read PP v0 v1 v2 w R := by kernel_rfl
theorem c_spec_l2Read {v0 v1 v2 : Value} {w : World} {R : Value → World → Prop} (h : F_spec_l2Read PP v0 v1 v2 w R) : vcall PP n_spec_l2Read #[v0, v1, v2] w R :=
  call_of_vc (T := A_spec_l2Read) (c := (Tryz.f68.body).getD .skip) (n := 112) mixed Tryz.func68 rfl rfl (by kernel_rfl) (by kernel_rfl) rfl (by rw [k_spec_l2Read]; exact h)

/-- laws.markText -/
def F_laws_markText (P : Program) (v0 : Value) (w : World) (R : Value → World → Prop) : Prop :=
  vbin P .leq T_int true v0 (.int .i64 0) w fun t5 w_1 =>
  vif t5 (
    R (.string { data := #[109, 48] }) w_1) (
    vloop [v0, (.string { data := #[] })] w_1 fun C u _ w_2 =>
      vbin P .gtr T_int true (sl 0 u) (.int .i64 0) w_2 fun t7 w_3 =>
      vif t7 (
        vbin P .rem T_int true (sl 0 u) (.int .i64 10) w_3 fun t9 w_4 =>
        vbin P .add T_int true (.int .i64 48) t9 w_4 fun t10 w_5 =>
        vconv P T_int T_uint8 t10 w_5 fun t11 w_6 =>
        vbuildS P T_Luint8 1 [(0, t11)] w_6 fun t12 w_7 =>
        vconv P T_Luint8 T_string t12 w_7 fun t13 w_8 =>
        vbin P .add T_string false t13 (sl 1 u) w_8 fun t15 w_9 =>
        vbin P .quo T_int true (sl 0 u) (.int .i64 10) w_9 fun t17 w_10 =>
        C [t17, t15] w_10) (
        vbin P .add T_string true (.string { data := #[109] }) (sl 1 u) w_3 fun t19 w_11 =>
        R t19 w_11))
def A_laws_markText : Ann := { ord := [], loops := [(4, [0, 3])], cuts := [] }
theorem k_laws_markText (v0 : Value) (w : World) (R : Value → World → Prop) : vc PP A_laws_markText ((Tryz.f70.body).getD .skip) (retF PP Tryz.f70.results.toList R) (nthV [v0]) w = F_laws_markText PP v0 w R := by kernel_rfl
theorem c_laws_markText {v0 : Value} {w : World} {R : Value → World → Prop} (h : F_laws_markText PP v0 w R) : vcall PP n_laws_markText #[v0] w R :=
  call_of_vc (T := A_laws_markText) (c := (Tryz.f70.body).getD .skip) (n := 20) mixed Tryz.func70 rfl rfl (by kernel_rfl) (by kernel_rfl) rfl (by rw [k_laws_markText]; exact h)

/-- laws.markTermS -/
def F_laws_markTermS (P : Program) (v0 v1 : Value) (w : World) (R : Value → World → Prop) : Prop :=
  vloop [v1, (.int .i64 0)] w fun C u _ w_1 =>
    vbi P .len [T_Limpl_Term] T_int [v0] w_1 fun t8 w_2 =>
    vbin P .lss T_int false (sl 1 u) t8 w_2 fun t9 w_3 =>
    vif t9 (
      viaddr P T_Limpl_Term v0 (sl 1 u) w_3 fun t15 w_4 =>
      vfaddr P T_impl_Term t15 0 w_4 fun t16 w_5 =>
      vstore P T_int t16 (sl 0 u) w_5 fun _ w_6 =>
      vbin P .add T_int true (sl 0 u) (.int .i64 1) w_6 fun t18 w_7 =>
      viaddr P T_Limpl_Term v0 (sl 1 u) w_7 fun t22 w_8 =>
      vfaddr P T_impl_Term t22 1 w_8 fun t23 w_9 =>
      vstore P T_int t23 t18 w_9 fun _ w_10 =>
      vbin P .add T_int true t18 (.int .i64 1) w_10 fun t25 w_11 =>
      viaddr P T_Limpl_Term v0 (sl 1 u) w_11 fun t29 w_12 =>
      vfaddr P T_impl_Term t29 2 w_12 fun t30 w_13 =>
      vstore P T_int t30 t25 w_13 fun _ w_14 =>
      vbin P .add T_int true t25 (.int .i64 1) w_14 fun t32 w_15 =>
      vcall P n_laws_markText #[t32] w_15 fun t36 w_16 =>
      viaddr P T_Limpl_Term v0 (sl 1 u) w_16 fun t37 w_17 =>
      vfaddr P T_impl_Term t37 3 w_17 fun t38 w_18 =>
      vstore P T_string t38 t36 w_18 fun _ w_19 =>
      vbin P .add T_int true t32 (.int .i64 1) w_19 fun t40 w_20 =>
      viaddr P T_Limpl_Term v0 (sl 1 u) w_20 fun t43 w_21 =>
      vfaddr P T_impl_Term t43 4 w_21 fun t44 w_22 =>
      vload P T_Limpl_Term t44 w_22 fun t45 w_23 =>
      vcall P n_laws_markTermS #[t45, t40] w_23 fun t47 w_24 =>
      vbin P .add T_int true (sl 1 u) (.int .i64 1) w_24 fun t11 w_25 =>
      C [t47, t11] w_25) (
      R (sl 0 u) w_3)
def A_laws_markTermS : Ann := { ord := [], loops := [(2, [1, 5])], cuts := [] }
theorem k_laws_markTermS (v0 v1 : Value) (w : World) (R : Value → World → Prop) : vc PP A_laws_markTermS ((Tryz.f71.body).getD .skip) (retF PP Tryz.f71.results.toList R) (nthV [v0, v1]) w = F_laws_markTermS PP v0 v1 w R := by kernel_rfl
theorem c_laws_markTermS {v0 v1 : Value} {w : World} {R : Value → World → Prop} (h : F_laws_markTermS PP v0 v1 w R) : vcall PP n_laws_markTermS #[v0, v1] w R :=
  call_of_vc (T := A_laws_markTermS) (c := (Tryz.f71.body).getD .skip) (n := 49) mixed Tryz.func71 rfl rfl (by kernel_rfl) (by kernel_rfl) rfl (by rw [k_laws_markTermS]; exact h)

/-- laws.heldTermS -/
def F_laws_heldTermS (P : Program) (v0 v1 : Value) (w : World) (R : Value → World → Prop) : Prop :=
  vloop [v1, (.int .i64 0)] w fun C u _ w_1 =>
    vbi P .len [T_Limpl_Term] T_int [v0] w_1 fun t8 w_2 =>
    vbin P .lss T_int false (sl 1 u) t8 w_2 fun t9 w_3 =>
    vif t9 (
      viaddr P T_Limpl_Term v0 (sl 1 u) w_3 fun t14 w_4 =>
      vfaddr P T_impl_Term t14 0 w_4 fun t15 w_5 =>
      vload P T_int t15 w_5 fun t16 w_6 =>
      vbin P .neq T_int false t16 (sl 0 u) w_6 fun t18 w_7 =>
      vif t18 (
        R (.int .i64 (-1)) w_7) (
        vbin P .add T_int true (sl 0 u) (.int .i64 1) w_7 fun t20 w_8 =>
        viaddr P T_Limpl_Term v0 (sl 1 u) w_8 fun t23 w_9 =>
        vfaddr P T_impl_Term t23 1 w_9 fun t24 w_10 =>
        vload P T_int t24 w_10 fun t25 w_11 =>
        vbin P .neq T_int false t25 t20 w_11 fun t27 w_12 =>
        vif t27 (
          R (.int .i64 (-1)) w_12) (
          vbin P .add T_int true t20 (.int .i64 1) w_12 fun t29 w_13 =>
          viaddr P T_Limpl_Term v0 (sl 1 u) w_13 fun t32 w_14 =>
          vfaddr P T_impl_Term t32 2 w_14 fun t33 w_15 =>
          vload P T_int t33 w_15 fun t34 w_16 =>
          vbin P .neq T_int false t34 t29 w_16 fun t36 w_17 =>
          vif t36 (
            R (.int .i64 (-1)) w_17) (
            vbin P .add T_int true t29 (.int .i64 1) w_17 fun t38 w_18 =>
            vdraw w_18 fun w_19 =>
            viaddr P T_Limpl_Term v0 (sl 1 u) w_19 fun t41 w_20 => w_20 = w_19 ∧
            vfaddr P T_impl_Term t41 3 w_19 fun t42 w_21 => w_21 = w_19 ∧
            vload P T_string t42 w_19 fun t43 w_22 => w_22 = w_19 ∧
            vcall P n_laws_markText #[t38] w_19 fun t45 w_23 => (vload P T_string t42 w_23 fun v x => v = t43 ∧ x = w_23) ∧ (vfaddr P T_impl_Term t41 3 w_23 fun v x => v = t42 ∧ x = w_23) ∧ (viaddr P T_Limpl_Term v0 (sl 1 u) w_23 fun v x => v = t41 ∧ x = w_23) ∧
            vbin P .neq T_string false t43 t45 w_23 fun t46 w_24 => w_24 = w_23 ∧
            vif t46 (
              R (.int .i64 (-1)) w_23) (
              vbin P .add T_int true t38 (.int .i64 1) w_23 fun t48 w_25 =>
              viaddr P T_Limpl_Term v0 (sl 1 u) w_25 fun t51 w_26 =>
              vfaddr P T_impl_Term t51 4 w_26 fun t52 w_27 =>
              vload P T_Limpl_Term t52 w_27 fun t53 w_28 =>
              vcall P n_laws_heldTermS #[t53, t48] w_28 fun t55 w_29 =>
              vbin P .lss T_int true t55 (.int .i64 0) w_29 fun t57 w_30 =>
              vif t57 (
                R (.int .i64 (-1)) w_30) (
                vbin P .add T_int true (sl 1 u) (.int .i64 1) w_30 fun t11 w_31 =>
                C [t55, t11] w_31)))))) (
      R (sl 0 u) w_3)
def A_laws_heldTermS : Ann := { ord := [(13, [0, 1, 2, 3, 4, 5, 6, 7], [(0, [2, 3, 4, 7]), (1, [2, 3, 4, 7]), (2, [3, 4, 7]), (3, [4, 7]), (4, [7]), (5, [6, 7]), (6, [7])])], loops := [(2, [1, 5])], cuts := [] }
theorem k_laws_heldTermS (v0 v1 : Value) (w : World) (R : Value → World → Prop) : vc PP A_laws_heldTermS ((Tryz.f72.body).getD .skip) (retF PP Tryz.f72.results.toList R) (nthV [v0, v1]) w = F_laws_heldTermS PP v0 v1 w R := by kernel_rfl
theorem c_laws_heldTermS {v0 v1 : Value} {w : World} {R : Value → World → Prop} (h : F_laws_heldTermS PP v0 v1 w R) : vcall PP n_laws_heldTermS #[v0, v1] w R :=
  call_of_vc (T := A_laws_heldTermS) (c := (Tryz.f72.body).getD .skip) (n := 59) mixed Tryz.func72 rfl rfl (by kernel_rfl) (by kernel_rfl) rfl (by rw [k_laws_heldTermS]; exact h)

/-- impl.textOf -/
def F_impl_textOf (P : Program) (v0 v1 : Value) (w : World) (R : Value → World → Prop) : Prop :=
  vbox P T_impl_Term v1 w fun t3 w_1 =>
  vfaddr P T_impl_Term t3 0 w_1 fun t8 w_2 =>
  vload P T_int t8 w_2 fun t9 w_3 =>
  vbin P .eql T_int true t9 (.int .i64 20) w_3 fun t11 w_4 =>
  vif t11 (
    vfaddr P T_impl_Term t3 1 w_4 fun t12 w_5 =>
    vload P T_int t12 w_5 fun t13 w_6 =>
    vfaddr P T_impl_Term t3 2 w_6 fun t14 w_7 =>
    vload P T_int t14 w_7 fun t15 w_8 =>
    vbuild P T_impl_Vec [(0, t13), (1, t15)] w_8 fun t16 w_9 =>
    vcall P n_impl_VecText #[t16] w_9 fun t17 w_10 =>
    R t17 w_10) (
    vbin P .eql T_int true t9 (.int .i64 21) w_4 fun t19 w_11 =>
    vif t19 (
      vfaddr P T_impl_Term t3 3 w_11 fun t20 w_12 =>
      vload P T_string t20 w_12 fun t21 w_13 =>
      R t21 w_13) (
      vbin P .eql T_int true t9 (.int .i64 24) w_11 fun t23 w_14 =>
      vif t23 (
        R (.string { data := #[116, 114, 117, 101] }) w_14) (
        vfaddr P T_impl_Term t3 0 w_14 fun t25 w_15 =>
        vload P T_int t25 w_15 fun t26 w_16 =>
        vlook P T_M_map_int_impl_kind v0 t26 false w_16 fun t27 w_17 =>
        vinvoke P t27 mn_word #[] w_17 fun t28 w_18 =>
        vbuildS P T_Lstring 1 [(0, t28)] w_18 fun t29 w_19 =>
        vjoin (fun J =>
          vfaddr P T_impl_Term t3 0 w_19 fun t30 w_21 =>
          vload P T_int t30 w_21 fun t31 w_22 =>
          vbin P .eql T_int true t31 (.int .i64 22) w_22 fun t32 w_23 =>
          vif t32 (
            vdraw w_23 fun w_24 =>
            vfaddr P T_impl_Term t3 1 w_24 fun t34 w_25 => w_25 = w_24 ∧
            vload P T_int t34 w_24 fun t35 w_26 => w_26 = w_24 ∧
            vfaddr P T_impl_Term t3 2 w_24 fun t37 w_27 => w_27 = w_24 ∧
            vload P T_int t37 w_24 fun t38 w_28 => w_28 = w_24 ∧
            vcall P n_strconv_Itoa #[t35] w_24 fun t36 w_29 => (vload P T_int t37 w_29 fun v x => v = t38 ∧ x = w_29) ∧ (vfaddr P T_impl_Term t3 2 w_29 fun v x => v = t37 ∧ x = w_29) ∧
            vcall P n_strconv_Itoa #[t38] w_29 fun t39 w_30 =>
            vbuildS P T_Lstring 2 [(0, t36), (1, t39)] w_30 fun t40 w_31 =>
            vbi P .append [T_Lstring, T_Lstring] T_Lstring [t29, t40] w_31 fun t41 w_32 =>
            J [t41] w_32) (
            J [t29] w_23)) (fun u _ w_20 =>
          vfaddr P T_impl_Term t3 4 w_20 fun t42 w_33 =>
          vload P T_Limpl_Term t42 w_33 fun t43 w_34 =>
          vbi P .len [T_Limpl_Term] T_int [t43] w_34 fun t44 w_35 =>
          vloop [(sl 0 u), (.int .i64 0)] w_35 fun C u_1 _ w_36 =>
            vbin P .lss T_int false (sl 1 u_1) t44 w_36 fun t46 w_37 =>
            vif t46 (
              viaddr P T_Limpl_Term t43 (sl 1 u_1) w_37 fun t47 w_38 =>
              vload P T_impl_Term t47 w_38 fun t48 w_39 =>
              valloc P T_impl_Term w_39 fun t7 w_40 =>
              vstore P T_impl_Term t7 t48 w_40 fun _ w_41 =>
              vload P T_impl_Term t7 w_41 fun t51 w_42 =>
              vcall P n_impl_textOf #[v0, t51] w_42 fun t52 w_43 =>
              vbuildS P T_Lstring 1 [(0, t52)] w_43 fun t53 w_44 =>
              vbi P .append [T_Lstring, T_Lstring] T_Lstring [(sl 0 u_1), t53] w_44 fun t54 w_45 =>
              vbin P .add T_int true (sl 1 u_1) (.int .i64 1) w_45 fun t55 w_46 =>
              C [t54, t55] w_46) (
              vcall P n_strings_Join #[(sl 0 u_1), (.string { data := #[32] })] w_37 fun t57 w_47 =>
              vbin P .add T_string true (.string { data := #[40] }) t57 w_47 fun t58 w_48 =>
              vbin P .add T_string true t58 (.string { data := #[41] }) w_48 fun t59 w_49 =>
              R t59 w_49)))))
def A_impl_textOf : Ann := { ord := [(10, [0, 1, 2, 4, 5, 3, 6, 7, 8, 9], [(0, [8, 9]), (1, [2, 3, 6, 7, 8, 9]), (2, [3, 6, 7, 8, 9]), (4, [5, 6, 7, 8, 9]), (5, [6, 7, 8, 9]), (3, [6, 7, 8, 9]), (6, [7, 8, 9]), (7, [8, 9]), (8, [9])])], loops := [(12, [5, 45])], cuts := [(40971, [5])] }
theorem k_impl_textOf (v0 v1 : Value) (w : World) (R : Value → World → Prop) : vc PP A_impl_textOf ((Tryz.f73.body).getD .skip) (retF PP Tryz.f73.results.toList R) (nthV [v0, v1]) w = F_impl_textOf PP v0 v1 w R := by kernel_rfl
theorem c_impl_textOf {v0 v1 : Value} {w : World} {R : Value → World → Prop} (h : F_impl_textOf PP v0 v1 w R) : vcall PP n_impl_textOf #[v0, v1] w R :=
  call_of_vc (T := A_impl_textOf) (c := (Tryz.f73.body).getD .skip) (n := 60) mixed Tryz.func73 rfl rfl (by kernel_rfl) (by kernel_rfl) rfl (by rw [k_impl_textOf]; exact h)

/-- spec.l2Text -/
def F_spec_l2Text (P : Program) (v0 : Value) (w : World) (R : Value → World → Prop) : Prop :=
  vbox P T_impl_Term v0 w fun t1 w_1 =>
  vfaddr P T_impl_Term t1 0 w_1 fun t5 w_2 =>
  vload P T_int t5 w_2 fun t6 w_3 =>
  vbin P .eql T_int true t6 (.int .i64 20) w_3 fun t8 w_4 =>
  vif t8 (
    vfaddr P T_impl_Term t1 1 w_4 fun t9 w_5 =>
    vload P T_int t9 w_5 fun t10 w_6 =>
    vfaddr P T_impl_Term t1 2 w_6 fun t11 w_7 =>
    vload P T_int t11 w_7 fun t12 w_8 =>
    vbuild P T_impl_Vec [(0, t10), (1, t12)] w_8 fun t13 w_9 =>
    vcall P n_spec_VecText #[t13] w_9 fun t14 w_10 =>
    R t14 w_10) (
    vbin P .eql T_int true t6 (.int .i64 21) w_4 fun t16 w_11 =>
    vif t16 (
      vfaddr P T_impl_Term t1 3 w_11 fun t17 w_12 =>
      vload P T_string t17 w_12 fun t18 w_13 =>
      R t18 w_13) (
      vbin P .eql T_int true t6 (.int .i64 24) w_11 fun t20 w_14 =>
      vif t20 (
        R (.string { data := #[116, 114, 117, 101] }) w_14) (
        vdraw w_14 fun w_15 =>
        vfaddr P T_impl_Term t1 0 w_15 fun t22 w_16 => w_16 = w_15 ∧
        vload P T_int t22 w_15 fun t23 w_17 => w_17 = w_15 ∧
        vcall P n_spec_l2Words #[] w_15 fun t21 w_18 => (vload P T_int t22 w_18 fun v x => v = t23 ∧ x = w_18) ∧ (vfaddr P T_impl_Term t1 0 w_18 fun v x => v = t22 ∧ x = w_18) ∧
        viaddr P T_Lstring t21 t23 w_18 fun t24 w_19 => w_19 = w_18 ∧
        vload P T_string t24 w_18 fun t25 w_20 => w_20 = w_18 ∧
        vbin P .add T_string true (.string { data := #[40] }) t25 w_18 fun t26 w_21 => w_21 = w_18 ∧
        vjoin (fun J =>
          vfaddr P T_impl_Term t1 0 w_18 fun t27 w_23 =>
          vload P T_int t27 w_23 fun t28 w_24 =>
          vbin P .eql T_int true t28 (.int .i64 22) w_24 fun t29 w_25 =>
          vif t29 (
            vdraw w_25 fun w_26 =>
            vbin P .add T_string true t26 (.string { data := #[32] }) w_26 fun t31 w_27 => w_27 = w_26 ∧
            vfaddr P T_impl_Term t1 1 w_26 fun t32 w_28 => w_28 = w_26 ∧
            vload P T_int t32 w_26 fun t33 w_29 => w_29 = w_26 ∧
            vfaddr P T_impl_Term t1 2 w_26 fun t37 w_30 => w_30 = w_26 ∧
            vload P T_int t37 w_26 fun t38 w_31 => w_31 = w_26 ∧
            vcall P n_spec_l12Dec #[t33] w_26 fun t34 w_32 => (vload P T_int t37 w_32 fun v x => v = t38 ∧ x = w_32) ∧ (vfaddr P T_impl_Term t1 2 w_32 fun v x => v = t37 ∧ x = w_32) ∧ (vbin P .add T_string true t26 (.string { data := #[32] }) w_32 fun v x => v = t31 ∧ x = w_32) ∧
            vbin P .add T_string false t31 t34 w_32 fun t35 w_33 => w_33 = w_32 ∧
            vbin P .add T_string true t35 (.string { data := #[32] }) w_32 fun t36 w_34 => w_34 = w_32 ∧
            vcall P n_spec_l12Dec #[t38] w_32 fun t39 w_35 => (vbin P .add T_string true t35 (.string { data := #[32] }) w_35 fun v x => v = t36 ∧ x = w_35) ∧ (vbin P .add T_string false t31 t34 w_35 fun v x => v = t35 ∧ x = w_35) ∧ (vbin P .add T_string true t26 (.string { data := #[32] }) w_35 fun v x => v = t31 ∧ x = w_35) ∧
            vbin P .add T_string false t36 t39 w_35 fun t40 w_36 => w_36 = w_35 ∧
            J [t40] w_35) (
            J [t26] w_25)) (fun u _ w_22 =>
          vloop [(sl 0 u), (.int .i64 0)] w_22 fun C u_1 _ w_37 =>
            vfaddr P T_impl_Term t1 4 w_37 fun t42 w_38 =>
            vload P T_Limpl_Term t42 w_38 fun t43 w_39 =>
            vbi P .len [T_Limpl_Term] T_int [t43] w_39 fun t44 w_40 =>
            vbin P .lss T_int false (sl 1 u_1) t44 w_40 fun t45 w_41 =>
            vif t45 (
              vbin P .add T_string true (sl 0 u_1) (.string { data := #[32] }) w_41 fun t49 w_42 =>
              vfaddr P T_impl_Term t1 4 w_42 fun t50 w_43 =>
              vload P T_Limpl_Term t50 w_43 fun t51 w_44 =>
              viaddr P T_Limpl_Term t51 (sl 1 u_1) w_44 fun t53 w_45 =>
              vload P T_impl_Term t53 w_45 fun t54 w_46 =>
              vcall P n_spec_l2Text #[t54] w_46 fun t55 w_47 =>
              vbin P .add T_string false t49 t55 w_47 fun t56 w_48 =>
              vbin P .add T_int true (sl 1 u_1) (.int .i64 1) w_48 fun t47 w_49 =>
              C [t56, t47] w_49) (
              vbin P .add T_string true (sl 0 u_1) (.string { data := #[41] }) w_41 fun t58 w_50 =>
              R t58 w_50)))))
def A_spec_l2Text : Ann := { ord := [(8, [1, 2, 0, 3, 4, 5, 6], [(1, [2, 3, 4, 5, 6]), (2, [3, 4, 5, 6]), (0, [3, 4, 5, 6]), (3, [4, 5, 6]), (4, [5, 6]), (5, [6])]), (10, [0, 1, 2, 3, 7, 8, 4, 5, 6, 9, 10, 11], [(0, [1, 5, 6, 10, 11]), (1, [5, 6, 10, 11]), (2, [3, 4, 5, 6, 9, 10, 11]), (3, [4, 5, 6, 9, 10, 11]), (7, [8, 9, 10, 11]), (8, [9, 10, 11]), (4, [5, 6, 9, 10, 11]), (5, [6, 10, 11]), (6, [10, 11]), (9, [10, 11]), (10, [11])])], loops := [(12, [3, 4])], cuts := [(40971, [3])] }
theorem k_spec_l2Text (v0 : Value) (w : World) (R : Value → World → Prop) : vc PP A_spec_l2Text ((Tryz.f74.body).getD .skip) (retF PP Tryz.f74.results.toList R) (nthV [v0]) w = F_spec_l2Text PP v0 w R := by kernel_rfl
theorem c_spec_l2Text {v0 : Value} {w : World} {R : Value → World → Prop} (h : F_spec_l2Text PP v0 w R) : vcall PP n_spec_l2Text #[v0] w R :=
  call_of_vc (T := A_spec_l2Text) (c := (Tryz.f74.body).getD .skip) (n := 59) mixed Tryz.func74 rfl rfl (by kernel_rfl) (by kernel_rfl) rfl (by rw [k_spec_l2Text]; exact h)

/-- slices.EqualFunc[[]impl.Term,[]impl.Term,impl.Term,impl.Term] -/
def F_slices_EqualFunc_Limpl_Term_Limpl_Term_impl_Term_impl_Term (P : Program) (v0 v1 v2 : Value) (w : World) (R : Value → World → Prop) : Prop :=
  vbi P .len [T_Limpl_Term] T_int [v0] w fun t11 w_1 =>
  vbi P .len [T_Limpl_Term] T_int [v1] w_1 fun t13 w_2 =>
  vbin P .neq T_int false t11 t13 w_2 fun t14 w_3 =>
  vif t14 (
    R (.bool false) w_3) (
    vbi P .len [T_Limpl_Term] T_int [v0] w_3 fun t16 w_4 =>
    vloop [(.int .i64 0)] w_4 fun C u _ w_5 =>
      vbin P .lss T_int false (sl 0 u) t16 w_5 fun t18 w_6 =>
      vif t18 (
        viaddr P T_Limpl_Term v0 (sl 0 u) w_6 fun t20 w_7 =>
        vload P T_impl_Term t20 w_7 fun t21 w_8 =>
        valloc P T_impl_Term w_8 fun t8 w_9 =>
        vstore P T_impl_Term t8 t21 w_9 fun _ w_10 =>
        viaddr P T_Limpl_Term v1 (sl 0 u) w_10 fun t24 w_11 =>
        vload P T_impl_Term t24 w_11 fun t25 w_12 =>
        valloc P T_impl_Term w_12 fun t9 w_13 =>
        vstore P T_impl_Term t9 t25 w_13 fun _ w_14 =>
        vload P T_impl_Term t8 w_14 fun t27 w_15 =>
        vload P T_impl_Term t9 w_15 fun t28 w_16 =>
        vcallv P v2 #[t27, t28] w_16 fun t29 w_17 =>
        vun P .not t29 w_17 fun t30 w_18 =>
        vif t30 (
          R (.bool false) w_18) (
          vbin P .add T_int true (sl 0 u) (.int .i64 1) w_18 fun t31 w_19 =>
          C [t31] w_19)) (
        R (.bool true) w_6))
def A_slices_EqualFunc_Limpl_Term_Limpl_Term_impl_Term_impl_Term : Ann := { ord := [], loops := [(4, [17])], cuts := [] }
theorem k_slices_EqualFunc_Limpl_Term_Limpl_Term_impl_Term_impl_Term (v0 v1 v2 : Value) (w : World) (R : Value → World → Prop) : vc PP A_slices_EqualFunc_Limpl_Term_Limpl_Term_impl_Term_impl_Term ((Tryz.f75.body).getD .skip) (retF PP Tryz.f75.results.toList R) (nthV [v0, v1, v2]) w = F_slices_EqualFunc_Limpl_Term_Limpl_Term_impl_Term_impl_Term PP v0 v1 v2 w R := by kernel_rfl
theorem c_slices_EqualFunc_Limpl_Term_Limpl_Term_impl_Term_impl_Term {v0 v1 v2 : Value} {w : World} {R : Value → World → Prop} (h : F_slices_EqualFunc_Limpl_Term_Limpl_Term_impl_Term_impl_Term PP v0 v1 v2 w R) : vcall PP n_slices_EqualFunc_Limpl_Term_Limpl_Term_impl_Term_impl_Term #[v0, v1, v2] w R :=
  call_of_vc (T := A_slices_EqualFunc_Limpl_Term_Limpl_Term_impl_Term_impl_Term) (c := (Tryz.f75.body).getD .skip) (n := 32) mixed Tryz.func75 rfl rfl (by kernel_rfl) (by kernel_rfl) rfl (by rw [k_slices_EqualFunc_Limpl_Term_Limpl_Term_impl_Term_impl_Term]; exact h)

/-- (*spec.l12Rd).pick -/
def F_spec_l12Rd_pick (P : Program) (v0 v1 : Value) (w : World) (R : Value → World → Prop) : Prop :=
  vnil P v0 w fun t9 w_1 =>
  vfaddr P T_spec_l12Rd t9 1 w_1 fun t10 w_2 =>
  vload P T_int t10 w_2 fun t11 w_3 =>
  vbin P .add T_int true t11 (.int .i64 1) w_3 fun t12 w_4 =>
  vnil P v0 w_4 fun t13 w_5 =>
  vfaddr P T_spec_l12Rd t13 1 w_5 fun t14 w_6 =>
  vstore P T_int t14 t12 w_6 fun _ w_7 =>
  vjoin (fun J =>
    vbin P .lss T_int true v1 (.int .i64 1) w_7 fun t16 w_9 =>
    vif t16 (
      R (.int .i64 0) w_9) (
      vnil P v0 w_9 fun t19 w_10 =>
      vfaddr P T_spec_l12Rd t19 0 w_10 fun t20 w_11 =>
      vload P T_Luint8 t20 w_11 fun t21 w_12 =>
      vbi P .len [T_Luint8] T_int [t21] w_12 fun t22 w_13 =>
      vbin P .eql T_int true t22 (.int .i64 0) w_13 fun t23 w_14 =>
      vif t23 (
        R (.int .i64 0) w_14) (
        J [] w_14))) (fun _ _ w_8 =>
    vnil P v0 w_8 fun t26 w_15 =>
    vfaddr P T_spec_l12Rd t26 1 w_15 fun t27 w_16 =>
    vload P T_int t27 w_16 fun t28 w_17 =>
    vbin P .sub T_int true t28 (.int .i64 1) w_17 fun t29 w_18 =>
    vnil P v0 w_18 fun t32 w_19 =>
    vfaddr P T_spec_l12Rd t32 0 w_19 fun t33 w_20 =>
    vload P T_Luint8 t33 w_20 fun t34 w_21 =>
    vbi P .len [T_Luint8] T_int [t34] w_21 fun t35 w_22 =>
    vbin P .lss T_int false t29 t35 w_22 fun t36 w_23 =>
    vif t36 (
      vnil P v0 w_23 fun t38 w_24 =>
      vfaddr P T_spec_l12Rd t38 0 w_24 fun t39 w_25 =>
      vload P T_Luint8 t39 w_25 fun t40 w_26 =>
      viaddr P T_Luint8 t40 t29 w_26 fun t42 w_27 =>
      vload P T_uint8 t42 w_27 fun t43 w_28 =>
      vconv P T_uint8 T_int t43 w_28 fun t44 w_29 =>
      vbin P .rem T_int false t44 v1 w_29 fun t46 w_30 =>
      R t46 w_30) (
      vdraw w_23 fun w_31 =>
      vnil P v0 w_31 fun t48 w_32 => w_32 = w_31 ∧
      vfaddr P T_spec_l12Rd t48 0 w_31 fun t49 w_33 => w_33 = w_31 ∧
      vload P T_Luint8 t49 w_31 fun t50 w_34 => w_34 = w_31 ∧
      vnil P v0 w_31 fun t53 w_35 => w_35 = w_31 ∧
      vfaddr P T_spec_l12Rd t53 0 w_31 fun t54 w_36 => w_36 = w_31 ∧
      vload P T_Luint8 t54 w_31 fun t55 w_37 => w_37 = w_31 ∧
      vbi P .len [T_Luint8] T_int [t55] w_31 fun t56 w_38 => w_38 = w_31 ∧
      vbin P .rem T_int false t29 t56 w_31 fun t57 w_39 => w_39 = w_31 ∧
      viaddr P T_Luint8 t50 t57 w_31 fun t58 w_40 => w_40 = w_31 ∧
      vload P T_uint8 t58 w_31 fun t59 w_41 => w_41 = w_31 ∧
      vconv P T_uint8 T_int t59 w_31 fun t60 w_42 => w_42 = w_31 ∧
      vbin P .mul T_int true t60 (.int .i64 131) w_31 fun t61 w_43 => w_43 = w_31 ∧
      vnil P v0 w_31 fun t63 w_44 => w_44 = w_31 ∧
      vfaddr P T_spec_l12Rd t63 0 w_31 fun t64 w_45 => w_45 = w_31 ∧
      vload P T_Luint8 t64 w_31 fun t65 w_46 => w_46 = w_31 ∧
      vbin P .mul T_int true t29 (.int .i64 7) w_31 fun t67 w_47 => w_47 = w_31 ∧
      vbin P .add T_int true t67 (.int .i64 3) w_31 fun t68 w_48 => w_48 = w_31 ∧
      vnil P v0 w_31 fun t70 w_49 => w_49 = w_31 ∧
      vfaddr P T_spec_l12Rd t70 0 w_31 fun t71 w_50 => w_50 = w_31 ∧
      vload P T_Luint8 t71 w_31 fun t72 w_51 => w_51 = w_31 ∧
      vbi P .len [T_Luint8] T_int [t72] w_31 fun t73 w_52 => w_52 = w_31 ∧
      vbin P .rem T_int false t68 t73 w_31 fun t74 w_53 => w_53 = w_31 ∧
      viaddr P T_Luint8 t65 t74 w_31 fun t75 w_54 => w_54 = w_31 ∧
      vload P T_uint8 t75 w_31 fun t76 w_55 => w_55 = w_31 ∧
      vconv P T_uint8 T_int t76 w_31 fun t77 w_56 => w_56 = w_31 ∧
      vbin P .mul T_int true t77 (.int .i64 1117) w_31 fun t78 w_57 => w_57 = w_31 ∧
      vbin P .add T_int false t61 t78 w_31 fun t79 w_58 => w_58 = w_31 ∧
      vbin P .mul T_int true t29 (.int .i64 29) w_31 fun t81 w_59 => w_59 = w_31 ∧
      vbin P .add T_int false t79 t81 w_31 fun t82 w_60 => w_60 = w_31 ∧
      vnil P v0 w_31 fun t85 w_61 => w_61 = w_31 ∧
      vfaddr P T_spec_l12Rd t85 0 w_31 fun t86 w_62 => w_62 = w_31 ∧
      vload P T_Luint8 t86 w_31 fun t87 w_63 => w_63 = w_31 ∧
      vbi P .len [T_Luint8] T_int [t87] w_31 fun t88 w_64 => w_64 = w_31 ∧
      vbin P .quo T_int false t29 t88 w_31 fun t89 w_65 => w_65 = w_31 ∧
      vbin P .mul T_int true t89 (.int .i64 53) w_31 fun t90 w_66 => w_66 = w_31 ∧
      vbin P .add T_int false t82 t90 w_31 fun t91 w_67 => w_67 = w_31 ∧
      vbin P .quo T_int true t91 (.int .i64 64) w_31 fun t94 w_68 =>
      vbin P .xor T_int false t91 t94 w_68 fun t95 w_69 =>
      vbin P .rem T_int false t95 v1 w_69 fun t98 w_70 =>
      R t98 w_70))
def A_spec_l12Rd_pick : Ann := { ord := [(7, [0, 1, 2, 3, 4, 5, 6, 7, 8, 9, 10, 11, 12, 13, 14, 15, 16, 17, 18, 19, 20, 21, 22, 23, 24, 25, 26, 27, 28, 29, 30, 31, 32, 33, 34, 35, 36, 37, 38, 39, 40, 41, 42, 43, 44, 45], [(0, [1, 2, 3, 11, 12, 13, 14, 32, 35, 44, 45]), (1, [2, 3, 11, 12, 13, 14, 32, 35, 44, 45]), (2, [3, 11, 12, 13, 14, 32, 35, 44, 45]), (3, [11, 12, 13, 14, 32, 35, 44, 45]), (4, [10, 11, 12, 13, 14, 32, 35, 44, 45]), (5, [6, 7, 8, 9, 10, 11, 12, 13, 14, 32, 35, 44, 45]), (6, [7, 8, 9, 10, 11, 12, 13, 14, 32, 35, 44, 45]), (7, [8, 9, 10, 11, 12, 13, 14, 32, 35, 44, 45]), (8, [9, 10, 11, 12, 13, 14, 32, 35, 44, 45]), (9, [10, 11, 12, 13, 14, 32, 35, 44, 45]), (10, [11, 12, 13, 14, 32, 35, 44, 45]), (11, [12, 13, 14, 32, 35, 44, 45]), (12, [13, 14, 32, 35, 44, 45]), (13, [14, 32, 35, 44, 45]), (14, [32, 35, 44, 45]), (15, [16, 17, 18, 28, 29, 30, 31, 32, 35, 44, 45]), (16, [17, 18, 28, 29, 30, 31, 32, 35, 44, 45]), (17, [18, 28, 29, 30, 31, 32, 35, 44, 45]), (18, [28, 29, 30, 31, 32, 35, 44, 45]), (19, [20, 21, 27, 28, 29, 30, 31, 32, 35, 44, 45]), (20, [21, 27, 28, 29, 30, 31, 32, 35, 44, 45]), (21, [27, 28, 29, 30, 31, 32, 35, 44, 45]), (22, [23, 24, 25, 26, 27, 28, 29, 30, 31, 32, 35, 44, 45]), (23, [24, 25, 26, 27, 28, 29, 30, 31, 32, 35, 44, 45]), (24, [25, 26, 27, 28, 29, 30, 31, 32, 35, 44, 45]), (25, [26, 27, 28, 29, 30, 31, 32, 35, 44, 45]), (26, [27, 28, 29, 30, 31, 32, 35, 44, 45]), (27, [28, 29, 30, 31, 32, 35, 44, 45]), (28, [29, 30, 31, 32, 35, 44, 45]), (29, [30, 31, 32, 35, 44, 45]), (30, [31, 32, 35, 44, 45]), (31, [32, 35, 44, 45]), (32, [35, 44, 45]), (33, [34, 35, 44, 45]), (34, [35, 44, 45]), (35, [44, 45]), (36, [42, 43, 44, 45]), (37, [38, 39, 40, 41, 42, 43, 44, 45]), (38, [39, 40, 41, 42, 43, 44, 45]), (39, [40, 41, 42, 43, 44, 45]), (40, [41, 42, 43, 44, 45]), (41, [42, 43, 44, 45]), (42, [43, 44, 45]), (43, [44, 45]), (44, [45])])], loops := [], cuts := [(12292, [])] }
theorem k_spec_l12Rd_pick (v0 v1 : Value) (w : World) (R : Value → World → Prop) : vc PP A_spec_l12Rd_pick ((Tryz.f76.body).getD .skip) (retF PP Tryz.f76.results.toList R) (nthV [v0, v1]) w = F_spec_l12Rd_pick PP v0 v1 w R := by kernel_rfl
theorem c_spec_l12Rd_pick {v0 v1 : Value} {w : World} {R : Value → World → Prop} (h : F_spec_l12Rd_pick PP v0 v1 w R) : vcall PP n_spec_l12Rd_pick #[v0, v1] w R :=
  call_of_vc (T := A_spec_l12Rd_pick) (c := (Tryz.f76.body).getD .skip) (n := 99) mixed Tryz.func76 rfl rfl (by kernel_rfl) (by kernel_rfl) rfl (by rw [k_spec_l12Rd_pick]; exact h)

/-- (*spec.l12Rd).of -/
def F_spec_l12Rd_of (P : Program) (v0 v1 : Value) (w : World) (R : Value → World → Prop) : Prop :=
  vbi P .len [T_Lstring] T_int [v1] w fun t8 w_1 =>
  vcall P n_spec_l12Rd_pick #[v0, t8] w_1 fun t9 w_2 =>
  viaddr P T_Lstring v1 t9 w_2 fun t10 w_3 =>
  vload P T_string t10 w_3 fun t11 w_4 =>
  R t11 w_4
def A_spec_l12Rd_of : Ann := { ord := [], loops := [], cuts := [] }
theorem k_spec_l12Rd_of (v0 v1 : Value) (w : World) (R : Value → World → Prop) : vc PP A_spec_l12Rd_of ((Tryz.f77.body).getD .skip) (retF PP Tryz.f77.results.toList R) (nthV [v0, v1]) w = F_spec_l12Rd_of PP v0 v1 w R := by kernel_rfl
theorem c_spec_l12Rd_of {v0 v1 : Value} {w : World} {R : Value → World → Prop} (h : F_spec_l12Rd_of PP v0 v1 w R) : vcall PP n_spec_l12Rd_of #[v0, v1] w R :=
  call_of_vc (T := A_spec_l12Rd_of) (c := (Tryz.f77.body).getD .skip) (n := 12) mixed Tryz.func77 rfl rfl (by kernel_rfl) (by kernel_rfl) rfl (by rw [k_spec_l12Rd_of]; exact h)

/-- spec.VecOk -/
def F_spec_VecOk (P : Program) (v0 : Value) (w : World) (R : Value → World → Prop) : Prop :=
  vbox P T_impl_Vec v0 w fun t1 w_1 =>
  vdraw w_1 fun w_2 =>
  vfaddr P T_impl_Vec t1 0 w_2 fun t3 w_3 => w_3 = w_2 ∧
  vload P T_int t3 w_2 fun t4 w_4 => w_4 = w_2 ∧
  vbin P .geq T_int true t4 (.int .i64 1) w_2 fun t5 w_5 => w_5 = w_2 ∧
  vif t5 (
    vfaddr P T_impl_Vec t1 0 w_2 fun t7 w_6 => w_6 = w_2 ∧
    vload P T_int t7 w_2 fun t8 w_7 => w_7 = w_2 ∧
    vbin P .leq T_int true t8 (.int .i64 4) w_2 fun t9 w_8 => w_8 = w_2 ∧
    vif t9 (
      vfaddr P T_impl_Vec t1 1 w_2 fun t12 w_9 => w_9 = w_2 ∧
      vload P T_int t12 w_2 fun t13 w_10 => w_10 = w_2 ∧
      vbin P .geq T_int true t13 (.int .i64 0) w_2 fun t14 w_11 => w_11 = w_2 ∧
      vif t14 (
        vfaddr P T_impl_Vec t1 1 w_2 fun t17 w_12 => w_12 = w_2 ∧
        vload P T_int t17 w_2 fun t18 w_13 => w_13 = w_2 ∧
        vfaddr P T_impl_Vec t1 0 w_2 fun t19 w_14 => w_14 = w_2 ∧
        vload P T_int t19 w_2 fun t20 w_15 => w_15 = w_2 ∧
        vcall P n_spec_l1Two #[t20] w_2 fun t21 w_16 => (vload P T_int t17 w_16 fun v x => v = t18 ∧ x = w_16) ∧ (vfaddr P T_impl_Vec t1 1 w_16 fun v x => v = t17 ∧ x = w_16) ∧
        vbin P .lss T_int false t18 t21 w_16 fun t22 w_17 => w_17 = w_16 ∧
        R t22 w_16) (
        R (.bool false) w_2)) (
      R (.bool false) w_2)) (
    R (.bool false) w_2)
def A_spec_VecOk : Ann := { ord := [(1, [0, 1, 2, 3, 4, 5, 6, 7, 8, 9, 10, 11, 12, 13, 14, 15, 16, 17, 18, 19, 20, 21], [(0, [1, 2, 3, 4, 5, 6, 7, 8, 9, 10, 11, 12, 13, 14, 15, 16, 17, 18, 19, 20, 21]), (1, [2, 3, 4, 5, 6, 7, 8, 9, 10, 11, 12, 13, 14, 15, 16, 17, 18, 19, 20, 21]), (2, [3, 4, 5, 6, 7, 8, 9, 10, 11, 12, 13, 14, 15, 16, 17, 18, 19, 20, 21]), (3, [4, 5, 6, 7, 8, 9, 10, 11, 12, 13, 14, 15, 16, 17, 18, 19, 20, 21]), (4, [5, 6, 7, 8, 9, 10, 11, 12, 13, 14, 15, 16, 17, 18, 19, 20, 21]), (5, [6, 7, 8, 9, 10, 11, 12, 13, 14, 15, 16, 17, 18, 19, 20, 21]), (6, [7, 8, 9, 10, 11, 12, 13, 14, 15, 16, 17, 18, 19, 20, 21]), (7, [8, 9, 10, 11, 12, 13, 14, 15, 16, 17, 18, 19, 20, 21]), (8, [9, 10, 11, 12, 13, 14, 15, 16, 17, 18, 19, 20, 21]), (9, [10, 11, 12, 13, 14, 15, 16, 17, 18, 19, 20, 21]), (10, [11, 12, 13, 14, 15, 16, 17, 18, 19, 20, 21]), (11, [12, 13, 14, 15, 16, 17, 18, 19, 20, 21]), (12, [13, 14, 15, 16, 17, 18, 19, 20, 21]), (13, [14, 15, 16, 17, 18, 19, 20, 21]), (14, [15, 19, 20, 21]), (15, [19, 20, 21]), (16, [17, 18, 19, 20, 21]), (17, [18, 19, 20, 21]), (18, [19, 20, 21]), (19, [20, 21]), (20, [21])])], loops := [], cuts := [] }
theorem k_spec_VecOk (v0 : Value) (w : World) (R : Value → World → Prop) : vc PP A_spec_VecOk ((Tryz.f78.body).getD .skip) (retF PP Tryz.f78.results.toList R) (nthV [v0]) w = F_spec_VecOk PP v0 w R := by kernel_rfl
theorem c_spec_VecOk {v0 : Value} {w : World} {R : Value → World → Prop} (h : F_spec_VecOk PP v0 w R) : vcall PP n_spec_VecOk #[v0] w R :=
  call_of_vc (T := A_spec_VecOk) (c := (Tryz.f78.body).getD .skip) (n := 24) mixed Tryz.func78 rfl rfl (by kernel_rfl) (by kernel_rfl) rfl (by rw [k_spec_VecOk]; exact h)

/-- spec.l2Find -/
def F_spec_l2Find (P : Program) (v0 v1 : Value) (w : World) (R : Value → World → Prop) : Prop :=
  vloop [(.int .i64 0)] w fun C u _ w_1 =>
    vbi P .len [T_Limpl_Decl] T_int [v0] w_1 fun t8 w_2 =>
    vbin P .lss T_int false (sl 0 u) t8 w_2 fun t9 w_3 =>
    vif t9 (
      viaddr P T_Limpl_Decl v0 (sl 0 u) w_3 fun t14 w_4 =>
      vfaddr P T_impl_Decl t14 0 w_4 fun t15 w_5 =>
      vload P T_string t15 w_5 fun t16 w_6 =>
      vbin P .eql T_string false t16 v1 w_6 fun t18 w_7 =>
      vif t18 (
        R (sl 0 u) w_7) (
        vbin P .add T_int true (sl 0 u) (.int .i64 1) w_7 fun t11 w_8 =>
        C [t11] w_8)) (
      R (.int .i64 (-1)) w_3)
def A_spec_l2Find : Ann := { ord := [], loops := [(2, [5])], cuts := [] }
theorem k_spec_l2Find (v0 v1 : Value) (w : World) (R : Value → World → Prop) : vc PP A_spec_l2Find ((Tryz.f79.body).getD .skip) (retF PP Tryz.f79.results.toList R) (nthV [v0, v1]) w = F_spec_l2Find PP v0 v1 w R := by kernel_rfl
theorem c_spec_l2Find {v0 v1 : Value} {w : World} {R : Value → World → Prop} (h : F_spec_l2Find PP v0 v1 w R) : vcall PP n_spec_l2Find #[v0, v1] w R :=
  call_of_vc (T := A_spec_l2Find) (c := (Tryz.f79.body).getD .skip) (n := 20) mixed Tryz.func79 rfl rfl (by kernel_rfl) (by kernel_rfl) rfl (by rw [k_spec_l2Find]; exact h)

/-- spec.l1Max -/
def F_spec_l1Max (P : Program) (v0 v1 : Value) (w : World) (R : Value → World → Prop) : Prop :=
  vbin P .gtr T_int false v0 v1 w fun t7 w_1 =>
  vif t7 (
    R v0 w_1) (
    R v1 w_1)
def A_spec_l1Max : Ann := { ord := [], loops := [], cuts := [] }
theorem k_spec_l1Max (v0 v1 : Value) (w : World) (R : Value → World → Prop) : vc PP A_spec_l1Max ((Tryz.f80.body).getD .skip) (retF PP Tryz.f80.results.toList R) (nthV [v0, v1]) w = F_spec_l1Max PP v0 v1 w R := by kernel_rfl
theorem c_spec_l1Max {v0 v1 : Value} {w : World} {R : Value → World → Prop} (h : F_spec_l1Max PP v0 v1 w R) : vcall PP n_spec_l1Max #[v0, v1] w R :=
  call_of_vc (T := A_spec_l1Max) (c := (Tryz.f80.body).getD .skip) (n := 10) mixed Tryz.func80 rfl rfl (by kernel_rfl) (by kernel_rfl) rfl (by rw [k_spec_l1Max]; exact h)

/-- spec.l2Do -/
def F_spec_l2Do (P : Program) (v0 v1 v2 : Value) (w : World) (R : Value → World → Prop) : Prop :=
  vbox P T_impl_Term v1 w fun t4 w_1 =>
  vfaddr P T_impl_Term t4 4 w_1 fun t18 w_2 =>
  vload P T_Limpl_Term t18 w_2 fun t19 w_3 =>
  viaddr P T_Limpl_Term t19 (.int .i64 0) w_3 fun t20 w_4 =>
  vload P T_impl_Term t20 w_4 fun t21 w_5 =>
  vcall P n_spec_l2Vec #[v0, t21, v2] w_5 fun t23 w_6 =>
  valloc P T_impl_Vec w_6 fun t7 w_7 =>
  vstore P T_impl_Vec t7 t23 w_7 fun _ w_8 =>
  vfaddr P T_impl_Term t4 0 w_8 fun t24 w_9 =>
  vload P T_int t24 w_9 fun t25 w_10 =>
  vbin P .eql T_int true t25 (.int .i64 22) w_10 fun t26 w_11 =>
  vif t26 (
    vload P T_impl_Vec t7 w_11 fun t28 w_12 =>
    vfaddr P T_impl_Term t4 1 w_12 fun t29 w_13 =>
    vload P T_int t29 w_13 fun t30 w_14 =>
    vfaddr P T_impl_Term t4 2 w_14 fun t31 w_15 =>
    vload P T_int t31 w_15 fun t32 w_16 =>
    vcall P n_spec_VecCut #[t28, t30, t32] w_16 fun t33 w_17 =>
    vextract P t33 0 w_17 fun t34 w_18 =>
    vextract P t33 1 w_18 fun _ w_19 =>
    valloc P T_impl_Vec w_19 fun t8 w_20 =>
    vstore P T_impl_Vec t8 t34 w_20 fun _ w_21 =>
    vfaddr P T_impl_Vec t8 1 w_21 fun t36 w_22 =>
    vload P T_int t36 w_22 fun t37 w_23 =>
    R t37 w_23) (
    vfaddr P T_impl_Term t4 4 w_11 fun t38 w_24 =>
    vload P T_Limpl_Term t38 w_24 fun t39 w_25 =>
    vbi P .len [T_Limpl_Term] T_int [t39] w_25 fun t40 w_26 =>
    vbin P .eql T_int true t40 (.int .i64 1) w_26 fun t41 w_27 =>
    vif t41 (
      vfaddr P T_impl_Term t4 0 w_27 fun t43 w_28 =>
      vload P T_int t43 w_28 fun t44 w_29 =>
      vload P T_impl_Vec t7 w_29 fun t45 w_30 =>
      vcall P n_spec_VecUn #[t44, t45] w_30 fun t46 w_31 =>
      vextract P t46 0 w_31 fun t47 w_32 =>
      vextract P t46 1 w_32 fun _ w_33 =>
      valloc P T_impl_Vec w_33 fun t10 w_34 =>
      vstore P T_impl_Vec t10 t47 w_34 fun _ w_35 =>
      vfaddr P T_impl_Vec t10 1 w_35 fun t49 w_36 =>
      vload P T_int t49 w_36 fun t50 w_37 =>
      R t50 w_37) (
      vfaddr P T_impl_Term t4 4 w_27 fun t52 w_38 =>
      vload P T_Limpl_Term t52 w_38 fun t53 w_39 =>
      viaddr P T_Limpl_Term t53 (.int .i64 1) w_39 fun t54 w_40 =>
      vload P T_impl_Term t54 w_40 fun t55 w_41 =>
      vcall P n_spec_l2Vec #[v0, t55, v2] w_41 fun t57 w_42 =>
      valloc P T_impl_Vec w_42 fun t12 w_43 =>
      vstore P T_impl_Vec t12 t57 w_43 fun _ w_44 =>
      vfaddr P T_impl_Term t4 0 w_44 fun t58 w_45 =>
      vload P T_int t58 w_45 fun t59 w_46 =>
      vbin P .geq T_int true t59 (.int .i64 15) w_46 fun t60 w_47 =>
      vif t60 (
        vfaddr P T_impl_Term t4 0 w_47 fun t62 w_48 =>
        vload P T_int t62 w_48 fun t63 w_49 =>
        vload P T_impl_Vec t7 w_49 fun t64 w_50 =>
        vload P T_impl_Vec t12 w_50 fun t65 w_51 =>
        vcall P n_spec_VecCmp #[t63, t64, t65] w_51 fun t66 w_52 =>
        vextract P t66 0 w_52 fun t67 w_53 =>
        vextract P t66 1 w_53 fun _ w_54 =>
        vcall P n_spec_l2Bool #[t67] w_54 fun t70 w_55 =>
        R t70 w_55) (
        vfaddr P T_impl_Term t4 0 w_47 fun t72 w_56 =>
        vload P T_int t72 w_56 fun t73 w_57 =>
        vload P T_impl_Vec t7 w_57 fun t74 w_58 =>
        vload P T_impl_Vec t12 w_58 fun t75 w_59 =>
        vcall P n_spec_VecBin #[t73, t74, t75] w_59 fun t76 w_60 =>
        vextract P t76 0 w_60 fun t77 w_61 =>
        vextract P t76 1 w_61 fun _ w_62 =>
        valloc P T_impl_Vec w_62 fun t15 w_63 =>
        vstore P T_impl_Vec t15 t77 w_63 fun _ w_64 =>
        vfaddr P T_impl_Vec t15 1 w_64 fun t79 w_65 =>
        vload P T_int t79 w_65 fun t80 w_66 =>
        R t80 w_66)))
def A_spec_l2Do : Ann := { ord := [], loops := [], cuts := [] }
theorem k_spec_l2Do (v0 v1 v2 : Value) (w : World) (R : Value → World → Prop) : vc PP A_spec_l2Do ((Tryz.f81.body).getD .skip) (retF PP Tryz.f81.results.toList R) (nthV [v0, v1, v2]) w = F_spec_l2Do PP v0 v1 v2 w R := by kernel_rfl
theorem c_spec_l2Do {v0 v1 v2 : Value} {w : World} {R : Value → World → Prop} (h : F_spec_l2Do PP v0 v1 v2 w R) : vcall PP n_spec_l2Do #[v0, v1, v2] w R :=
  call_of_vc (T := A_spec_l2Do) (c := (Tryz.f81.body).getD .skip) (n := 81) mixed Tryz.func81 rfl rfl (by kernel_rfl) (by kernel_rfl) rfl (by rw [k_spec_l2Do]; exact h)

/-- impl.kinds$1 -/
def F_impl_kinds_1 (P : Program) (v0 : Value) (w : World) (R : Value → World → Prop) : Prop :=
  R (.bool true) w
def A_impl_kinds_1 : Ann := { ord := [], loops := [], cuts := [] }
theorem k_impl_kinds_1 (v0 : Value) (w : World) (R : Value → World → Prop) : vc PP A_impl_kinds_1 ((Tryz.f82.body).getD .skip) (retF PP Tryz.f82.results.toList R) (nthV [v0]) w = F_impl_kinds_1 PP v0 w R := by kernel_rfl
theorem c_impl_kinds_1 {v0 : Value} {w : World} {R : Value → World → Prop} (h : F_impl_kinds_1 PP v0 w R) : vcall PP n_impl_kinds_1 #[v0] w R :=
  call_of_vc (T := A_impl_kinds_1) (c := (Tryz.f82.body).getD .skip) (n := 3) mixed Tryz.func82 rfl rfl (by kernel_rfl) (by kernel_rfl) rfl (by rw [k_impl_kinds_1]; exact h)

/-- impl.kinds$2 -/
def F_impl_kinds_2 (P : Program) (v0 : Value) (w : World) (R : Value → World → Prop) : Prop :=
  viaddr P T_Limpl_Vec v0 (.int .i64 0) w fun t4 w_1 =>
  vfaddr P T_impl_Vec t4 1 w_1 fun t5 w_2 =>
  vload P T_int t5 w_2 fun t6 w_3 =>
  vbin P .eql T_int true t6 (.int .i64 0) w_3 fun t7 w_4 =>
  R t7 w_4
def A_impl_kinds_2 : Ann := { ord := [], loops := [], cuts := [] }
theorem k_impl_kinds_2 (v0 : Value) (w : World) (R : Value → World → Prop) : vc PP A_impl_kinds_2 ((Tryz.f83.body).getD .skip) (retF PP Tryz.f83.results.toList R) (nthV [v0]) w = F_impl_kinds_2 PP v0 w R := by kernel_rfl
theorem c_impl_kinds_2 {v0 : Value} {w : World} {R : Value → World → Prop} (h : F_impl_kinds_2 PP v0 w R) : vcall PP n_impl_kinds_2 #[v0] w R :=
  call_of_vc (T := A_impl_kinds_2) (c := (Tryz.f83.body).getD .skip) (n := 8) mixed Tryz.func83 rfl rfl (by kernel_rfl) (by kernel_rfl) rfl (by rw [k_impl_kinds_2]; exact h)

/-- impl.kinds$3 -/
def F_impl_kinds_3 (P : Program) (v0 : Value) (w : World) (R : Value → World → Prop) : Prop :=
  viaddr P T_Limpl_Vec v0 (.int .i64 0) w fun t4 w_1 =>
  vfaddr P T_impl_Vec t4 1 w_1 fun t5 w_2 =>
  vload P T_int t5 w_2 fun t6 w_3 =>
  vbin P .eql T_int true t6 (.int .i64 1) w_3 fun t7 w_4 =>
  vif t7 (
    viaddr P T_Limpl_Vec v0 (.int .i64 1) w_4 fun t10 w_5 =>
    vfaddr P T_impl_Vec t10 1 w_5 fun t11 w_6 =>
    vload P T_int t11 w_6 fun t12 w_7 =>
    vbin P .eql T_int true t12 (.int .i64 1) w_7 fun t13 w_8 =>
    R t13 w_8) (
    R (.bool false) w_4)
def A_impl_kinds_3 : Ann := { ord := [], loops := [], cuts := [] }
theorem k_impl_kinds_3 (v0 : Value) (w : World) (R : Value → World → Prop) : vc PP A_impl_kinds_3 ((Tryz.f84.body).getD .skip) (retF PP Tryz.f84.results.toList R) (nthV [v0]) w = F_impl_kinds_3 PP v0 w R := by kernel_rfl
theorem c_impl_kinds_3 {v0 : Value} {w : World} {R : Value → World → Prop} (h : F_impl_kinds_3 PP v0 w R) : vcall PP n_impl_kinds_3 #[v0] w R :=
  call_of_vc (T := A_impl_kinds_3) (c := (Tryz.f84.body).getD .skip) (n := 15) mixed Tryz.func84 rfl rfl (by kernel_rfl) (by kernel_rfl) rfl (by rw [k_impl_kinds_3]; exact h)

/-- impl.kinds$4 -/
def F_impl_kinds_4 (P : Program) (v0 : Value) (w : World) (R : Value → World → Prop) : Prop :=
  viaddr P T_Limpl_Vec v0 (.int .i64 0) w fun t4 w_1 =>
  vfaddr P T_impl_Vec t4 1 w_1 fun t5 w_2 =>
  vload P T_int t5 w_2 fun t6 w_3 =>
  vbin P .eql T_int true t6 (.int .i64 1) w_3 fun t7 w_4 =>
  vif t7 (
    R (.bool true) w_4) (
    viaddr P T_Limpl_Vec v0 (.int .i64 1) w_4 fun t10 w_5 =>
    vfaddr P T_impl_Vec t10 1 w_5 fun t11 w_6 =>
    vload P T_int t11 w_6 fun t12 w_7 =>
    vbin P .eql T_int true t12 (.int .i64 1) w_7 fun t13 w_8 =>
    R t13 w_8)
def A_impl_kinds_4 : Ann := { ord := [], loops := [], cuts := [] }
theorem k_impl_kinds_4 (v0 : Value) (w : World) (R : Value → World → Prop) : vc PP A_impl_kinds_4 ((Tryz.f85.body).getD .skip) (retF PP Tryz.f85.results.toList R) (nthV [v0]) w = F_impl_kinds_4 PP v0 w R := by kernel_rfl
theorem c_impl_kinds_4 {v0 : Value} {w : World} {R : Value → World → Prop} (h : F_impl_kinds_4 PP v0 w R) : vcall PP n_impl_kinds_4 #[v0] w R :=
  call_of_vc (T := A_impl_kinds_4) (c := (Tryz.f85.body).getD .skip) (n := 15) mixed Tryz.func85 rfl rfl (by kernel_rfl) (by kernel_rfl) rfl (by rw [k_impl_kinds_4]; exact h)

/-- spec.l2Decls -/
def F_spec_l2Decls (P : Program) (v0 : Value) (w : World) (R : Value → World → Prop) : Prop :=
  vbuildS P T_Lstring 4 [(0, (.string { data := #[120] })), (1, (.string { data := #[121] })), (2, (.string { data := #[122] })), (3, (.string { data := #[119] }))] w fun t8 w_1 =>
  vbuildS P T_Limpl_Decl 0 [] w_1 fun t9 w_2 =>
  vloop [t9, (.int .i64 0), (.int .i64 0)] w_2 fun C u _ w_3 =>
    vjoin (fun J =>
      vcall P n_spec_l12Rd_pick #[v0, (.int .i64 4)] w_3 fun t12 w_5 =>
      vbin P .add T_int true (.int .i64 1) t12 w_5 fun t13 w_6 =>
      vbin P .lss T_int false (sl 2 u) t13 w_6 fun t14 w_7 =>
      vif t14 (
        vbin P .lss T_int true (sl 2 u) (.int .i64 4) w_7 fun t17 w_8 =>
        vif t17 (
          J [] w_8) (
          R (sl 0 u) w_8)) (
        R (sl 0 u) w_7)) (fun _ _ w_4 =>
      vcall P n_spec_l12Rd_pick #[v0, (.int .i64 4)] w_4 fun t22 w_9 =>
      vbin P .add T_int true (.int .i64 1) t22 w_9 fun t23 w_10 =>
      vbin P .sub T_int true (.int .i64 8) (sl 1 u) w_10 fun t25 w_11 =>
      vcall P n_spec_l1Min #[t23, t25] w_11 fun t26 w_12 =>
      vbin P .lss T_int true t26 (.int .i64 1) w_12 fun t28 w_13 =>
      vif t28 (
        R (sl 0 u) w_13) (
        viaddr P T_Lstring t8 (sl 2 u) w_13 fun t32 w_14 =>
        vload P T_string t32 w_14 fun t33 w_15 =>
        vbuild P T_impl_Decl [(0, t33), (1, t26)] w_15 fun t35 w_16 =>
        vbuildS P T_Limpl_Decl 1 [(0, t35)] w_16 fun t36 w_17 =>
        vbi P .append [T_Limpl_Decl, T_Limpl_Decl] T_Limpl_Decl [(sl 0 u), t36] w_17 fun t37 w_18 =>
        vbin P .add T_int false (sl 1 u) t26 w_18 fun t40 w_19 =>
        vbin P .add T_int true (sl 2 u) (.int .i64 1) w_19 fun t20 w_20 =>
        C [t37, t40, t20] w_20))
def A_spec_l2Decls : Ann := { ord := [], loops := [(5, [4, 5, 6])], cuts := [(24583, [])] }
theorem k_spec_l2Decls (v0 : Value) (w : World) (R : Value → World → Prop) : vc PP A_spec_l2Decls ((Tryz.f86.body).getD .skip) (retF PP Tryz.f86.results.toList R) (nthV [v0]) w = F_spec_l2Decls PP v0 w R := by kernel_rfl
theorem c_spec_l2Decls {v0 : Value} {w : World} {R : Value → World → Prop} (h : F_spec_l2Decls PP v0 w R) : vcall PP n_spec_l2Decls #[v0] w R :=
  call_of_vc (T := A_spec_l2Decls) (c := (Tryz.f86.body).getD .skip) (n := 42) mixed Tryz.func86 rfl rfl (by kernel_rfl) (by kernel_rfl) rfl (by rw [k_spec_l2Decls]; exact h)

/-- spec.l2Some -/
def F_spec_l2Some (P : Program) (v0 v1 v2 : Value) (w : World) (R : Value → World → Prop) : Prop :=
  valloc P T_impl_Term w fun t6 w_1 =>
  vloop [(.int .i64 4)] w_1 fun C u _ w_2 =>
    vbin P .gtr T_int true (sl 0 u) (.int .i64 0) w_2 fun t10 w_3 =>
    vif t10 (
      vcall P n_spec_l2Term #[v0, v1, v2, (sl 0 u)] w_3 fun t17 w_4 =>
      valloc P T_impl_Term w_4 fun t8 w_5 =>
      vstore P T_impl_Term t8 t17 w_5 fun _ w_6 =>
      vload P T_impl_Term t8 w_6 fun t19 w_7 =>
      vcall P n_spec_TermSort #[v1, t19] w_7 fun t20 w_8 =>
      vbin P .geq T_int true t20 (.int .i64 0) w_8 fun t21 w_9 =>
      vif t21 (
        vload P T_impl_Term t8 w_9 fun t22 w_10 =>
        vstore P T_impl_Term t6 t22 w_10 fun _ w_11 =>
        vlv P T_impl_Term t6 w_11 fun r6 w_12 =>
        R r6 w_12) (
        vbin P .sub T_int true (sl 0 u) (.int .i64 1) w_9 fun t12 w_13 =>
        C [t12] w_13)) (
      vcall P n_spec_l2Leafy #[v0, v1, v2] w_3 fun t26 w_14 =>
      vstore P T_impl_Term t6 t26 w_14 fun _ w_15 =>
      vlv P T_impl_Term t6 w_15 fun r6_1 w_16 =>
      R r6_1 w_16)
def A_spec_l2Some : Ann := { ord := [], loops := [(2, [7])], cuts := [] }
theorem k_spec_l2Some (v0 v1 v2 : Value) (w : World) (R : Value → World → Prop) : vc PP A_spec_l2Some ((Tryz.f87.body).getD .skip) (retF PP Tryz.f87.results.toList R) (nthV [v0, v1, v2]) w = F_spec_l2Some PP v0 v1 v2 w R := by kernel_rfl
theorem c_spec_l2Some {v0 v1 v2 : Value} {w : World} {R : Value → World → Prop} (h : F_spec_l2Some PP v0 v1 v2 w R) : vcall PP n_spec_l2Some #[v0, v1, v2] w R :=
  call_of_vc (T := A_spec_l2Some) (c := (Tryz.f87.body).getD .skip) (n := 27) mixed Tryz.func87 rfl rfl (by kernel_rfl) (by kernel_rfl) rfl (by rw [k_spec_l2Some]; exact h)

/-- (*spec.l12Rd).num -/
def F_spec_l12Rd_num (P : Program) (v0 v1 : Value) (w : World) (R : Value → World → Prop) : Prop :=
  vbi P .len [T_Lint] T_int [v1] w fun t8 w_1 =>
  vcall P n_spec_l12Rd_pick #[v0, t8] w_1 fun t9 w_2 =>
  viaddr P T_Lint v1 t9 w_2 fun t10 w_3 =>
  vload P T_int t10 w_3 fun t11 w_4 =>
  R t11 w_4
def A_spec_l12Rd_num : Ann := { ord := [], loops := [], cuts := [] }
theorem k_spec_l12Rd_num (v0 v1 : Value) (w : World) (R : Value → World → Prop) : vc PP A_spec_l12Rd_num ((Tryz.f88.body).getD .skip) (retF PP Tryz.f88.results.toList R) (nthV [v0, v1]) w = F_spec_l12Rd_num PP v0 v1 w R := by kernel_rfl
theorem c_spec_l12Rd_num {v0 v1 : Value} {w : World} {R : Value → World → Prop} (h : F_spec_l12Rd_num PP v0 v1 w R) : vcall PP n_spec_l12Rd_num #[v0, v1] w R :=
  call_of_vc (T := A_spec_l12Rd_num) (c := (Tryz.f88.body).getD .skip) (n := 12) mixed Tryz.func88 rfl rfl (by kernel_rfl) (by kernel_rfl) rfl (by rw [k_spec_l12Rd_num]; exact h)

/-- spec.l2Spoil -/
def F_spec_l2Spoil (P : Program) (v0 v1 : Value) (w : World) (R : Value → World → Prop) : Prop :=
  vbuildS P T_Limpl_Decl 0 [] w fun t7 w_1 =>
  vbi P .append [T_Limpl_Decl, T_Limpl_Decl] T_Limpl_Decl [t7, v1] w_1 fun t9 w_2 =>
  vbi P .len [T_Limpl_Decl] T_int [v1] w_2 fun t11 w_3 =>
  vbin P .eql T_int true t11 (.int .i64 0) w_3 fun t12 w_4 =>
  vif t12 (
    R t9 w_4) (
    vbi P .len [T_Limpl_Decl] T_int [v1] w_4 fun t16 w_5 =>
    vcall P n_spec_l12Rd_pick #[v0, t16] w_5 fun t17 w_6 =>
    vcall P n_spec_l12Rd_pick #[v0, (.int .i64 80)] w_6 fun t19 w_7 =>
    vbin P .eql T_int true t19 (.int .i64 0) w_7 fun t21 w_8 =>
    vif t21 (
      vbuildS P T_Lint 4 [(0, (.int .i64 0)), (1, (.int .i64 5)), (2, (.int .i64 (-1))), (3, (.int .i64 4))] w_8 fun t25 w_9 =>
      vcall P n_spec_l12Rd_num #[v0, t25] w_9 fun t26 w_10 =>
      viaddr P T_Limpl_Decl t9 t17 w_10 fun t27 w_11 =>
      vfaddr P T_impl_Decl t27 1 w_11 fun t28 w_12 =>
      vstore P T_int t28 t26 w_12 fun _ w_13 =>
      R t9 w_13) (
      vbin P .eql T_int true t19 (.int .i64 1) w_8 fun t30 w_14 =>
      vif t30 (
        vbuildS P T_Lstring 6 [(0, (.string { data := #[] })), (1, (.string { data := #[116, 114, 117, 101] })), (2, (.string { data := #[97, 98, 99, 100, 101] })), (3, (.string { data := #[65] })), (4, (.string { data := #[110, 111, 116] })), (5, (.string { data := #[120] }))] w_14 fun t34 w_15 =>
        vcall P n_spec_l12Rd_of #[v0, t34] w_15 fun t35 w_16 =>
        viaddr P T_Limpl_Decl t9 t17 w_16 fun t36 w_17 =>
        vfaddr P T_impl_Decl t36 0 w_17 fun t37 w_18 =>
        vstore P T_string t37 t35 w_18 fun _ w_19 =>
        R t9 w_19) (
        vbin P .eql T_int true t19 (.int .i64 2) w_14 fun t39 w_20 =>
        vif t39 (
          vbuild P T_impl_Decl [(0, (.string { data := #[113] })), (1, (.int .i64 4))] w_20 fun t41 w_21 =>
          vbuild P T_impl_Decl [(0, (.string { data := #[112] })), (1, (.int .i64 1))] w_21 fun t42 w_22 =>
          vbuildS P T_Limpl_Decl 2 [(0, t41), (1, t42)] w_22 fun t43 w_23 =>
          vbi P .append [T_Limpl_Decl, T_Limpl_Decl] T_Limpl_Decl [t9, t43] w_23 fun t44 w_24 =>
          R t44 w_24) (
          vbin P .eql T_int true t19 (.int .i64 3) w_20 fun t46 w_25 =>
          vif t46 (
            vbuildS P T_Limpl_Decl 0 [] w_25 fun t47 w_26 =>
            R t47 w_26) (
            R t9 w_25)))))
def A_spec_l2Spoil : Ann := { ord := [], loops := [], cuts := [] }
theorem k_spec_l2Spoil (v0 v1 : Value) (w : World) (R : Value → World → Prop) : vc PP A_spec_l2Spoil ((Tryz.f89.body).getD .skip) (retF PP Tryz.f89.results.toList R) (nthV [v0, v1]) w = F_spec_l2Spoil PP v0 v1 w R := by kernel_rfl
theorem c_spec_l2Spoil {v0 v1 : Value} {w : World} {R : Value → World → Prop} (h : F_spec_l2Spoil PP v0 v1 w R) : vcall PP n_spec_l2Spoil #[v0, v1] w R :=
  call_of_vc (T := A_spec_l2Spoil) (c := (Tryz.f89.body).getD .skip) (n := 49) mixed Tryz.func89 rfl rfl (by kernel_rfl) (by kernel_rfl) rfl (by rw [k_spec_l2Spoil]; exact h)

/-- spec.l2Bent -/
def F_spec_l2Bent (P : Program) (v0 v1 : Value) (w : World) (R : Value → World → Prop) : Prop :=
  vbox P T_impl_Term v1 w fun t3 w_1 =>
  valloc P T_impl_Term w_1 fun t4 w_2 =>
  vbuildS P T_Limpl_Term 0 [] w_2 fun t7 w_3 =>
  vfaddr P T_impl_Term t3 4 w_3 fun t8 w_4 =>
  vload P T_Limpl_Term t8 w_4 fun t9 w_5 =>
  vbi P .append [T_Limpl_Term, T_Limpl_Term] T_Limpl_Term [t7, t9] w_5 fun t10 w_6 =>
  vcall P n_spec_l12Rd_pick #[v0, (.int .i64 60)] w_6 fun t12 w_7 =>
  vbin P .eql T_int true t12 (.int .i64 0) w_7 fun t14 w_8 =>
  vif t14 (
    vbuildS P T_Lint 6 [(0, (.int .i64 0)), (1, (.int .i64 18)), (2, (.int .i64 28)), (3, (.int .i64 3)), (4, (.int .i64 16)), (5, (.int .i64 25))] w_8 fun t16 w_9 =>
    vcall P n_spec_l12Rd_num #[v0, t16] w_9 fun t17 w_10 =>
    vfaddr P T_impl_Term t3 0 w_10 fun t18 w_11 =>
    vstore P T_int t18 t17 w_11 fun _ w_12 =>
    vload P T_impl_Term t3 w_12 fun t56 w_13 =>
    vstore P T_impl_Term t4 t56 w_13 fun _ w_14 =>
    vlv P T_impl_Term t4 w_14 fun r4 w_15 =>
    R r4 w_15) (
    vbin P .eql T_int true t12 (.int .i64 1) w_8 fun t20 w_16 =>
    vif t20 (
      vdraw w_16 fun w_17 =>
      vfaddr P T_impl_Term t3 1 w_17 fun t21 w_18 => w_18 = w_17 ∧
      vload P T_int t21 w_17 fun t22 w_19 => w_19 = w_17 ∧
      vbuildS P T_Lint 2 [(0, (.int .i64 1)), (1, (.int .i64 (-1)))] w_17 fun t24 w_20 => (vload P T_int t21 w_20 fun v x => v = t22 ∧ x = w_20) ∧ (vfaddr P T_impl_Term t3 1 w_20 fun v x => v = t21 ∧ x = w_20) ∧
      vcall P n_spec_l12Rd_num #[v0, t24] w_20 fun t25 w_21 => (vload P T_int t21 w_21 fun v x => v = t22 ∧ x = w_21) ∧ (vfaddr P T_impl_Term t3 1 w_21 fun v x => v = t21 ∧ x = w_21) ∧
      vbin P .add T_int false t22 t25 w_21 fun t26 w_22 => w_22 = w_21 ∧
      vfaddr P T_impl_Term t3 1 w_21 fun t27 w_23 => w_23 = w_21 ∧
      vstore P T_int t27 t26 w_21 fun _ w_24 =>
      vload P T_impl_Term t3 w_24 fun t56_1 w_25 =>
      vstore P T_impl_Term t4 t56_1 w_25 fun _ w_26 =>
      vlv P T_impl_Term t4 w_26 fun r4_1 w_27 =>
      R r4_1 w_27) (
      vbin P .eql T_int true t12 (.int .i64 2) w_16 fun t29 w_28 =>
      vif t29 (
        vdraw w_28 fun w_29 =>
        vfaddr P T_impl_Term t3 2 w_29 fun t30 w_30 => w_30 = w_29 ∧
        vload P T_int t30 w_29 fun t31 w_31 => w_31 = w_29 ∧
        vbuildS P T_Lint 3 [(0, (.int .i64 1)), (1, (.int .i64 (-1))), (2, (.int .i64 16))] w_29 fun t33 w_32 => (vload P T_int t30 w_32 fun v x => v = t31 ∧ x = w_32) ∧ (vfaddr P T_impl_Term t3 2 w_32 fun v x => v = t30 ∧ x = w_32) ∧
        vcall P n_spec_l12Rd_num #[v0, t33] w_32 fun t34 w_33 => (vload P T_int t30 w_33 fun v x => v = t31 ∧ x = w_33) ∧ (vfaddr P T_impl_Term t3 2 w_33 fun v x => v = t30 ∧ x = w_33) ∧
        vbin P .add T_int false t31 t34 w_33 fun t35 w_34 => w_34 = w_33 ∧
        vfaddr P T_impl_Term t3 2 w_33 fun t36 w_35 => w_35 = w_33 ∧
        vstore P T_int t36 t35 w_33 fun _ w_36 =>
        vload P T_impl_Term t3 w_36 fun t56_2 w_37 =>
        vstore P T_impl_Term t4 t56_2 w_37 fun _ w_38 =>
        vlv P T_impl_Term t4 w_38 fun r4_2 w_39 =>
        R r4_2 w_39) (
        vbin P .eql T_int true t12 (.int .i64 3) w_28 fun t38 w_40 =>
        vif t38 (
          vfaddr P T_impl_Term t3 3 w_40 fun t39 w_41 =>
          vstore P T_string t39 (.string { data := #[113] }) w_41 fun _ w_42 =>
          vload P T_impl_Term t3 w_42 fun t56_3 w_43 =>
          vstore P T_impl_Term t4 t56_3 w_43 fun _ w_44 =>
          vlv P T_impl_Term t4 w_44 fun r4_3 w_45 =>
          R r4_3 w_45) (
          vbin P .eql T_int true t12 (.int .i64 4) w_40 fun t41 w_46 =>
          vif t41 (
            vbuild P T_impl_Term [(0, (.int .i64 24))] w_46 fun t43 w_47 =>
            vbuildS P T_Limpl_Term 1 [(0, t43)] w_47 fun t44 w_48 =>
            vbi P .append [T_Limpl_Term, T_Limpl_Term] T_Limpl_Term [t10, t44] w_48 fun t45 w_49 =>
            vfaddr P T_impl_Term t3 4 w_49 fun t46 w_50 =>
            vstore P T_Limpl_Term t46 t45 w_50 fun _ w_51 =>
            vload P T_impl_Term t3 w_51 fun t56_4 w_52 =>
            vstore P T_impl_Term t4 t56_4 w_52 fun _ w_53 =>
            vlv P T_impl_Term t4 w_53 fun r4_4 w_54 =>
            R r4_4 w_54) (
            vbin P .eql T_int true t12 (.int .i64 5) w_46 fun t48 w_55 =>
            vif t48 (
              vloop [(.int .i64 0)] w_55 fun C u _ w_56 =>
                vbin P .lss T_int true (sl 0 u) (.int .i64 7) w_56 fun t50 w_57 =>
                vif t50 (
                  vload P T_impl_Term t3 w_57 fun t53 w_58 =>
                  vbuildS P T_Limpl_Term 1 [(0, t53)] w_58 fun t54 w_59 =>
                  vbuild P T_impl_Term [(0, (.int .i64 25)), (4, t54)] w_59 fun t55 w_60 =>
                  vstore P T_impl_Term t3 t55 w_60 fun _ w_61 =>
                  vbin P .add T_int true (sl 0 u) (.int .i64 1) w_61 fun t52 w_62 =>
                  C [t52] w_62) (
                  vload P T_impl_Term t3 w_57 fun t56_5 w_63 =>
                  vstore P T_impl_Term t4 t56_5 w_63 fun _ w_64 =>
                  vlv P T_impl_Term t4 w_64 fun r4_5 w_65 =>
                  R r4_5 w_65)) (
              vload P T_impl_Term t3 w_55 fun t56_6 w_66 =>
              vstore P T_impl_Term t4 t56_6 w_66 fun _ w_67 =>
              vlv P T_impl_Term t4 w_67 fun r4_6 w_68 =>
              R r4_6 w_68))))))
def A_spec_l2Bent : Ann := { ord := [(6, [0, 1, 2, 3, 4, 5, 6, 7], [(0, [1, 5, 6, 7]), (1, [5, 6, 7]), (2, [4, 5, 6, 7]), (3, [4, 5, 6, 7]), (4, [5, 6, 7]), (5, [6, 7]), (6, [7])]), (8, [0, 1, 2, 3, 4, 5, 6, 7], [(0, [1, 5, 6, 7]), (1, [5, 6, 7]), (2, [4, 5, 6, 7]), (3, [4, 5, 6, 7]), (4, [5, 6, 7]), (5, [6, 7]), (6, [7])])], loops := [(15, [6])], cuts := [] }
theorem k_spec_l2Bent (v0 v1 : Value) (w : World) (R : Value → World → Prop) : vc PP A_spec_l2Bent ((Tryz.f90.body).getD .skip) (retF PP Tryz.f90.results.toList R) (nthV [v0, v1]) w = F_spec_l2Bent PP v0 v1 w R := by kernel_rfl
theorem c_spec_l2Bent {v0 v1 : Value} {w : World} {R : Value → World → Prop} (h : F_spec_l2Bent PP v0 v1 w R) : vcall PP n_spec_l2Bent #[v0, v1] w R :=
  call_of_vc (T := A_spec_l2Bent) (c := (Tryz.f90.body).getD .skip) (n := 57) mixed Tryz.func90 rfl rfl (by kernel_rfl) (by kernel_rfl) rfl (by rw [k_spec_l2Bent]; exact h)

/-- spec.l1Two -/
def F_spec_l1Two (P : Program) (v0 : Value) (w : World) (R : Value → World → Prop) : Prop :=
  vloop [(.int .i64 1), (.int .i64 0)] w fun C u _ w_1 =>
    vbin P .lss T_int false (sl 1 u) v0 w_1 fun t7 w_2 =>
    vif t7 (
      vbin P .mul T_int true (sl 0 u) (.int .i64 2) w_2 fun t11 w_3 =>
      vbin P .add T_int true (sl 1 u) (.int .i64 1) w_3 fun t9 w_4 =>
      C [t11, t9] w_4) (
      R (sl 0 u) w_2)
def A_spec_l1Two : Ann := { ord := [], loops := [(3, [3, 4])], cuts := [] }
theorem k_spec_l1Two (v0 : Value) (w : World) (R : Value → World → Prop) : vc PP A_spec_l1Two ((Tryz.f91.body).getD .skip) (retF PP Tryz.f91.results.toList R) (nthV [v0]) w = F_spec_l1Two PP v0 w R := by kernel_rfl
theorem c_spec_l1Two {v0 : Value} {w : World} {R : Value → World → Prop} (h : F_spec_l1Two PP v0 w R) : vcall PP n_spec_l1Two #[v0] w R :=
  call_of_vc (T := A_spec_l1Two) (c := (Tryz.f91.body).getD .skip) (n := 13) mixed Tryz.func91 rfl rfl (by kernel_rfl) (by kernel_rfl) rfl (by rw [k_spec_l1Two]; exact h)

/-- spec.l1Min -/
def F_spec_l1Min (P : Program) (v0 v1 : Value) (w : World) (R : Value → World → Prop) : Prop :=
  vbin P .lss T_int false v0 v1 w fun t7 w_1 =>
  vif t7 (
    R v0 w_1) (
    R v1 w_1)
def A_spec_l1Min : Ann := { ord := [], loops := [], cuts := [] }
theorem k_spec_l1Min (v0 v1 : Value) (w : World) (R : Value → World → Prop) : vc PP A_spec_l1Min ((Tryz.f92.body).getD .skip) (retF PP Tryz.f92.results.toList R) (nthV [v0, v1]) w = F_spec_l1Min PP v0 v1 w R := by kernel_rfl
theorem c_spec_l1Min {v0 v1 : Value} {w : World} {R : Value → World → Prop} (h : F_spec_l1Min PP v0 v1 w R) : vcall PP n_spec_l1Min #[v0, v1] w R :=
  call_of_vc (T := A_spec_l1Min) (c := (Tryz.f92.body).getD .skip) (n := 10) mixed Tryz.func92 rfl rfl (by kernel_rfl) (by kernel_rfl) rfl (by rw [k_spec_l1Min]; exact h)

/-- slices.ContainsFunc[[]impl.Decl,impl.Decl] -/
def F_slices_ContainsFunc_Limpl_Decl_impl_Decl (P : Program) (v0 v1 : Value) (w : World) (R : Value → World → Prop) : Prop :=
  vcall P n_slices_IndexFunc_Limpl_Decl_impl_Decl #[v0, v1] w fun t7 w_1 =>
  vbin P .geq T_int true t7 (.int .i64 0) w_1 fun t8 w_2 =>
  R t8 w_2
def A_slices_ContainsFunc_Limpl_Decl_impl_Decl : Ann := { ord := [], loops := [], cuts := [] }
theorem k_slices_ContainsFunc_Limpl_Decl_impl_Decl (v0 v1 : Value) (w : World) (R : Value → World → Prop) : vc PP A_slices_ContainsFunc_Limpl_Decl_impl_Decl ((Tryz.f94.body).getD .skip) (retF PP Tryz.f94.results.toList R) (nthV [v0, v1]) w = F_slices_ContainsFunc_Limpl_Decl_impl_Decl PP v0 v1 w R := by kernel_rfl
theorem c_slices_ContainsFunc_Limpl_Decl_impl_Decl {v0 v1 : Value} {w : World} {R : Value → World → Prop} (h : F_slices_ContainsFunc_Limpl_Decl_impl_Decl PP v0 v1 w R) : vcall PP n_slices_ContainsFunc_Limpl_Decl_impl_Decl #[v0, v1] w R :=
  call_of_vc (T := A_slices_ContainsFunc_Limpl_Decl_impl_Decl) (c := (Tryz.f94.body).getD .skip) (n := 9) mixed Tryz.func94 rfl rfl (by kernel_rfl) (by kernel_rfl) rfl (by rw [k_slices_ContainsFunc_Limpl_Decl_impl_Decl]; exact h)

/-- impl.DeclOk$1 -/
def F_impl_DeclOk_1 (P : Program) (v0 v1 : Value) (w : World) (R : Value → World → Prop) : Prop :=
  vbox P T_impl_Decl v0 w fun t2 w_1 =>
  vfaddr P T_impl_Decl t2 0 w_1 fun t4 w_2 =>
  vload P T_string t4 w_2 fun t5 w_3 =>
  vfaddr P T_impl_Decl v1 0 w_3 fun t6 w_4 =>
  vload P T_string t6 w_4 fun t7 w_5 =>
  vbin P .eql T_string false t5 t7 w_5 fun t8 w_6 =>
  R t8 w_6
def A_impl_DeclOk_1 : Ann := { ord := [], loops := [], cuts := [] }
theorem k_impl_DeclOk_1 (v0 v1 : Value) (w : World) (R : Value → World → Prop) : vc PP A_impl_DeclOk_1 ((Tryz.f95.body).getD .skip) (retF PP Tryz.f95.results.toList R) (nthV [v0, v1]) w = F_impl_DeclOk_1 PP v0 v1 w R := by kernel_rfl
theorem c_impl_DeclOk_1 {v0 v1 : Value} {w : World} {R : Value → World → Prop} (h : F_impl_DeclOk_1 PP v0 v1 w R) : vcall PP n_impl_DeclOk_1 #[v0, v1] w R :=
  call_of_vc (T := A_impl_DeclOk_1) (c := (Tryz.f95.body).getD .skip) (n := 9) mixed Tryz.func95 rfl rfl (by kernel_rfl) (by kernel_rfl) rfl (by rw [k_impl_DeclOk_1]; exact h)

/-- impl.plain -/
def F_impl_plain (P : Program) (v0 : Value) (w : World) (R : Value → World → Prop) : Prop :=
  vbox P T_impl_Term v0 w fun t1 w_1 =>
  vjoin (fun J =>
    vfaddr P T_impl_Term t1 0 w_1 fun t4 w_3 =>
    vload P T_int t4 w_3 fun t5 w_4 =>
    vbin P .eql T_int true t5 (.int .i64 20) w_4 fun t6 w_5 =>
    vif t6 (
      J [(.bool true)] w_5) (
      vfaddr P T_impl_Term t1 0 w_5 fun t8 w_6 =>
      vload P T_int t8 w_6 fun t9 w_7 =>
      vbin P .eql T_int true t9 (.int .i64 22) w_7 fun t10 w_8 =>
      vif t10 (
        J [(.bool true)] w_8) (
        vfaddr P T_impl_Term t1 1 w_8 fun t13 w_9 =>
        vload P T_int t13 w_9 fun t14 w_10 =>
        vbin P .eql T_int true t14 (.int .i64 0) w_10 fun t15 w_11 =>
        vif t15 (
          vfaddr P T_impl_Term t1 2 w_11 fun t17 w_12 =>
          vload P T_int t17 w_12 fun t18 w_13 =>
          vbin P .eql T_int true t18 (.int .i64 0) w_13 fun t19 w_14 =>
          J [t19] w_14) (
          J [(.bool false)] w_11)))) (fun u _ w_2 =>
    vif (sl 0 u) (
      vfaddr P T_impl_Term t1 0 w_2 fun t24 w_15 =>
      vload P T_int t24 w_15 fun t25 w_16 =>
      vbin P .eql T_int true t25 (.int .i64 21) w_16 fun t26 w_17 =>
      vif t26 (
        R (.bool true) w_17) (
        vfaddr P T_impl_Term t1 3 w_17 fun t28 w_18 =>
        vload P T_string t28 w_18 fun t29 w_19 =>
        vbin P .eql T_string true t29 (.string { data := #[] }) w_19 fun t30 w_20 =>
        R t30 w_20)) (
      R (.bool false) w_2))
def A_impl_plain : Ann := { ord := [], loops := [], cuts := [(8194, [3])] }
theorem k_impl_plain (v0 : Value) (w : World) (R : Value → World → Prop) : vc PP A_impl_plain ((Tryz.f96.body).getD .skip) (retF PP Tryz.f96.results.toList R) (nthV [v0]) w = F_impl_plain PP v0 w R := by kernel_rfl
theorem c_impl_plain {v0 : Value} {w : World} {R : Value → World → Prop} (h : F_impl_plain PP v0 w R) : vcall PP n_impl_plain #[v0] w R :=
  call_of_vc (T := A_impl_plain) (c := (Tryz.f96.body).getD .skip) (n := 33) mixed Tryz.func96 rfl rfl (by kernel_rfl) (by kernel_rfl) rfl (by rw [k_impl_plain]; exact h)

/-- spec.l2Name -/
def F_spec_l2Name (P : Program) (v0 : Value) (w : World) (R : Value → World → Prop) : Prop :=
  vloop [(.int .i64 0)] w fun C u _ w_1 =>
    vbi P .len [T_string] T_int [v0] w_1 fun t6 w_2 =>
    vbin P .lss T_int false (sl 0 u) t6 w_2 fun t7 w_3 =>
    vif t7 (
      vindex P T_string v0 (sl 0 u) w_3 fun t12 w_4 =>
      vbin P .lss T_uint8 true t12 (.int .u8 97) w_4 fun t13 w_5 =>
      vif t13 (
        R (.bool false) w_5) (
        vindex P T_string v0 (sl 0 u) w_5 fun t17 w_6 =>
        vbin P .gtr T_uint8 true t17 (.int .u8 122) w_6 fun t18 w_7 =>
        vif t18 (
          R (.bool false) w_7) (
          vbin P .add T_int true (sl 0 u) (.int .i64 1) w_7 fun t9 w_8 =>
          C [t9] w_8))) (
      vbi P .len [T_string] T_int [v0] w_3 fun t21 w_9 =>
      vbin P .geq T_int true t21 (.int .i64 1) w_9 fun t22 w_10 =>
      vif t22 (
        vbi P .len [T_string] T_int [v0] w_10 fun t25 w_11 =>
        vbin P .leq T_int true t25 (.int .i64 4) w_11 fun t26 w_12 =>
        vif t26 (
          vbin P .neq T_string true v0 (.string { data := #[116, 114, 117, 101] }) w_12 fun t30 w_13 =>
          R t30 w_13) (
          R (.bool false) w_12)) (
        R (.bool false) w_10))
def A_spec_l2Name : Ann := { ord := [], loops := [(2, [3])], cuts := [] }
theorem k_spec_l2Name (v0 : Value) (w : World) (R : Value → World → Prop) : vc PP A_spec_l2Name ((Tryz.f97.body).getD .skip) (retF PP Tryz.f97.results.toList R) (nthV [v0]) w = F_spec_l2Name PP v0 w R := by kernel_rfl
theorem c_spec_l2Name {v0 : Value} {w : World} {R : Value → World → Prop} (h : F_spec_l2Name PP v0 w R) : vcall PP n_spec_l2Name #[v0] w R :=
  call_of_vc (T := A_spec_l2Name) (c := (Tryz.f97.body).getD .skip) (n := 32) mixed Tryz.func97 rfl rfl (by kernel_rfl) (by kernel_rfl) rfl (by rw [k_spec_l2Name]; exact h)

/-- spec.l2Plain -/
def F_spec_l2Plain (P : Program) (v0 : Value) (w : World) (R : Value → World → Prop) : Prop :=
  vbox P T_impl_Term v0 w fun t1 w_1 =>
  vjoin (fun J =>
    vfaddr P T_impl_Term t1 0 w_1 fun t3 w_3 =>
    vload P T_int t3 w_3 fun t4 w_4 =>
    vbin P .neq T_int true t4 (.int .i64 21) w_4 fun t5 w_5 =>
    vif t5 (
      vfaddr P T_impl_Term t1 3 w_5 fun t7 w_6 =>
      vload P T_string t7 w_6 fun t8 w_7 =>
      vbin P .neq T_string true t8 (.string { data := #[] }) w_7 fun t9 w_8 =>
      vif t9 (
        R (.bool false) w_8) (
        J [] w_8)) (
      J [] w_5)) (fun _ _ w_2 =>
    vjoin (fun J_1 =>
      vfaddr P T_impl_Term t1 0 w_2 fun t11 w_10 =>
      vload P T_int t11 w_10 fun t12 w_11 =>
      vbin P .neq T_int true t12 (.int .i64 20) w_11 fun t13 w_12 =>
      vif t13 (
        vfaddr P T_impl_Term t1 0 w_12 fun t15 w_13 =>
        vload P T_int t15 w_13 fun t16 w_14 =>
        vbin P .neq T_int true t16 (.int .i64 22) w_14 fun t17 w_15 =>
        vif t17 (
          vfaddr P T_impl_Term t1 1 w_15 fun t20 w_16 =>
          vload P T_int t20 w_16 fun t21 w_17 =>
          vbin P .neq T_int true t21 (.int .i64 0) w_17 fun t22 w_18 =>
          vif t22 (
            R (.bool false) w_18) (
            vfaddr P T_impl_Term t1 2 w_18 fun t24 w_19 =>
            vload P T_int t24 w_19 fun t25 w_20 =>
            vbin P .neq T_int true t25 (.int .i64 0) w_20 fun t26 w_21 =>
            vif t26 (
              R (.bool false) w_21) (
              J_1 [] w_21))) (
          J_1 [] w_15)) (
        J_1 [] w_12)) (fun _ _ w_9 =>
      vdraw w_9 fun w_22 =>
      vfaddr P T_impl_Term t1 4 w_22 fun t29 w_23 => w_23 = w_22 ∧
      vload P T_Limpl_Term t29 w_22 fun t30 w_24 => w_24 = w_22 ∧
      vbi P .len [T_Limpl_Term] T_int [t30] w_22 fun t31 w_25 => w_25 = w_22 ∧
      vfaddr P T_impl_Term t1 0 w_22 fun t32 w_26 => w_26 = w_22 ∧
      vload P T_int t32 w_22 fun t33 w_27 => w_27 = w_22 ∧
      vcall P n_spec_l2Arity #[t33] w_22 fun t34 w_28 => (vbi P .len [T_Limpl_Term] T_int [t30] w_28 fun v x => v = t31 ∧ x = w_28) ∧ (vload P T_Limpl_Term t29 w_28 fun v x => v = t30 ∧ x = w_28) ∧ (vfaddr P T_impl_Term t1 4 w_28 fun v x => v = t29 ∧ x = w_28) ∧
      vbin P .eql T_int false t31 t34 w_28 fun t35 w_29 => w_29 = w_28 ∧
      R t35 w_28))
def A_spec_l2Plain : Ann := { ord := [(5, [0, 1, 2, 3, 4, 5, 6, 7], [(0, [1, 2, 6, 7]), (1, [2, 6, 7]), (2, [6, 7]), (3, [4, 5, 6, 7]), (4, [5, 6, 7]), (5, [6, 7]), (6, [7])])], loops := [], cuts := [(8195, []), (16389, [])] }
theorem k_spec_l2Plain (v0 : Value) (w : World) (R : Value → World → Prop) : vc PP A_spec_l2Plain ((Tryz.f98.body).getD .skip) (retF PP Tryz.f98.results.toList R) (nthV [v0]) w = F_spec_l2Plain PP v0 w R := by kernel_rfl
theorem c_spec_l2Plain {v0 : Value} {w : World} {R : Value → World → Prop} (h : F_spec_l2Plain PP v0 w R) : vcall PP n_spec_l2Plain #[v0] w R :=
  call_of_vc (T := A_spec_l2Plain) (c := (Tryz.f98.body).getD .skip) (n := 36) mixed Tryz.func98 rfl rfl (by kernel_rfl) (by kernel_rfl) rfl (by rw [k_spec_l2Plain]; exact h)

/-- spec.l2One -/
def F_spec_l2One (P : Program) (v0 v1 : Value) (w : World) (R : Value → World → Prop) : Prop :=
  vbox P T_impl_Term v0 w fun t2 w_1 =>
  vjoin (fun J =>
    vfaddr P T_impl_Term t2 0 w_1 fun t6 w_3 =>
    vload P T_int t6 w_3 fun t7 w_4 =>
    vbin P .eql T_int true t7 (.int .i64 25) w_4 fun t8 w_5 =>
    vif t8 (
      vbin P .eql T_int true v1 (.int .i64 0) w_5 fun t11 w_6 =>
      J [t11] w_6) (
      J [(.bool false)] w_5)) (fun u _ w_2 =>
    vif (sl 0 u) (
      R (.int .i64 0) w_2) (
      vjoin (fun J_1 =>
        vfaddr P T_impl_Term t2 0 w_2 fun t14 w_8 =>
        vload P T_int t14 w_8 fun t15 w_9 =>
        vbin P .eql T_int true t15 (.int .i64 25) w_9 fun t16 w_10 =>
        vif t16 (
          J_1 [(.bool true)] w_10) (
          vbin P .lss T_int true v1 (.int .i64 1) w_10 fun t19 w_11 =>
          J_1 [t19] w_11)) (fun u_1 _ w_7 =>
        vif (sl 0 u_1) (
          R (.int .i64 (-1)) w_7) (
          vfaddr P T_impl_Term t2 0 w_7 fun t22 w_12 =>
          vload P T_int t22 w_12 fun t23 w_13 =>
          vbin P .eql T_int true t23 (.int .i64 22) w_13 fun t24 w_14 =>
          vif t24 (
            vjoin (fun J_2 =>
              vfaddr P T_impl_Term t2 2 w_14 fun t25 w_16 =>
              vload P T_int t25 w_16 fun t26 w_17 =>
              vbin P .geq T_int true t26 (.int .i64 0) w_17 fun t27 w_18 =>
              vif t27 (
                vfaddr P T_impl_Term t2 1 w_18 fun t29 w_19 =>
                vload P T_int t29 w_19 fun t30 w_20 =>
                vfaddr P T_impl_Term t2 2 w_20 fun t31 w_21 =>
                vload P T_int t31 w_21 fun t32 w_22 =>
                vbin P .geq T_int false t30 t32 w_22 fun t33 w_23 =>
                vif t33 (
                  vfaddr P T_impl_Term t2 1 w_23 fun t36 w_24 =>
                  vload P T_int t36 w_24 fun t37 w_25 =>
                  vbin P .lss T_int false t37 v1 w_25 fun t39 w_26 =>
                  J_2 [t39] w_26) (
                  J_2 [(.bool false)] w_23)) (
                J_2 [(.bool false)] w_18)) (fun u_2 _ w_15 =>
              vif (sl 0 u_2) (
                vfaddr P T_impl_Term t2 1 w_15 fun t41 w_27 =>
                vload P T_int t41 w_27 fun t42 w_28 =>
                vfaddr P T_impl_Term t2 2 w_28 fun t43 w_29 =>
                vload P T_int t43 w_29 fun t44 w_30 =>
                vbin P .sub T_int false t42 t44 w_30 fun t45 w_31 =>
                vbin P .add T_int true t45 (.int .i64 1) w_31 fun t46 w_32 =>
                R t46 w_32) (
                R (.int .i64 (-1)) w_15))) (
            R v1 w_14)))))
def A_spec_l2One : Ann := { ord := [], loops := [], cuts := [(8194, [5]), (16388, [13]), (28679, [40])] }
theorem k_spec_l2One (v0 v1 : Value) (w : World) (R : Value → World → Prop) : vc PP A_spec_l2One ((Tryz.f99.body).getD .skip) (retF PP Tryz.f99.results.toList R) (nthV [v0, v1]) w = F_spec_l2One PP v0 v1 w R := by kernel_rfl
theorem c_spec_l2One {v0 v1 : Value} {w : World} {R : Value → World → Prop} (h : F_spec_l2One PP v0 v1 w R) : vcall PP n_spec_l2One #[v0, v1] w R :=
  call_of_vc (T := A_spec_l2One) (c := (Tryz.f99.body).getD .skip) (n := 48) mixed Tryz.func99 rfl rfl (by kernel_rfl) (by kernel_rfl) rfl (by rw [k_spec_l2One]; exact h)

/-- spec.l2Both -/
def F_spec_l2Both (P : Program) (v0 v1 v2 : Value) (w : World) (R : Value → World → Prop) : Prop :=
  vjoin (fun J =>
    vbin P .eql T_int true v0 (.int .i64 26) w fun t10 w_2 =>
    vif t10 (
      J [(.bool true)] w_2) (
      vbin P .eql T_int true v0 (.int .i64 27) w_2 fun t13 w_3 =>
      J [t13] w_3)) (fun u _ w_1 =>
    vif (sl 0 u) (
      vbin P .eql T_int true v1 (.int .i64 0) w_1 fun t16 w_4 =>
      vif t16 (
        vbin P .eql T_int true v2 (.int .i64 0) w_4 fun t19 w_5 =>
        vif t19 (
          R (.int .i64 0) w_5) (
          R (.int .i64 (-1)) w_5)) (
        R (.int .i64 (-1)) w_4)) (
      vjoin (fun J_1 =>
        vbin P .lss T_int true v1 (.int .i64 1) w_1 fun t23 w_7 =>
        vif t23 (
          J_1 [(.bool true)] w_7) (
          vbin P .lss T_int true v2 (.int .i64 1) w_7 fun t26 w_8 =>
          J_1 [t26] w_8)) (fun u_1 _ w_6 =>
        vif (sl 0 u_1) (
          R (.int .i64 (-1)) w_6) (
          vbin P .eql T_int true v0 (.int .i64 14) w_6 fun t30 w_9 =>
          vif t30 (
            vbin P .add T_int false v1 v2 w_9 fun t33 w_10 =>
            vbin P .leq T_int true t33 (.int .i64 4) w_10 fun t34 w_11 =>
            vif t34 (
              vbin P .add T_int false v1 v2 w_11 fun t37 w_12 =>
              R t37 w_12) (
              R (.int .i64 (-1)) w_11)) (
            vbin P .neq T_int false v1 v2 w_9 fun t41 w_13 =>
            vif t41 (
              R (.int .i64 (-1)) w_13) (
              vbin P .geq T_int true v0 (.int .i64 15) w_13 fun t44 w_14 =>
              vif t44 (
                R (.int .i64 0) w_14) (
                R v1 w_14)))))))
def A_spec_l2Both : Ann := { ord := [], loops := [], cuts := [(12291, [8]), (24582, [21])] }
theorem k_spec_l2Both (v0 v1 v2 : Value) (w : World) (R : Value → World → Prop) : vc PP A_spec_l2Both ((Tryz.f100.body).getD .skip) (retF PP Tryz.f100.results.toList R) (nthV [v0, v1, v2]) w = F_spec_l2Both PP v0 v1 v2 w R := by kernel_rfl
theorem c_spec_l2Both {v0 v1 v2 : Value} {w : World} {R : Value → World → Prop} (h : F_spec_l2Both PP v0 v1 v2 w R) : vcall PP n_spec_l2Both #[v0, v1, v2] w R :=
  call_of_vc (T := A_spec_l2Both) (c := (Tryz.f100.body).getD .skip) (n := 45) mixed Tryz.func100 rfl rfl (by kernel_rfl) (by kernel_rfl) rfl (by rw [k_spec_l2Both]; exact h)

/-- (impl.Vec).vec -/
def F_impl_Vec_vec (P : Program) (v0 v1 : Value) (w : World) (R : Value → World → Prop) : Prop :=
  vbox P T_impl_Vec v0 w fun t2 w_1 =>
  valloc P T_impl_Vec w_1 fun t4 w_2 =>
  vdraw w_2 fun w_3 =>
  vfaddr P T_impl_Vec t2 0 w_3 fun t5 w_4 => w_4 = w_3 ∧
  vload P T_int t5 w_3 fun t6 w_5 => w_5 = w_3 ∧
  vfaddr P T_impl_Vec t2 0 w_3 fun t8 w_6 => w_6 = w_3 ∧
  vload P T_int t8 w_3 fun t9 w_7 => w_7 = w_3 ∧
  vcall P n_impl_raw_cut #[v1, t9] w_3 fun t10 w_8 => (vload P T_int t5 w_8 fun v x => v = t6 ∧ x = w_8) ∧ (vfaddr P T_impl_Vec t2 0 w_8 fun v x => v = t5 ∧ x = w_8) ∧
  vconv P T_impl_raw T_int t10 w_8 fun t11 w_9 => w_9 = w_8 ∧
  vbuild P T_impl_Vec [(0, t6), (1, t11)] w_8 fun t12 w_10 => w_10 = w_8 ∧
  vstore P T_impl_Vec t4 t12 w_8 fun _ w_11 =>
  vlv P T_impl_Vec t4 w_11 fun r4 w_12 =>
  R r4 w_12
def A_impl_Vec_vec : Ann := { ord := [(1, [0, 1, 2, 3, 4, 5, 6, 7, 8], [(0, [1, 7, 8]), (1, [7, 8]), (2, [5, 6, 7, 8]), (3, [4, 5, 6, 7, 8]), (4, [5, 6, 7, 8]), (5, [6, 7, 8]), (6, [7, 8]), (7, [8])])], loops := [], cuts := [] }
theorem k_impl_Vec_vec (v0 v1 : Value) (w : World) (R : Value → World → Prop) : vc PP A_impl_Vec_vec ((Tryz.f101.body).getD .skip) (retF PP Tryz.f101.results.toList R) (nthV [v0, v1]) w = F_impl_Vec_vec PP v0 v1 w R := by kernel_rfl
theorem c_impl_Vec_vec {v0 v1 : Value} {w : World} {R : Value → World → Prop} (h : F_impl_Vec_vec PP v0 v1 w R) : vcall PP n_impl_Vec_vec #[v0, v1] w R :=
  call_of_vc (T := A_impl_Vec_vec) (c := (Tryz.f101.body).getD .skip) (n := 13) mixed Tryz.func101 rfl rfl (by kernel_rfl) (by kernel_rfl) rfl (by rw [k_impl_Vec_vec]; exact h)

/-- (impl.raw).bit -/
def F_impl_raw_bit (P : Program) (v0 v1 : Value) (w : World) (R : Value → World → Prop) : Prop :=
  vbin P .shr T_impl_raw false v0 v1 w fun t7 w_1 =>
  vbin P .and T_impl_raw true t7 (.int .u64 1) w_1 fun t8 w_2 =>
  vbin P .eql T_impl_raw true t8 (.int .u64 1) w_2 fun t9 w_3 =>
  R t9 w_3
def A_impl_raw_bit : Ann := { ord := [], loops := [], cuts := [] }
theorem k_impl_raw_bit (v0 v1 : Value) (w : World) (R : Value → World → Prop) : vc PP A_impl_raw_bit ((Tryz.f102.body).getD .skip) (retF PP Tryz.f102.results.toList R) (nthV [v0, v1]) w = F_impl_raw_bit PP v0 v1 w R := by kernel_rfl
theorem c_impl_raw_bit {v0 v1 : Value} {w : World} {R : Value → World → Prop} (h : F_impl_raw_bit PP v0 v1 w R) : vcall PP n_impl_raw_bit #[v0, v1] w R :=
  call_of_vc (T := A_impl_raw_bit) (c := (Tryz.f102.body).getD .skip) (n := 10) mixed Tryz.func102 rfl rfl (by kernel_rfl) (by kernel_rfl) rfl (by rw [k_impl_raw_bit]; exact h)

/-- impl.binaries -/
def F_impl_binaries (P : Program) (w : World) (R : Value → World → Prop) : Prop :=
  valloc P T_A_14_func_impl_Vec_impl_Vec_impl_raw w fun t0 w_1 =>
  vbuild P T_A_14_func_impl_Vec_impl_Vec_impl_raw [(3, (.func (.func n_impl_binaries_1) #[] #[])), (4, (.func (.func n_impl_binaries_2) #[] #[])), (5, (.func (.func n_impl_binaries_3) #[] #[])), (6, (.func (.func n_impl_binaries_4) #[] #[])), (7, (.func (.func n_impl_binaries_5) #[] #[])), (8, (.func (.func n_impl_binaries_6) #[] #[])), (9, (.func (.func n_impl_binaries_7) #[] #[])), (10, (.func (.func n_impl_binaries_8) #[] #[])), (11, (.func (.func n_impl_binaries_9) #[] #[])), (12, (.func (.func n_impl_binaries_10) #[] #[])), (13, (.func (.func n_impl_binaries_11) #[] #[]))] w_1 fun t1 w_2 =>
  vstore P T_A_14_func_impl_Vec_impl_Vec_impl_raw t0 t1 w_2 fun _ w_3 =>
  vlv P T_A_14_func_impl_Vec_impl_Vec_impl_raw t0 w_3 fun r0 w_4 =>
  R r0 w_4
def A_impl_binaries : Ann := { ord := [], loops := [], cuts := [] }
theorem k_impl_binaries (w : World) (R : Value → World → Prop) : vc PP A_impl_binaries ((Tryz.f103.body).getD .skip) (retF PP Tryz.f103.results.toList R) (nthV []) w = F_impl_binaries PP  w R := by kernel_rfl
theorem c_impl_binaries {w : World} {R : Value → World → Prop} (h : F_impl_binaries PP  w R) : vcall PP n_impl_binaries #[] w R :=
  call_of_vc (T := A_impl_binaries) (c := (Tryz.f103.body).getD .skip) (n := 2) mixed Tryz.func103 rfl rfl (by kernel_rfl) (by kernel_rfl) rfl (by rw [k_impl_binaries]; exact h)

end Go.Proofs.YtbiabimalkkeiaaGreatDoor
