import Derived.Test.YtbiabimalkkeiaaGreatDoorNm
set_option linter.unusedVariables false
set_option linter.unusedSimpArgs false
set_option linter.unnecessarySimpa false
set_option linter.unusedSectionVars false
namespace Go.Proofs.YtbiabimalkkeiaaGreatDoor
open Go Go.Vc Go.Proofs
/-- spec.l2Word -/
def F_spec_l2Word (P : Program) (v0 v1 : Value) (w : World) (R : Value → World → Prop) : Prop :=
  vloop [v1] w fun C u _ w_1 =>
    vbi P .len [T_string] T_int [v0] w_1 fun t10 w_2 =>
    vbin P .lss T_int false (sl 0 u) t10 w_2 fun t11 w_3 =>
    vif t11 (
      vindex P T_string v0 (sl 0 u) w_3 fun t15 w_4 =>
      vbin P .neq T_uint8 true t15 (.int .u8 32) w_4 fun t16 w_5 =>
      vif t16 (
        vindex P T_string v0 (sl 0 u) w_5 fun t21 w_6 =>
        vbin P .neq T_uint8 true t21 (.int .u8 40) w_6 fun t22 w_7 =>
        vif t22 (
          vindex P T_string v0 (sl 0 u) w_7 fun t27 w_8 =>
          vbin P .neq T_uint8 true t27 (.int .u8 41) w_8 fun t28 w_9 =>
          vif t28 (
            vbin P .add T_int true (sl 0 u) (.int .i64 1) w_9 fun t31 w_10 =>
            C [t31] w_10) (
            vslice P T_string v0 (some v1) (some (sl 0 u)) none w_9 fun t35 w_11 =>
            R (.tuple #[t35, (sl 0 u)]) w_11)) (
          vslice P T_string v0 (some v1) (some (sl 0 u)) none w_7 fun t35_1 w_12 =>
          R (.tuple #[t35_1, (sl 0 u)]) w_12)) (
        vslice P T_string v0 (some v1) (some (sl 0 u)) none w_5 fun t35_2 w_13 =>
        R (.tuple #[t35_2, (sl 0 u)]) w_13)) (
      vslice P T_string v0 (some v1) (some (sl 0 u)) none w_3 fun t35_3 w_14 =>
      R (.tuple #[t35_3, (sl 0 u)]) w_14)
def A_spec_l2Word : Ann := { ord := [], loops := [(2, [6])], cuts := [] }
theorem k_spec_l2Word (v0 v1 : Value) (w : World) (R : Value → World → Prop) : vc PP A_spec_l2Word ((Tryz.f104.body).getD .skip) (retF PP Tryz.f104.results.toList R) (nthV [v0, v1]) w = F_spec_l2Word PP v0 v1 w R := by kernel_rfl
theorem c_spec_l2Word {v0 v1 : Value} {w : World} {R : Value → World → Prop} (h : F_spec_l2Word PP v0 v1 w R) : vcall PP n_spec_l2Word #[v0, v1] w R :=
  call_of_vc (T := A_spec_l2Word) (c := (Tryz.f104.body).getD .skip) (n := 37) mixed Tryz.func104 rfl rfl (by kernel_rfl) (by kernel_rfl) rfl (by rw [k_spec_l2Word]; exact h)

/-- spec.l2Leaf -/
def F_spec_l2Leaf (P : Program) (v0 : Value) (w : World) (R : Value → World → Prop) : Prop :=
  valloc P T_impl_Term w fun t2 w_1 =>
  vbin P .eql T_string true v0 (.string { data := #[116, 114, 117, 101] }) w_1 fun t6 w_2 =>
  vif t6 (
    vbuild P T_impl_Term [(0, (.int .i64 24))] w_2 fun t7 w_3 =>
    vstore P T_impl_Term t2 t7 w_3 fun _ w_4 =>
    vlv P T_impl_Term t2 w_4 fun r2 w_5 =>
    R r2 w_5) (
    vcall P n_spec_VecRead #[v0] w_2 fun t10 w_6 =>
    vextract P t10 0 w_6 fun t11 w_7 =>
    vextract P t10 1 w_7 fun t12 w_8 =>
    valloc P T_impl_Vec w_8 fun t3 w_9 =>
    vstore P T_impl_Vec t3 t11 w_9 fun _ w_10 =>
    vif t12 (
      vfaddr P T_impl_Vec t3 0 w_10 fun t14 w_11 =>
      vload P T_int t14 w_11 fun t15 w_12 =>
      vfaddr P T_impl_Vec t3 1 w_12 fun t16 w_13 =>
      vload P T_int t16 w_13 fun t17 w_14 =>
      vbuild P T_impl_Term [(0, (.int .i64 20)), (1, t15), (2, t17)] w_14 fun t18 w_15 =>
      vstore P T_impl_Term t2 t18 w_15 fun _ w_16 =>
      vlv P T_impl_Term t2 w_16 fun r2_1 w_17 =>
      R r2_1 w_17) (
      vbuild P T_impl_Term [(0, (.int .i64 21)), (3, v0)] w_10 fun t20 w_18 =>
      vstore P T_impl_Term t2 t20 w_18 fun _ w_19 =>
      vlv P T_impl_Term t2 w_19 fun r2_2 w_20 =>
      R r2_2 w_20))
def A_spec_l2Leaf : Ann := { ord := [], loops := [], cuts := [] }
theorem k_spec_l2Leaf (v0 : Value) (w : World) (R : Value → World → Prop) : vc PP A_spec_l2Leaf ((Tryz.f105.body).getD .skip) (retF PP Tryz.f105.results.toList R) (nthV [v0]) w = F_spec_l2Leaf PP v0 w R := by kernel_rfl
theorem c_spec_l2Leaf {v0 : Value} {w : World} {R : Value → World → Prop} (h : F_spec_l2Leaf PP v0 w R) : vcall PP n_spec_l2Leaf #[v0] w R :=
  call_of_vc (T := A_spec_l2Leaf) (c := (Tryz.f105.body).getD .skip) (n := 21) mixed Tryz.func105 rfl rfl (by kernel_rfl) (by kernel_rfl) rfl (by rw [k_spec_l2Leaf]; exact h)

/-- spec.l2Op -/
def F_spec_l2Op (P : Program) (v0 : Value) (w : World) (R : Value → World → Prop) : Prop :=
  vcall P n_spec_l2Words #[] w fun t5 w_1 =>
  vloop [(.int .i64 1)] w_1 fun C u _ w_2 =>
    vbi P .len [T_Lstring] T_int [t5] w_2 fun t8 w_3 =>
    vbin P .lss T_int false (sl 0 u) t8 w_3 fun t9 w_4 =>
    vif t9 (
      viaddr P T_Lstring t5 (sl 0 u) w_4 fun t14 w_5 =>
      vload P T_string t14 w_5 fun t15 w_6 =>
      vbin P .neq T_string true t15 (.string { data := #[] }) w_6 fun t16 w_7 =>
      vif t16 (
        viaddr P T_Lstring t5 (sl 0 u) w_7 fun t20 w_8 =>
        vload P T_string t20 w_8 fun t21 w_9 =>
        vbin P .eql T_string false t21 v0 w_9 fun t23 w_10 =>
        vif t23 (
          R (sl 0 u) w_10) (
          vbin P .add T_int true (sl 0 u) (.int .i64 1) w_10 fun t11 w_11 =>
          C [t11] w_11)) (
        vbin P .add T_int true (sl 0 u) (.int .i64 1) w_7 fun t11_1 w_12 =>
        C [t11_1] w_12)) (
      R (.int .i64 0) w_4)
def A_spec_l2Op : Ann := { ord := [], loops := [(3, [4])], cuts := [] }
theorem k_spec_l2Op (v0 : Value) (w : World) (R : Value → World → Prop) : vc PP A_spec_l2Op ((Tryz.f106.body).getD .skip) (retF PP Tryz.f106.results.toList R) (nthV [v0]) w = F_spec_l2Op PP v0 w R := by kernel_rfl
theorem c_spec_l2Op {v0 : Value} {w : World} {R : Value → World → Prop} (h : F_spec_l2Op PP v0 w R) : vcall PP n_spec_l2Op #[v0] w R :=
  call_of_vc (T := A_spec_l2Op) (c := (Tryz.f106.body).getD .skip) (n := 26) mixed Tryz.func106 rfl rfl (by kernel_rfl) (by kernel_rfl) rfl (by rw [k_spec_l2Op]; exact h)

/-- spec.l2Kids -/
def F_spec_l2Kids (P : Program) (v0 v1 v2 v3 : Value) (w : World) (R : Value → World → Prop) : Prop :=
  vbox P T_impl_Term v3 w fun t7 w_1 =>
  valloc P T_impl_Term w_1 fun t8 w_2 =>
  vloop [v1] w_2 fun C u _ w_3 =>
    vjoin (fun J =>
      vbi P .len [T_string] T_int [v0] w_3 fun t14 w_5 =>
      vbin P .lss T_int false (sl 0 u) t14 w_5 fun t15 w_6 =>
      vif t15 (
        vindex P T_string v0 (sl 0 u) w_6 fun t19 w_7 =>
        vbin P .eql T_uint8 true t19 (.int .u8 32) w_7 fun t20 w_8 =>
        vif t20 (
          vfaddr P T_impl_Term t7 4 w_8 fun t23 w_9 =>
          vload P T_Limpl_Term t23 w_9 fun t24 w_10 =>
          vbi P .len [T_Limpl_Term] T_int [t24] w_10 fun t25 w_11 =>
          vbin P .lss T_int true t25 (.int .i64 3) w_11 fun t26 w_12 =>
          vif t26 (
            J [] w_12) (
            vbi P .len [T_string] T_int [v0] w_12 fun t48 w_13 =>
            vbin P .geq T_int false (sl 0 u) t48 w_13 fun t49 w_14 =>
            vif t49 (
              vload P T_impl_Term t7 w_14 fun t56 w_15 =>
              vstore P T_impl_Term t8 t56 w_15 fun _ w_16 =>
              vlv P T_impl_Term t8 w_16 fun r8 w_17 =>
              R (.tuple #[r8, (.int .i64 (-1))]) w_17) (
              vindex P T_string v0 (sl 0 u) w_14 fun t53 w_18 =>
              vbin P .neq T_uint8 true t53 (.int .u8 41) w_18 fun t54 w_19 =>
              vif t54 (
                vload P T_impl_Term t7 w_19 fun t56_1 w_20 =>
                vstore P T_impl_Term t8 t56_1 w_20 fun _ w_21 =>
                vlv P T_impl_Term t8 w_21 fun r8_1 w_22 =>
                R (.tuple #[r8_1, (.int .i64 (-1))]) w_22) (
                vload P T_impl_Term t7 w_19 fun t57 w_23 =>
                vbin P .add T_int true (sl 0 u) (.int .i64 1) w_23 fun t59 w_24 =>
                vstore P T_impl_Term t8 t57 w_24 fun _ w_25 =>
                vlv P T_impl_Term t8 w_25 fun r8_2 w_26 =>
                R (.tuple #[r8_2, t59]) w_26)))) (
          vbi P .len [T_string] T_int [v0] w_8 fun t48_1 w_27 =>
          vbin P .geq T_int false (sl 0 u) t48_1 w_27 fun t49_1 w_28 =>
          vif t49_1 (
            vload P T_impl_Term t7 w_28 fun t56_2 w_29 =>
            vstore P T_impl_Term t8 t56_2 w_29 fun _ w_30 =>
            vlv P T_impl_Term t8 w_30 fun r8_3 w_31 =>
            R (.tuple #[r8_3, (.int .i64 (-1))]) w_31) (
            vindex P T_string v0 (sl 0 u) w_28 fun t53_1 w_32 =>
            vbin P .neq T_uint8 true t53_1 (.int .u8 41) w_32 fun t54_1 w_33 =>
            vif t54_1 (
              vload P T_impl_Term t7 w_33 fun t56_3 w_34 =>
              vstore P T_impl_Term t8 t56_3 w_34 fun _ w_35 =>
              vlv P T_impl_Term t8 w_35 fun r8_4 w_36 =>
              R (.tuple #[r8_4, (.int .i64 (-1))]) w_36) (
              vload P T_impl_Term t7 w_33 fun t57_1 w_37 =>
              vbin P .add T_int true (sl 0 u) (.int .i64 1) w_37 fun t59_1 w_38 =>
              vstore P T_impl_Term t8 t57_1 w_38 fun _ w_39 =>
              vlv P T_impl_Term t8 w_39 fun r8_5 w_40 =>
              R (.tuple #[r8_5, t59_1]) w_40)))) (
        vbi P .len [T_string] T_int [v0] w_6 fun t48_2 w_41 =>
        vbin P .geq T_int false (sl 0 u) t48_2 w_41 fun t49_2 w_42 =>
        vif t49_2 (
          vload P T_impl_Term t7 w_42 fun t56_4 w_43 =>
          vstore P T_impl_Term t8 t56_4 w_43 fun _ w_44 =>
          vlv P T_impl_Term t8 w_44 fun r8_6 w_45 =>
          R (.tuple #[r8_6, (.int .i64 (-1))]) w_45) (
          vindex P T_string v0 (sl 0 u) w_42 fun t53_2 w_46 =>
          vbin P .neq T_uint8 true t53_2 (.int .u8 41) w_46 fun t54_2 w_47 =>
          vif t54_2 (
            vload P T_impl_Term t7 w_47 fun t56_5 w_48 =>
            vstore P T_impl_Term t8 t56_5 w_48 fun _ w_49 =>
            vlv P T_impl_Term t8 w_49 fun r8_7 w_50 =>
            R (.tuple #[r8_7, (.int .i64 (-1))]) w_50) (
            vload P T_impl_Term t7 w_47 fun t57_2 w_51 =>
            vbin P .add T_int true (sl 0 u) (.int .i64 1) w_51 fun t59_2 w_52 =>
            vstore P T_impl_Term t8 t57_2 w_52 fun _ w_53 =>
            vlv P T_impl_Term t8 w_53 fun r8_8 w_54 =>
            R (.tuple #[r8_8, t59_2]) w_54)))) (fun _ _ w_4 =>
      vbin P .add T_int true (sl 0 u) (.int .i64 1) w_4 fun t31 w_55 =>
      vcall P n_spec_l2Read #[v0, t31, v2] w_55 fun t33 w_56 =>
      vextract P t33 0 w_56 fun t34 w_57 =>
      vextract P t33 1 w_57 fun t35 w_58 =>
      valloc P T_impl_Term w_58 fun t10 w_59 =>
      vstore P T_impl_Term t10 t34 w_59 fun _ w_60 =>
      vbin P .lss T_int true t35 (.int .i64 0) w_60 fun t37 w_61 =>
      vif t37 (
        vload P T_impl_Term t7 w_61 fun t38 w_62 =>
        vstore P T_impl_Term t8 t38 w_62 fun _ w_63 =>
        vlv P T_impl_Term t8 w_63 fun r8_9 w_64 =>
        R (.tuple #[r8_9, (.int .i64 (-1))]) w_64) (
        vfaddr P T_impl_Term t7 4 w_61 fun t39 w_65 =>
        vload P T_Limpl_Term t39 w_65 fun t40 w_66 =>
        vload P T_impl_Term t10 w_66 fun t41 w_67 =>
        vbuildS P T_Limpl_Term 1 [(0, t41)] w_67 fun t42 w_68 =>
        vbi P .append [T_Limpl_Term, T_Limpl_Term] T_Limpl_Term [t40, t42] w_68 fun t43 w_69 =>
        vfaddr P T_impl_Term t7 4 w_69 fun t44 w_70 =>
        vstore P T_Limpl_Term t44 t43 w_70 fun _ w_71 =>
        C [t35] w_71))
def A_spec_l2Kids : Ann := { ord := [], loops := [(1, [1])], cuts := [(8194, [])] }
theorem k_spec_l2Kids (v0 v1 v2 v3 : Value) (w : World) (R : Value → World → Prop) : vc PP A_spec_l2Kids ((Tryz.f107.body).getD .skip) (retF PP Tryz.f107.results.toList R) (nthV [v0, v1, v2, v3]) w = F_spec_l2Kids PP v0 v1 v2 v3 w R := by kernel_rfl
theorem c_spec_l2Kids {v0 v1 v2 v3 : Value} {w : World} {R : Value → World → Prop} (h : F_spec_l2Kids PP v0 v1 v2 v3 w R) : vcall PP n_spec_l2Kids #[v0, v1, v2, v3] w R :=
  call_of_vc (T := A_spec_l2Kids) (c := (Tryz.f107.body).getD .skip) (n := 60) mixed Tryz.func107 rfl rfl (by kernel_rfl) (by kernel_rfl) rfl (by rw [k_spec_l2Kids]; exact h)

/-- spec.l12Num -/
def F_spec_l12Num (P : Program) (v0 : Value) (w : World) (R : Value → World → Prop) : Prop :=
  vjoin (fun J =>
    vbi P .len [T_string] T_int [v0] w fun t8 w_2 =>
    vbin P .gtr T_int true t8 (.int .i64 0) w_2 fun t9 w_3 =>
    vif t9 (
      vindex P T_string v0 (.int .i64 0) w_3 fun t12 w_4 =>
      vbin P .eql T_uint8 true t12 (.int .u8 45) w_4 fun t13 w_5 =>
      J [t13] w_5) (
      J [(.bool false)] w_3)) (fun u _ w_1 =>
    vjoin (fun J_1 =>
      vif (sl 0 u) (
        vslice P T_string v0 (some (.int .i64 1)) none none w_1 fun t17 w_7 =>
        J_1 [t17] w_7) (
        J_1 [v0] w_1)) (fun u_1 _ w_6 =>
      vjoin (fun J_2 =>
        vbi P .len [T_string] T_int [(sl 0 u_1)] w_6 fun t19 w_9 =>
        vbin P .eql T_int true t19 (.int .i64 0) w_9 fun t20 w_10 =>
        vif t20 (
          R (.tuple #[(.int .i64 0), (.bool false)]) w_10) (
          vbi P .len [T_string] T_int [(sl 0 u_1)] w_10 fun t23 w_11 =>
          vbin P .gtr T_int true t23 (.int .i64 17) w_11 fun t24 w_12 =>
          vif t24 (
            R (.tuple #[(.int .i64 0), (.bool false)]) w_12) (
            vindex P T_string (sl 0 u_1) (.int .i64 0) w_12 fun t28 w_13 =>
            vbin P .eql T_uint8 true t28 (.int .u8 48) w_13 fun t29 w_14 =>
            vif t29 (
              vbi P .len [T_string] T_int [(sl 0 u_1)] w_14 fun t32 w_15 =>
              vbin P .gtr T_int true t32 (.int .i64 1) w_15 fun t33 w_16 =>
              vif t33 (
                R (.tuple #[(.int .i64 0), (.bool false)]) w_16) (
                vif (sl 0 u) (
                  R (.tuple #[(.int .i64 0), (.bool false)]) w_16) (
                  J_2 [] w_16))) (
              J_2 [] w_14)))) (fun _ _ w_8 =>
        vloop [(.int .i64 0), (.int .i64 0)] w_8 fun C u_3 _ w_17 =>
          vbi P .len [T_string] T_int [(sl 0 u_1)] w_17 fun t41 w_18 =>
          vbin P .lss T_int false (sl 1 u_3) t41 w_18 fun t42 w_19 =>
          vif t42 (
            vindex P T_string (sl 0 u_1) (sl 1 u_3) w_19 fun t47 w_20 =>
            vbin P .lss T_uint8 true t47 (.int .u8 48) w_20 fun t48 w_21 =>
            vif t48 (
              R (.tuple #[(.int .i64 0), (.bool false)]) w_21) (
              vindex P T_string (sl 0 u_1) (sl 1 u_3) w_21 fun t52 w_22 =>
              vbin P .gtr T_uint8 true t52 (.int .u8 57) w_22 fun t53 w_23 =>
              vif t53 (
                R (.tuple #[(.int .i64 0), (.bool false)]) w_23) (
                vbin P .mul T_int true (sl 0 u_3) (.int .i64 10) w_23 fun t56 w_24 =>
                vindex P T_string (sl 0 u_1) (sl 1 u_3) w_24 fun t59 w_25 =>
                vbin P .sub T_uint8 true t59 (.int .u8 48) w_25 fun t60 w_26 =>
                vconv P T_uint8 T_int t60 w_26 fun t61 w_27 =>
                vbin P .add T_int false t56 t61 w_27 fun t62 w_28 =>
                vbin P .add T_int true (sl 1 u_3) (.int .i64 1) w_28 fun t44 w_29 =>
                C [t62, t44] w_29))) (
            vif (sl 0 u) (
              vun P .neg (sl 0 u_3) w_19 fun t65 w_30 =>
              R (.tuple #[t65, (.bool true)]) w_30) (
              R (.tuple #[(sl 0 u_3), (.bool true)]) w_19)))))
def A_spec_l12Num : Ann := { ord := [], loops := [(8, [5, 6])], cuts := [(8194, [4]), (12292, [0]), (20486, [])] }
theorem k_spec_l12Num (v0 : Value) (w : World) (R : Value → World → Prop) : vc PP A_spec_l12Num ((Tryz.f108.body).getD .skip) (retF PP Tryz.f108.results.toList R) (nthV [v0]) w = F_spec_l12Num PP v0 w R := by kernel_rfl
theorem c_spec_l12Num {v0 : Value} {w : World} {R : Value → World → Prop} (h : F_spec_l12Num PP v0 w R) : vcall PP n_spec_l12Num #[v0] w R :=
  call_of_vc (T := A_spec_l12Num) (c := (Tryz.f108.body).getD .skip) (n := 67) mixed Tryz.func108 rfl rfl (by kernel_rfl) (by kernel_rfl) rfl (by rw [k_spec_l12Num]; exact h)

/-- (*impl.parser).term -/
def F_impl_parser_term (P : Program) (v0 v1 : Value) (w : World) (R : Value → World → Prop) : Prop :=
  valloc P T_impl_Term w fun t4 w_1 =>
  vbin P .gtr T_int true v1 (.int .i64 7) w_1 fun t10 w_2 =>
  vcall P n_impl_fail #[t10] w_2 fun _ w_3 =>
  vnil P v0 w_3 fun t13 w_4 =>
  vfaddr P T_impl_parser t13 0 w_4 fun t14 w_5 =>
  vload P T_string t14 w_5 fun t15 w_6 =>
  vcall P n_strings_HasPrefix #[t15, (.string { data := #[40] })] w_6 fun t16 w_7 =>
  vun P .not t16 w_7 fun t17 w_8 =>
  vif t17 (
    vcall P n_impl_parser_word #[v0] w_8 fun t19 w_9 =>
    vcall P n_impl_atom #[t19] w_9 fun t20 w_10 =>
    vstore P T_impl_Term t4 t20 w_10 fun _ w_11 =>
    vlv P T_impl_Term t4 w_11 fun r4 w_12 =>
    R r4 w_12) (
    vcall P n_impl_parser_take #[v0, (.string { data := #[40] })] w_8 fun _ w_13 =>
    vcall P n_impl_parser_word #[v0] w_13 fun t24 w_14 =>
    valloc P T_impl_Term w_14 fun t6 w_15 =>
    vnil P v0 w_15 fun t26 w_16 =>
    vfaddr P T_impl_parser t26 1 w_16 fun t27 w_17 =>
    vload P T_M_map_int_impl_kind t27 w_17 fun t28 w_18 =>
    vrange P T_M_map_int_impl_kind t28 w_18 fun t29 w_19 =>
    vloop [] w_19 fun C _ _ w_20 =>
      vnext P t29 false T_T_ w_20 fun t30 w_21 =>
      vextract P t30 0 w_21 fun t31 w_22 =>
      vif t31 (
        ventry P t29 w_22 fun t32 w_23 =>
        vextract P t32 0 w_23 fun t33 w_24 =>
        vextract P t32 1 w_24 fun t34 w_25 =>
        vinvoke P t34 mn_word #[] w_25 fun t36 w_26 =>
        vbin P .eql T_string false t36 t24 w_26 fun t38 w_27 =>
        vif t38 (
          vinvoke P t34 mn_kids #[] w_27 fun t41 w_28 =>
          vbin P .gtr T_int true t41 (.int .i64 0) w_28 fun t42 w_29 =>
          vif t42 (
            vfaddr P T_impl_Term t6 0 w_29 fun t45 w_30 =>
            vstore P T_int t45 t33 w_30 fun _ w_31 =>
            C [] w_31) (
            C [] w_29)) (
          C [] w_27)) (
        vfaddr P T_impl_Term t6 0 w_22 fun t46 w_32 =>
        vload P T_int t46 w_32 fun t47 w_33 =>
        vbin P .eql T_int true t47 (.int .i64 0) w_33 fun t48 w_34 =>
        vcall P n_impl_fail #[t48] w_34 fun _ w_35 =>
        vjoin (fun J =>
          vfaddr P T_impl_Term t6 0 w_35 fun t50 w_37 =>
          vload P T_int t50 w_37 fun t51 w_38 =>
          vbin P .eql T_int true t51 (.int .i64 22) w_38 fun t52 w_39 =>
          vif t52 (
            vcall P n_impl_parser_number #[v0] w_39 fun t54 w_40 =>
            vfaddr P T_impl_Term t6 1 w_40 fun t55 w_41 =>
            vstore P T_int t55 t54 w_41 fun _ w_42 =>
            vcall P n_impl_parser_number #[v0] w_42 fun t57 w_43 =>
            vfaddr P T_impl_Term t6 2 w_43 fun t58 w_44 =>
            vstore P T_int t58 t57 w_44 fun _ w_45 =>
            J [] w_45) (
            J [] w_39)) (fun _ _ w_36 =>
          vdraw w_36 fun w_46 =>
          vnil P v0 w_46 fun t60 w_47 => w_47 = w_46 ∧
          vfaddr P T_impl_parser t60 1 w_46 fun t61 w_48 => w_48 = w_46 ∧
          vload P T_M_map_int_impl_kind t61 w_46 fun t62 w_49 => w_49 = w_46 ∧
          vfaddr P T_impl_Term t6 0 w_46 fun t63 w_50 => w_50 = w_46 ∧
          vload P T_int t63 w_46 fun t64 w_51 => w_51 = w_46 ∧
          vlook P T_M_map_int_impl_kind t62 t64 false w_46 fun t65 w_52 => w_52 = w_46 ∧
          vinvoke P t65 mn_kids #[] w_46 fun t66 w_53 =>
          vloop [(.int .i64 0)] w_53 fun C_1 u_2 _ w_54 =>
            vbin P .lss T_int false (sl 0 u_2) t66 w_54 fun t68 w_55 =>
            vif t68 (
              vcall P n_impl_parser_take #[v0, (.string { data := #[32] })] w_55 fun _ w_56 =>
              vdraw w_56 fun w_57 =>
              vfaddr P T_impl_Term t6 4 w_57 fun t71 w_58 => w_58 = w_57 ∧
              vload P T_Limpl_Term t71 w_57 fun t72 w_59 => w_59 = w_57 ∧
              vbin P .add T_int true v1 (.int .i64 1) w_57 fun t75 w_60 => w_60 = w_57 ∧
              vcall P n_impl_parser_term #[v0, t75] w_57 fun t76 w_61 => (vload P T_Limpl_Term t71 w_61 fun v x => v = t72 ∧ x = w_61) ∧ (vfaddr P T_impl_Term t6 4 w_61 fun v x => v = t71 ∧ x = w_61) ∧
              vbuildS P T_Limpl_Term 1 [(0, t76)] w_61 fun t77 w_62 => (vload P T_Limpl_Term t71 w_62 fun v x => v = t72 ∧ x = w_62) ∧ (vfaddr P T_impl_Term t6 4 w_62 fun v x => v = t71 ∧ x = w_62) ∧
              vbi P .append [T_Limpl_Term, T_Limpl_Term] T_Limpl_Term [t72, t77] w_62 fun t78 w_63 =>
              vfaddr P T_impl_Term t6 4 w_63 fun t79 w_64 => w_64 = w_63 ∧
              vstore P T_Limpl_Term t79 t78 w_63 fun _ w_65 =>
              vbin P .add T_int true (sl 0 u_2) (.int .i64 1) w_65 fun t80 w_66 =>
              C_1 [t80] w_66) (
              vcall P n_impl_parser_take #[v0, (.string { data := #[41] })] w_55 fun _ w_67 =>
              vload P T_impl_Term t6 w_67 fun t83 w_68 =>
              vstore P T_impl_Term t4 t83 w_68 fun _ w_69 =>
              vlv P T_impl_Term t4 w_69 fun r4_1 w_70 =>
              R r4_1 w_70))))
def A_impl_parser_term : Ann := { ord := [(16, [0, 1, 2, 3, 4, 5, 6, 8, 7], [(0, [1, 2, 3, 6, 7]), (1, [2, 3, 6, 7]), (2, [3, 6, 7]), (3, [6, 7]), (4, [5, 6, 7]), (5, [6, 7]), (6, [7])]), (19, [0, 1, 2, 3, 4, 5, 6, 7, 8, 9], [(0, [1, 7, 8, 9]), (1, [7, 8, 9]), (2, [5, 6, 7, 8, 9]), (3, [4, 5, 6, 7, 8, 9]), (4, [5, 6, 7, 8, 9]), (5, [6, 7, 8, 9]), (6, [7, 8, 9]), (7, [8, 9]), (8, [9])])], loops := [(8, []), (17, [67])], cuts := [(57360, [])] }
theorem k_impl_parser_term (v0 v1 : Value) (w : World) (R : Value → World → Prop) : vc PP A_impl_parser_term ((Tryz.f110.body).getD .skip) (retF PP Tryz.f110.results.toList R) (nthV [v0, v1]) w = F_impl_parser_term PP v0 v1 w R := by kernel_rfl
theorem c_impl_parser_term {v0 v1 : Value} {w : World} {R : Value → World → Prop} (h : F_impl_parser_term PP v0 v1 w R) : vcall PP n_impl_parser_term #[v0, v1] w R :=
  call_of_vc (T := A_impl_parser_term) (c := (Tryz.f110.body).getD .skip) (n := 84) mixed Tryz.func110 rfl rfl (by kernel_rfl) (by kernel_rfl) rfl (by rw [k_impl_parser_term]; exact h)

/-- impl.VecText -/
def F_impl_VecText (P : Program) (v0 : Value) (w : World) (R : Value → World → Prop) : Prop :=
  vbox P T_impl_Vec v0 w fun t1 w_1 =>
  vload P T_impl_Vec t1 w_1 fun t5 w_2 =>
  vcall P n_impl_VecOk #[t5] w_2 fun t6 w_3 =>
  vun P .not t6 w_3 fun t7 w_4 =>
  vif t7 (
    R (.string { data := #[] }) w_4) (
    vbuildS P T_Luint8 1 [(0, (.int .u8 35))] w_4 fun t8 w_5 =>
    vfaddr P T_impl_Vec t1 0 w_5 fun t9 w_6 =>
    vload P T_int t9 w_6 fun t10 w_7 =>
    vbin P .sub T_int true t10 (.int .i64 1) w_7 fun t11 w_8 =>
    vloop [t8, t11] w_8 fun C u _ w_9 =>
      vbin P .geq T_int true (sl 1 u) (.int .i64 0) w_9 fun t13 w_10 =>
      vif t13 (
        vload P T_impl_Vec t1 w_10 fun t16 w_11 =>
        vcall P n_impl_Vec_raw #[t16] w_11 fun t17 w_12 =>
        vcall P n_impl_raw_bit #[t17, (sl 1 u)] w_12 fun t19 w_13 =>
        vif t19 (
          vbuildS P T_Luint8 1 [(0, (.int .u8 49))] w_13 fun t21 w_14 =>
          vbi P .append [T_Luint8, T_Luint8] T_Luint8 [(sl 0 u), t21] w_14 fun t22 w_15 =>
          vbin P .sub T_int true (sl 1 u) (.int .i64 1) w_15 fun t15 w_16 =>
          C [t22, t15] w_16) (
          vbuildS P T_Luint8 1 [(0, (.int .u8 48))] w_13 fun t24 w_17 =>
          vbi P .append [T_Luint8, T_Luint8] T_Luint8 [(sl 0 u), t24] w_17 fun t25 w_18 =>
          vbin P .sub T_int true (sl 1 u) (.int .i64 1) w_18 fun t15_1 w_19 =>
          C [t25, t15_1] w_19)) (
        vconv P T_Luint8 T_string (sl 0 u) w_10 fun t27 w_20 =>
        R t27 w_20))
def A_impl_VecText : Ann := { ord := [], loops := [(5, [3, 4])], cuts := [] }
theorem k_impl_VecText (v0 : Value) (w : World) (R : Value → World → Prop) : vc PP A_impl_VecText ((Tryz.f111.body).getD .skip) (retF PP Tryz.f111.results.toList R) (nthV [v0]) w = F_impl_VecText PP v0 w R := by kernel_rfl
theorem c_impl_VecText {v0 : Value} {w : World} {R : Value → World → Prop} (h : F_impl_VecText PP v0 w R) : vcall PP n_impl_VecText #[v0] w R :=
  call_of_vc (T := A_impl_VecText) (c := (Tryz.f111.body).getD .skip) (n := 28) mixed Tryz.func111 rfl rfl (by kernel_rfl) (by kernel_rfl) rfl (by rw [k_impl_VecText]; exact h)

/-- spec.VecText -/
def F_spec_VecText (P : Program) (v0 : Value) (w : World) (R : Value → World → Prop) : Prop :=
  vbox P T_impl_Vec v0 w fun t1 w_1 =>
  vload P T_impl_Vec t1 w_1 fun t5 w_2 =>
  vcall P n_spec_VecOk #[t5] w_2 fun t6 w_3 =>
  vun P .not t6 w_3 fun t7 w_4 =>
  vif t7 (
    R (.string { data := #[] }) w_4) (
    vfaddr P T_impl_Vec t1 0 w_4 fun t8 w_5 =>
    vload P T_int t8 w_5 fun t9 w_6 =>
    vbin P .sub T_int true t9 (.int .i64 1) w_6 fun t10 w_7 =>
    vloop [(.string { data := #[35] }), t10] w_7 fun C u _ w_8 =>
      vbin P .geq T_int true (sl 1 u) (.int .i64 0) w_8 fun t12 w_9 =>
      vif t12 (
        vfaddr P T_impl_Vec t1 1 w_9 fun t16 w_10 =>
        vload P T_int t16 w_10 fun t17 w_11 =>
        vcall P n_spec_l1Bit #[t17, (sl 1 u)] w_11 fun t19 w_12 =>
        vcall P n_spec_l12Dec #[t19] w_12 fun t20 w_13 =>
        vbin P .add T_string false (sl 0 u) t20 w_13 fun t21 w_14 =>
        vbin P .sub T_int true (sl 1 u) (.int .i64 1) w_14 fun t14 w_15 =>
        C [t21, t14] w_15) (
        R (sl 0 u) w_9))
def A_spec_VecText : Ann := { ord := [], loops := [(5, [3, 4])], cuts := [] }
theorem k_spec_VecText (v0 : Value) (w : World) (R : Value → World → Prop) : vc PP A_spec_VecText ((Tryz.f114.body).getD .skip) (retF PP Tryz.f114.results.toList R) (nthV [v0]) w = F_spec_VecText PP v0 w R := by kernel_rfl
theorem c_spec_VecText {v0 : Value} {w : World} {R : Value → World → Prop} (h : F_spec_VecText PP v0 w R) : vcall PP n_spec_VecText #[v0] w R :=
  call_of_vc (T := A_spec_VecText) (c := (Tryz.f114.body).getD .skip) (n := 23) mixed Tryz.func114 rfl rfl (by kernel_rfl) (by kernel_rfl) rfl (by rw [k_spec_VecText]; exact h)

/-- spec.l2Words -/
def F_spec_l2Words (P : Program) (w : World) (R : Value → World → Prop) : Prop :=
  vbuildS P T_Lstring 28 [(0, (.string { data := #[] })), (1, (.string { data := #[110, 111, 116] })), (2, (.string { data := #[110, 101, 103] })), (3, (.string { data := #[97, 110, 100] })), (4, (.string { data := #[111, 114] })), (5, (.string { data := #[120, 111, 114] })), (6, (.string { data := #[97, 100, 100] })), (7, (.string { data := #[115, 117, 98] })), (8, (.string { data := #[109, 117, 108] })), (9, (.string { data := #[100, 105, 118] })), (10, (.string { data := #[114, 101, 109] })), (11, (.string { data := #[115, 104, 108] })), (12, (.string { data := #[115, 104, 114] })), (13, (.string { data := #[115, 97, 114] })), (14, (.string { data := #[99, 97, 116] })), (15, (.string { data := #[115, 97, 109, 101] })), (16, (.string { data := #[108, 101, 115, 115] })), (17, (.string { data := #[117, 110, 100, 101, 114] })), (18, (.string { data := #[] })), (19, (.string { data := #[] })), (20, (.string { data := #[] })), (21, (.string { data := #[] })), (22, (.string { data := #[99, 117, 116] })), (23, (.string { data := #[105, 102] })), (24, (.string { data := #[116, 114, 117, 101] })), (25, (.string { data := #[110, 111] })), (26, (.string { data := #[98, 111, 116, 104] })), (27, (.string { data := #[97, 110, 121] }))] w fun t1 w_1 =>
  R t1 w_1
def A_spec_l2Words : Ann := { ord := [], loops := [], cuts := [] }
theorem k_spec_l2Words (w : World) (R : Value → World → Prop) : vc PP A_spec_l2Words ((Tryz.f115.body).getD .skip) (retF PP Tryz.f115.results.toList R) (nthV []) w = F_spec_l2Words PP  w R := by kernel_rfl
theorem c_spec_l2Words {w : World} {R : Value → World → Prop} (h : F_spec_l2Words PP  w R) : vcall PP n_spec_l2Words #[] w R :=
  call_of_vc (T := A_spec_l2Words) (c := (Tryz.f115.body).getD .skip) (n := 2) mixed Tryz.func115 rfl rfl (by kernel_rfl) (by kernel_rfl) rfl (by rw [k_spec_l2Words]; exact h)

/-- spec.l12Dec -/
def F_spec_l12Dec (P : Program) (v0 : Value) (w : World) (R : Value → World → Prop) : Prop :=
  vbin P .lss T_int true v0 (.int .i64 (-9223372036854775807)) w fun t5 w_1 =>
  vif t5 (
    R (.string { data := #[45, 57, 50, 50, 51, 51, 55, 50, 48, 51, 54, 56, 53, 52, 55, 55, 53, 56, 48, 56] }) w_1) (
    vbin P .lss T_int true v0 (.int .i64 0) w_1 fun t7 w_2 =>
    vif t7 (
      vun P .neg v0 w_2 fun t9 w_3 =>
      vcall P n_spec_l12Dec #[t9] w_3 fun t10 w_4 =>
      vbin P .add T_string true (.string { data := #[45] }) t10 w_4 fun t11 w_5 =>
      R t11 w_5) (
      vloop [v0, (.string { data := #[] })] w_2 fun C u _ w_6 =>
        vbin P .gtr T_int true (sl 0 u) (.int .i64 9) w_6 fun t13 w_7 =>
        vif t13 (
          vbin P .rem T_int true (sl 0 u) (.int .i64 10) w_7 fun t15 w_8 =>
          vbin P .add T_int true (.int .i64 48) t15 w_8 fun t16 w_9 =>
          vconv P T_int T_uint8 t16 w_9 fun t17 w_10 =>
          vbuildS P T_Luint8 1 [(0, t17)] w_10 fun t18 w_11 =>
          vconv P T_Luint8 T_string t18 w_11 fun t19 w_12 =>
          vbin P .add T_string false t19 (sl 1 u) w_12 fun t21 w_13 =>
          vbin P .quo T_int true (sl 0 u) (.int .i64 10) w_13 fun t23 w_14 =>
          C [t23, t21] w_14) (
          vbin P .add T_int true (.int .i64 48) (sl 0 u) w_7 fun t25 w_15 =>
          vconv P T_int T_uint8 t25 w_15 fun t26 w_16 =>
          vbuildS P T_Luint8 1 [(0, t26)] w_16 fun t27 w_17 =>
          vconv P T_Luint8 T_string t27 w_17 fun t28 w_18 =>
          vbin P .add T_string false t28 (sl 1 u) w_18 fun t30 w_19 =>
          R t30 w_19)))
def A_spec_l12Dec : Ann := { ord := [], loops := [(6, [0, 3])], cuts := [] }
theorem k_spec_l12Dec (v0 : Value) (w : World) (R : Value → World → Prop) : vc PP A_spec_l12Dec ((Tryz.f116.body).getD .skip) (retF PP Tryz.f116.results.toList R) (nthV [v0]) w = F_spec_l12Dec PP v0 w R := by kernel_rfl
theorem c_spec_l12Dec {v0 : Value} {w : World} {R : Value → World → Prop} (h : F_spec_l12Dec PP v0 w R) : vcall PP n_spec_l12Dec #[v0] w R :=
  call_of_vc (T := A_spec_l12Dec) (c := (Tryz.f116.body).getD .skip) (n := 31) mixed Tryz.func116 rfl rfl (by kernel_rfl) (by kernel_rfl) rfl (by rw [k_spec_l12Dec]; exact h)

/-- spec.l2Vec -/
def F_spec_l2Vec (P : Program) (v0 v1 v2 : Value) (w : World) (R : Value → World → Prop) : Prop :=
  vbox P T_impl_Term v1 w fun t4 w_1 =>
  valloc P T_impl_Vec w_1 fun t6 w_2 =>
  vdraw w_2 fun w_3 =>
  vload P T_impl_Term t4 w_3 fun t8 w_4 => w_4 = w_3 ∧
  vload P T_impl_Term t4 w_3 fun t11 w_5 => w_5 = w_3 ∧
  vcall P n_spec_l2Sort #[v0, t8] w_3 fun t9 w_6 => (vload P T_impl_Term t4 w_6 fun v x => v = t11 ∧ x = w_6) ∧
  vcall P n_spec_l2Eval #[v0, t11, v2] w_6 fun t13 w_7 =>
  vbuild P T_impl_Vec [(0, t9), (1, t13)] w_7 fun t14 w_8 => w_8 = w_7 ∧
  vstore P T_impl_Vec t6 t14 w_7 fun _ w_9 =>
  vlv P T_impl_Vec t6 w_9 fun r6 w_10 =>
  R r6 w_10
def A_spec_l2Vec : Ann := { ord := [(1, [0, 1, 3, 4, 5, 2, 6, 7, 8], [(0, [2, 6, 7, 8]), (1, [2, 6, 7, 8]), (3, [6, 7, 8]), (4, [6, 7, 8]), (5, [6, 7, 8]), (2, [6, 7, 8]), (6, [7, 8]), (7, [8])])], loops := [], cuts := [] }
theorem k_spec_l2Vec (v0 v1 v2 : Value) (w : World) (R : Value → World → Prop) : vc PP A_spec_l2Vec ((Tryz.f117.body).getD .skip) (retF PP Tryz.f117.results.toList R) (nthV [v0, v1, v2]) w = F_spec_l2Vec PP v0 v1 v2 w R := by kernel_rfl
theorem c_spec_l2Vec {v0 v1 v2 : Value} {w : World} {R : Value → World → Prop} (h : F_spec_l2Vec PP v0 v1 v2 w R) : vcall PP n_spec_l2Vec #[v0, v1, v2] w R :=
  call_of_vc (T := A_spec_l2Vec) (c := (Tryz.f117.body).getD .skip) (n := 15) mixed Tryz.func117 rfl rfl (by kernel_rfl) (by kernel_rfl) rfl (by rw [k_spec_l2Vec]; exact h)

/-- spec.VecCut -/
def F_spec_VecCut (P : Program) (v0 v1 v2 : Value) (w : World) (R : Value → World → Prop) : Prop :=
  vbox P T_impl_Vec v0 w fun t3 w_1 =>
  valloc P T_impl_Vec w_1 fun t6 w_2 =>
  vjoin (fun J =>
    vload P T_impl_Vec t3 w_2 fun t9 w_4 =>
    vcall P n_spec_VecOk #[t9] w_4 fun t10 w_5 =>
    vun P .not t10 w_5 fun t11 w_6 =>
    vif t11 (
      vbuild P T_impl_Vec [] w_6 fun t27 w_7 =>
      vstore P T_impl_Vec t6 t27 w_7 fun _ w_8 =>
      vlv P T_impl_Vec t6 w_8 fun r6 w_9 =>
      R (.tuple #[r6, (.bool false)]) w_9) (
      vbin P .lss T_int true v2 (.int .i64 0) w_6 fun t14 w_10 =>
      vif t14 (
        vbuild P T_impl_Vec [] w_10 fun t27_1 w_11 =>
        vstore P T_impl_Vec t6 t27_1 w_11 fun _ w_12 =>
        vlv P T_impl_Vec t6 w_12 fun r6_1 w_13 =>
        R (.tuple #[r6_1, (.bool false)]) w_13) (
        vbin P .lss T_int false v1 v2 w_10 fun t19 w_14 =>
        vif t19 (
          vbuild P T_impl_Vec [] w_14 fun t27_2 w_15 =>
          vstore P T_impl_Vec t6 t27_2 w_15 fun _ w_16 =>
          vlv P T_impl_Vec t6 w_16 fun r6_2 w_17 =>
          R (.tuple #[r6_2, (.bool false)]) w_17) (
          vfaddr P T_impl_Vec t3 0 w_14 fun t23 w_18 =>
          vload P T_int t23 w_18 fun t24 w_19 =>
          vbin P .geq T_int false v1 t24 w_19 fun t25 w_20 =>
          vif t25 (
            vbuild P T_impl_Vec [] w_20 fun t27_3 w_21 =>
            vstore P T_impl_Vec t6 t27_3 w_21 fun _ w_22 =>
            vlv P T_impl_Vec t6 w_22 fun r6_3 w_23 =>
            R (.tuple #[r6_3, (.bool false)]) w_23) (
            J [] w_20))))) (fun _ _ w_3 =>
    vbin P .sub T_int false v1 v2 w_3 fun t30 w_24 =>
    vbin P .add T_int true t30 (.int .i64 1) w_24 fun t31 w_25 =>
    vdraw w_25 fun w_26 =>
    vfaddr P T_impl_Vec t3 1 w_26 fun t33 w_27 => w_27 = w_26 ∧
    vload P T_int t33 w_26 fun t34 w_28 => w_28 = w_26 ∧
    vcall P n_spec_l1Two #[v2] w_26 fun t36 w_29 => (vload P T_int t33 w_29 fun v x => v = t34 ∧ x = w_29) ∧ (vfaddr P T_impl_Vec t3 1 w_29 fun v x => v = t33 ∧ x = w_29) ∧
    vbin P .quo T_int false t34 t36 w_29 fun t37 w_30 => w_30 = w_29 ∧
    vcall P n_spec_l1Two #[t31] w_29 fun t39 w_31 => (vbin P .quo T_int false t34 t36 w_31 fun v x => v = t37 ∧ x = w_31) ∧ (vload P T_int t33 w_31 fun v x => v = t34 ∧ x = w_31) ∧ (vfaddr P T_impl_Vec t3 1 w_31 fun v x => v = t33 ∧ x = w_31) ∧
    vbin P .rem T_int false t37 t39 w_31 fun t40 w_32 => w_32 = w_31 ∧
    vbuild P T_impl_Vec [(0, t31), (1, t40)] w_31 fun t41 w_33 => w_33 = w_31 ∧
    vstore P T_impl_Vec t6 t41 w_31 fun _ w_34 =>
    vlv P T_impl_Vec t6 w_34 fun r6_4 w_35 =>
    R (.tuple #[r6_4, (.bool true)]) w_35)
def A_spec_VecCut : Ann := { ord := [(4, [0, 1, 2, 3, 6, 4, 5, 7, 8, 9, 10, 11], [(0, [9, 10, 11]), (1, [2, 5, 8, 9, 10, 11]), (2, [5, 8, 9, 10, 11]), (3, [4, 5, 7, 8, 9, 10, 11]), (6, [7, 8, 9, 10, 11]), (4, [5, 7, 8, 9, 10, 11]), (5, [8, 9, 10, 11]), (7, [8, 9, 10, 11]), (8, [9, 10, 11]), (9, [10, 11]), (10, [11])])], loops := [], cuts := [(8195, [])] }
theorem k_spec_VecCut (v0 v1 v2 : Value) (w : World) (R : Value → World → Prop) : vc PP A_spec_VecCut ((Tryz.f118.body).getD .skip) (retF PP Tryz.f118.results.toList R) (nthV [v0, v1, v2]) w = F_spec_VecCut PP v0 v1 v2 w R := by kernel_rfl
theorem c_spec_VecCut {v0 v1 v2 : Value} {w : World} {R : Value → World → Prop} (h : F_spec_VecCut PP v0 v1 v2 w R) : vcall PP n_spec_VecCut #[v0, v1, v2] w R :=
  call_of_vc (T := A_spec_VecCut) (c := (Tryz.f118.body).getD .skip) (n := 42) mixed Tryz.func118 rfl rfl (by kernel_rfl) (by kernel_rfl) rfl (by rw [k_spec_VecCut]; exact h)

/-- spec.VecUn -/
def F_spec_VecUn (P : Program) (v0 v1 : Value) (w : World) (R : Value → World → Prop) : Prop :=
  vbox P T_impl_Vec v1 w fun t3 w_1 =>
  valloc P T_impl_Vec w_1 fun t4 w_2 =>
  vload P T_impl_Vec t3 w_2 fun t6 w_3 =>
  vcall P n_spec_VecOk #[t6] w_3 fun t7 w_4 =>
  vun P .not t7 w_4 fun t8 w_5 =>
  vif t8 (
    vbuild P T_impl_Vec [] w_5 fun t9 w_6 =>
    vstore P T_impl_Vec t4 t9 w_6 fun _ w_7 =>
    vlv P T_impl_Vec t4 w_7 fun r4 w_8 =>
    R (.tuple #[r4, (.bool false)]) w_8) (
    vbin P .eql T_int true v0 (.int .i64 1) w_5 fun t12 w_9 =>
    vif t12 (
      vdraw w_9 fun w_10 =>
      vfaddr P T_impl_Vec t3 0 w_10 fun t13 w_11 => w_11 = w_10 ∧
      vload P T_int t13 w_10 fun t14 w_12 => w_12 = w_10 ∧
      vfaddr P T_impl_Vec t3 0 w_10 fun t15 w_13 => w_13 = w_10 ∧
      vload P T_int t15 w_10 fun t16 w_14 => w_14 = w_10 ∧
      vfaddr P T_impl_Vec t3 1 w_10 fun t19 w_15 => w_15 = w_10 ∧
      vload P T_int t19 w_10 fun t20 w_16 => w_16 = w_10 ∧
      vcall P n_spec_l1Two #[t16] w_10 fun t17 w_17 => (vload P T_int t19 w_17 fun v x => v = t20 ∧ x = w_17) ∧ (vfaddr P T_impl_Vec t3 1 w_17 fun v x => v = t19 ∧ x = w_17) ∧ (vload P T_int t13 w_17 fun v x => v = t14 ∧ x = w_17) ∧ (vfaddr P T_impl_Vec t3 0 w_17 fun v x => v = t13 ∧ x = w_17) ∧
      vbin P .sub T_int true t17 (.int .i64 1) w_17 fun t18 w_18 => w_18 = w_17 ∧
      vbin P .sub T_int false t18 t20 w_17 fun t21 w_19 => w_19 = w_17 ∧
      vbuild P T_impl_Vec [(0, t14), (1, t21)] w_17 fun t22 w_20 => w_20 = w_17 ∧
      vstore P T_impl_Vec t4 t22 w_17 fun _ w_21 =>
      vlv P T_impl_Vec t4 w_21 fun r4_1 w_22 =>
      R (.tuple #[r4_1, (.bool true)]) w_22) (
      vbin P .eql T_int true v0 (.int .i64 2) w_9 fun t24 w_23 =>
      vif t24 (
        vdraw w_23 fun w_24 =>
        vfaddr P T_impl_Vec t3 0 w_24 fun t25 w_25 => w_25 = w_24 ∧
        vload P T_int t25 w_24 fun t26 w_26 => w_26 = w_24 ∧
        vfaddr P T_impl_Vec t3 1 w_24 fun t27 w_27 => w_27 = w_24 ∧
        vload P T_int t27 w_24 fun t28 w_28 => w_28 = w_24 ∧
        vun P .neg t28 w_24 fun t29 w_29 => w_29 = w_24 ∧
        vfaddr P T_impl_Vec t3 0 w_24 fun t30 w_30 => w_30 = w_24 ∧
        vload P T_int t30 w_24 fun t31 w_31 => w_31 = w_24 ∧
        vcall P n_spec_l1Mod #[t29, t31] w_24 fun t32 w_32 => (vload P T_int t25 w_32 fun v x => v = t26 ∧ x = w_32) ∧ (vfaddr P T_impl_Vec t3 0 w_32 fun v x => v = t25 ∧ x = w_32) ∧
        vbuild P T_impl_Vec [(0, t26), (1, t32)] w_32 fun t33 w_33 => w_33 = w_32 ∧
        vstore P T_impl_Vec t4 t33 w_32 fun _ w_34 =>
        vlv P T_impl_Vec t4 w_34 fun r4_2 w_35 =>
        R (.tuple #[r4_2, (.bool true)]) w_35) (
        vbuild P T_impl_Vec [] w_23 fun t34 w_36 =>
        vstore P T_impl_Vec t4 t34 w_36 fun _ w_37 =>
        vlv P T_impl_Vec t4 w_37 fun r4_3 w_38 =>
        R (.tuple #[r4_3, (.bool false)]) w_38)))
def A_spec_VecUn : Ann := { ord := [(5, [0, 1, 2, 3, 6, 7, 4, 5, 8, 9, 10, 11], [(0, [1, 9, 10, 11]), (1, [9, 10, 11]), (2, [3, 4, 5, 8, 9, 10, 11]), (3, [4, 5, 8, 9, 10, 11]), (6, [7, 8, 9, 10, 11]), (7, [8, 9, 10, 11]), (4, [5, 8, 9, 10, 11]), (5, [8, 9, 10, 11]), (8, [9, 10, 11]), (9, [10, 11]), (10, [11])]), (7, [0, 1, 2, 3, 4, 5, 6, 7, 8, 9, 10], [(0, [1, 8, 9, 10]), (1, [8, 9, 10]), (2, [3, 4, 7, 8, 9, 10]), (3, [4, 7, 8, 9, 10]), (4, [7, 8, 9, 10]), (5, [6, 7, 8, 9, 10]), (6, [7, 8, 9, 10]), (7, [8, 9, 10]), (8, [9, 10]), (9, [10])])], loops := [], cuts := [] }
theorem k_spec_VecUn (v0 v1 : Value) (w : World) (R : Value → World → Prop) : vc PP A_spec_VecUn ((Tryz.f119.body).getD .skip) (retF PP Tryz.f119.results.toList R) (nthV [v0, v1]) w = F_spec_VecUn PP v0 v1 w R := by kernel_rfl
theorem c_spec_VecUn {v0 v1 : Value} {w : World} {R : Value → World → Prop} (h : F_spec_VecUn PP v0 v1 w R) : vcall PP n_spec_VecUn #[v0, v1] w R :=
  call_of_vc (T := A_spec_VecUn) (c := (Tryz.f119.body).getD .skip) (n := 35) mixed Tryz.func119 rfl rfl (by kernel_rfl) (by kernel_rfl) rfl (by rw [k_spec_VecUn]; exact h)

/-- spec.VecCmp -/
def F_spec_VecCmp (P : Program) (v0 v1 v2 : Value) (w : World) (R : Value → World → Prop) : Prop :=
  vbox P T_impl_Vec v1 w fun t4 w_1 =>
  vbox P T_impl_Vec v2 w_1 fun t5 w_2 =>
  vjoin (fun J =>
    vload P T_impl_Vec t4 w_2 fun t8 w_4 =>
    vcall P n_spec_VecOk #[t8] w_4 fun t9 w_5 =>
    vun P .not t9 w_5 fun t10 w_6 =>
    vif t10 (
      R (.tuple #[(.bool false), (.bool false)]) w_6) (
      vload P T_impl_Vec t5 w_6 fun t12 w_7 =>
      vcall P n_spec_VecOk #[t12] w_7 fun t13 w_8 =>
      vun P .not t13 w_8 fun t14 w_9 =>
      vif t14 (
        R (.tuple #[(.bool false), (.bool false)]) w_9) (
        vfaddr P T_impl_Vec t4 0 w_9 fun t17 w_10 =>
        vload P T_int t17 w_10 fun t18 w_11 =>
        vfaddr P T_impl_Vec t5 0 w_11 fun t19 w_12 =>
        vload P T_int t19 w_12 fun t20 w_13 =>
        vbin P .neq T_int false t18 t20 w_13 fun t21 w_14 =>
        vif t21 (
          R (.tuple #[(.bool false), (.bool false)]) w_14) (
          J [] w_14)))) (fun _ _ w_3 =>
    vbin P .eql T_int true v0 (.int .i64 15) w_3 fun t25 w_15 =>
    vif t25 (
      vfaddr P T_impl_Vec t4 1 w_15 fun t26 w_16 =>
      vload P T_int t26 w_16 fun t27 w_17 =>
      vfaddr P T_impl_Vec t5 1 w_17 fun t28 w_18 =>
      vload P T_int t28 w_18 fun t29 w_19 =>
      vbin P .eql T_int false t27 t29 w_19 fun t30 w_20 =>
      R (.tuple #[t30, (.bool true)]) w_20) (
      vbin P .eql T_int true v0 (.int .i64 16) w_15 fun t32 w_21 =>
      vif t32 (
        vfaddr P T_impl_Vec t4 1 w_21 fun t33 w_22 =>
        vload P T_int t33 w_22 fun t34 w_23 =>
        vfaddr P T_impl_Vec t5 1 w_23 fun t35 w_24 =>
        vload P T_int t35 w_24 fun t36 w_25 =>
        vbin P .lss T_int false t34 t36 w_25 fun t37 w_26 =>
        R (.tuple #[t37, (.bool true)]) w_26) (
        vbin P .eql T_int true v0 (.int .i64 17) w_21 fun t39 w_27 =>
        vif t39 (
          vdraw w_27 fun w_28 =>
          vload P T_impl_Vec t4 w_28 fun t40 w_29 => w_29 = w_28 ∧
          vload P T_impl_Vec t5 w_28 fun t42 w_30 => w_30 = w_28 ∧
          vcall P n_spec_l1Signed #[t40] w_28 fun t41 w_31 => (vload P T_impl_Vec t5 w_31 fun v x => v = t42 ∧ x = w_31) ∧
          vcall P n_spec_l1Signed #[t42] w_31 fun t43 w_32 =>
          vbin P .lss T_int false t41 t43 w_32 fun t44 w_33 => w_33 = w_32 ∧
          R (.tuple #[t44, (.bool true)]) w_32) (
          R (.tuple #[(.bool false), (.bool false)]) w_27))))
def A_spec_VecCmp : Ann := { ord := [(9, [0, 2, 1, 3, 4, 5, 6], [(0, [1, 3, 4, 5, 6]), (2, [3, 4, 5, 6]), (1, [3, 4, 5, 6]), (3, [4, 5, 6]), (4, [5, 6]), (5, [6])])], loops := [], cuts := [(8195, [])] }
theorem k_spec_VecCmp (v0 v1 v2 : Value) (w : World) (R : Value → World → Prop) : vc PP A_spec_VecCmp ((Tryz.f120.body).getD .skip) (retF PP Tryz.f120.results.toList R) (nthV [v0, v1, v2]) w = F_spec_VecCmp PP v0 v1 v2 w R := by kernel_rfl
theorem c_spec_VecCmp {v0 v1 v2 : Value} {w : World} {R : Value → World → Prop} (h : F_spec_VecCmp PP v0 v1 v2 w R) : vcall PP n_spec_VecCmp #[v0, v1, v2] w R :=
  call_of_vc (T := A_spec_VecCmp) (c := (Tryz.f120.body).getD .skip) (n := 45) mixed Tryz.func120 rfl rfl (by kernel_rfl) (by kernel_rfl) rfl (by rw [k_spec_VecCmp]; exact h)

/-- spec.l2Bool -/
def F_spec_l2Bool (P : Program) (v0 : Value) (w : World) (R : Value → World → Prop) : Prop :=
  vif v0 (
    R (.int .i64 1) w) (
    R (.int .i64 0) w)
def A_spec_l2Bool : Ann := { ord := [], loops := [], cuts := [] }
theorem k_spec_l2Bool (v0 : Value) (w : World) (R : Value → World → Prop) : vc PP A_spec_l2Bool ((Tryz.f121.body).getD .skip) (retF PP Tryz.f121.results.toList R) (nthV [v0]) w = F_spec_l2Bool PP v0 w R := by kernel_rfl
theorem c_spec_l2Bool {v0 : Value} {w : World} {R : Value → World → Prop} (h : F_spec_l2Bool PP v0 w R) : vcall PP n_spec_l2Bool #[v0] w R :=
  call_of_vc (T := A_spec_l2Bool) (c := (Tryz.f121.body).getD .skip) (n := 4) mixed Tryz.func121 rfl rfl (by kernel_rfl) (by kernel_rfl) rfl (by rw [k_spec_l2Bool]; exact h)

/-- spec.VecBin -/
def F_spec_VecBin (P : Program) (v0 v1 v2 : Value) (w : World) (R : Value → World → Prop) : Prop :=
  vbox P T_impl_Vec v1 w fun t4 w_1 =>
  vbox P T_impl_Vec v2 w_1 fun t5 w_2 =>
  valloc P T_impl_Vec w_2 fun t6 w_3 =>
  vjoin (fun J =>
    vload P T_impl_Vec t4 w_3 fun t10 w_5 =>
    vcall P n_spec_VecOk #[t10] w_5 fun t11 w_6 =>
    vun P .not t11 w_6 fun t12 w_7 =>
    vif t12 (
      vbuild P T_impl_Vec [] w_7 fun t18 w_8 =>
      vstore P T_impl_Vec t6 t18 w_8 fun _ w_9 =>
      vlv P T_impl_Vec t6 w_9 fun r6 w_10 =>
      R (.tuple #[r6, (.bool false)]) w_10) (
      vload P T_impl_Vec t5 w_7 fun t14 w_11 =>
      vcall P n_spec_VecOk #[t14] w_11 fun t15 w_12 =>
      vun P .not t15 w_12 fun t16 w_13 =>
      vif t16 (
        vbuild P T_impl_Vec [] w_13 fun t18_1 w_14 =>
        vstore P T_impl_Vec t6 t18_1 w_14 fun _ w_15 =>
        vlv P T_impl_Vec t6 w_15 fun r6_1 w_16 =>
        R (.tuple #[r6_1, (.bool false)]) w_16) (
        J [] w_13))) (fun _ _ w_4 =>
    vbin P .eql T_int true v0 (.int .i64 14) w_4 fun t20 w_17 =>
    vif t20 (
      vfaddr P T_impl_Vec t4 0 w_17 fun t21 w_18 =>
      vload P T_int t21 w_18 fun t22 w_19 =>
      vfaddr P T_impl_Vec t5 0 w_19 fun t23 w_20 =>
      vload P T_int t23 w_20 fun t24 w_21 =>
      vbin P .add T_int false t22 t24 w_21 fun t25 w_22 =>
      vbin P .gtr T_int true t25 (.int .i64 4) w_22 fun t26 w_23 =>
      vif t26 (
        vbuild P T_impl_Vec [] w_23 fun t27 w_24 =>
        vstore P T_impl_Vec t6 t27 w_24 fun _ w_25 =>
        vlv P T_impl_Vec t6 w_25 fun r6_2 w_26 =>
        R (.tuple #[r6_2, (.bool false)]) w_26) (
        vdraw w_23 fun w_27 =>
        vfaddr P T_impl_Vec t4 0 w_27 fun t28 w_28 => w_28 = w_27 ∧
        vload P T_int t28 w_27 fun t29 w_29 => w_29 = w_27 ∧
        vfaddr P T_impl_Vec t5 0 w_27 fun t30 w_30 => w_30 = w_27 ∧
        vload P T_int t30 w_27 fun t31 w_31 => w_31 = w_27 ∧
        vbin P .add T_int false t29 t31 w_27 fun t32 w_32 => w_32 = w_27 ∧
        vfaddr P T_impl_Vec t4 1 w_27 fun t33 w_33 => w_33 = w_27 ∧
        vload P T_int t33 w_27 fun t34 w_34 => w_34 = w_27 ∧
        vfaddr P T_impl_Vec t5 0 w_27 fun t35 w_35 => w_35 = w_27 ∧
        vload P T_int t35 w_27 fun t36 w_36 => w_36 = w_27 ∧
        vfaddr P T_impl_Vec t5 1 w_27 fun t39 w_37 => w_37 = w_27 ∧
        vload P T_int t39 w_27 fun t40 w_38 => w_38 = w_27 ∧
        vcall P n_spec_l1Two #[t36] w_27 fun t37 w_39 => (vload P T_int t39 w_39 fun v x => v = t40 ∧ x = w_39) ∧ (vfaddr P T_impl_Vec t5 1 w_39 fun v x => v = t39 ∧ x = w_39) ∧ (vload P T_int t33 w_39 fun v x => v = t34 ∧ x = w_39) ∧ (vfaddr P T_impl_Vec t4 1 w_39 fun v x => v = t33 ∧ x = w_39) ∧ (vbin P .add T_int false t29 t31 w_39 fun v x => v = t32 ∧ x = w_39) ∧ (vload P T_int t30 w_39 fun v x => v = t31 ∧ x = w_39) ∧ (vfaddr P T_impl_Vec t5 0 w_39 fun v x => v = t30 ∧ x = w_39) ∧ (vload P T_int t28 w_39 fun v x => v = t29 ∧ x = w_39) ∧ (vfaddr P T_impl_Vec t4 0 w_39 fun v x => v = t28 ∧ x = w_39) ∧
        vbin P .mul T_int false t34 t37 w_39 fun t38 w_40 => w_40 = w_39 ∧
        vbin P .add T_int false t38 t40 w_39 fun t41 w_41 => w_41 = w_39 ∧
        vbuild P T_impl_Vec [(0, t32), (1, t41)] w_39 fun t42 w_42 => w_42 = w_39 ∧
        vstore P T_impl_Vec t6 t42 w_39 fun _ w_43 =>
        vlv P T_impl_Vec t6 w_43 fun r6_3 w_44 =>
        R (.tuple #[r6_3, (.bool true)]) w_44)) (
      vload P T_impl_Vec t4 w_17 fun t45 w_45 =>
      vload P T_impl_Vec t5 w_45 fun t46 w_46 =>
      vcall P n_spec_l1Bin #[v0, t45, t46] w_46 fun t47 w_47 =>
      vextract P t47 0 w_47 fun t48 w_48 =>
      vextract P t47 1 w_48 fun t49 w_49 =>
      vun P .not t49 w_49 fun t51 w_50 =>
      vif t51 (
        vbuild P T_impl_Vec [] w_50 fun t59 w_51 =>
        vstore P T_impl_Vec t6 t59 w_51 fun _ w_52 =>
        vlv P T_impl_Vec t6 w_52 fun r6_4 w_53 =>
        R (.tuple #[r6_4, (.bool false)]) w_53) (
        vfaddr P T_impl_Vec t4 0 w_50 fun t53 w_54 =>
        vload P T_int t53 w_54 fun t54 w_55 =>
        vfaddr P T_impl_Vec t5 0 w_55 fun t55 w_56 =>
        vload P T_int t55 w_56 fun t56 w_57 =>
        vbin P .neq T_int false t54 t56 w_57 fun t57 w_58 =>
        vif t57 (
          vbuild P T_impl_Vec [] w_58 fun t59_1 w_59 =>
          vstore P T_impl_Vec t6 t59_1 w_59 fun _ w_60 =>
          vlv P T_impl_Vec t6 w_60 fun r6_5 w_61 =>
          R (.tuple #[r6_5, (.bool false)]) w_61) (
          vfaddr P T_impl_Vec t4 0 w_58 fun t60 w_62 =>
          vload P T_int t60 w_62 fun t61 w_63 =>
          vbuild P T_impl_Vec [(0, t61), (1, t48)] w_63 fun t63 w_64 =>
          vstore P T_impl_Vec t6 t63 w_64 fun _ w_65 =>
          vlv P T_impl_Vec t6 w_65 fun r6_6 w_66 =>
          R (.tuple #[r6_6, (.bool true)]) w_66))))
def A_spec_VecBin : Ann := { ord := [(6, [0, 1, 2, 3, 4, 5, 6, 7, 8, 11, 12, 9, 10, 13, 14, 15, 16], [(0, [1, 4, 14, 15, 16]), (1, [4, 14, 15, 16]), (2, [3, 4, 14, 15, 16]), (3, [4, 14, 15, 16]), (4, [14, 15, 16]), (5, [6, 10, 13, 14, 15, 16]), (6, [10, 13, 14, 15, 16]), (7, [8, 9, 10, 13, 14, 15, 16]), (8, [9, 10, 13, 14, 15, 16]), (11, [12, 13, 14, 15, 16]), (12, [13, 14, 15, 16]), (9, [10, 13, 14, 15, 16]), (10, [13, 14, 15, 16]), (13, [14, 15, 16]), (14, [15, 16]), (15, [16])])], loops := [], cuts := [(8195, [])] }
theorem k_spec_VecBin (v0 v1 v2 : Value) (w : World) (R : Value → World → Prop) : vc PP A_spec_VecBin ((Tryz.f122.body).getD .skip) (retF PP Tryz.f122.results.toList R) (nthV [v0, v1, v2]) w = F_spec_VecBin PP v0 v1 v2 w R := by kernel_rfl
theorem c_spec_VecBin {v0 v1 v2 : Value} {w : World} {R : Value → World → Prop} (h : F_spec_VecBin PP v0 v1 v2 w R) : vcall PP n_spec_VecBin #[v0, v1, v2] w R :=
  call_of_vc (T := A_spec_VecBin) (c := (Tryz.f122.body).getD .skip) (n := 64) mixed Tryz.func122 rfl rfl (by kernel_rfl) (by kernel_rfl) rfl (by rw [k_spec_VecBin]; exact h)

/-- spec.l2Term -/
def F_spec_l2Term (P : Program) (v0 v1 v2 v3 : Value) (w : World) (R : Value → World → Prop) : Prop :=
  valloc P T_impl_Term w fun t8 w_1 =>
  vjoin (fun J =>
    vbin P .lss T_int true v3 (.int .i64 1) w_1 fun t14 w_3 =>
    vif t14 (
      vcall P n_spec_l2Leafy #[v0, v1, v2] w_3 fun t27 w_4 =>
      vstore P T_impl_Term t8 t27 w_4 fun _ w_5 =>
      vlv P T_impl_Term t8 w_5 fun r8 w_6 =>
      R r8 w_6) (
      vbin P .gtr T_int true v2 (.int .i64 0) w_3 fun t17 w_7 =>
      vif t17 (
        vcall P n_spec_l12Rd_pick #[v0, (.int .i64 3)] w_7 fun t20 w_8 =>
        vbin P .eql T_int true t20 (.int .i64 0) w_8 fun t21 w_9 =>
        vif t21 (
          vcall P n_spec_l2Leafy #[v0, v1, v2] w_9 fun t27_1 w_10 =>
          vstore P T_impl_Term t8 t27_1 w_10 fun _ w_11 =>
          vlv P T_impl_Term t8 w_11 fun r8_1 w_12 =>
          R r8_1 w_12) (
          J [] w_9)) (
        J [] w_7))) (fun _ _ w_2 =>
    vcall P n_spec_l12Rd_pick #[v0, (.int .i64 12)] w_2 fun t29 w_13 =>
    vbin P .eql T_int true t29 (.int .i64 0) w_13 fun t31 w_14 =>
    vif t31 (
      vbin P .sub T_int true v3 (.int .i64 1) w_14 fun t35 w_15 =>
      vcall P n_spec_l2Term #[v0, v1, (.int .i64 0), t35] w_15 fun t36 w_16 =>
      vbin P .sub T_int true v3 (.int .i64 1) w_16 fun t41 w_17 =>
      vcall P n_spec_l2Term #[v0, v1, v2, t41] w_17 fun t42 w_18 =>
      vbin P .sub T_int true v3 (.int .i64 1) w_18 fun t47 w_19 =>
      vcall P n_spec_l2Term #[v0, v1, v2, t47] w_19 fun t48 w_20 =>
      vbuildS P T_Limpl_Term 3 [(0, t36), (1, t42), (2, t48)] w_20 fun t49 w_21 =>
      vbuild P T_impl_Term [(0, (.int .i64 23)), (4, t49)] w_21 fun t50 w_22 =>
      vstore P T_impl_Term t8 t50 w_22 fun _ w_23 =>
      vlv P T_impl_Term t8 w_23 fun r8_2 w_24 =>
      R r8_2 w_24) (
      vbin P .eql T_int true v2 (.int .i64 0) w_14 fun t52 w_25 =>
      vif t52 (
        vcall P n_spec_l2Asks #[v0, v1, v3] w_25 fun t56 w_26 =>
        vstore P T_impl_Term t8 t56 w_26 fun _ w_27 =>
        vlv P T_impl_Term t8 w_27 fun r8_3 w_28 =>
        R r8_3 w_28) (
        vbin P .eql T_int true t29 (.int .i64 1) w_25 fun t58 w_29 =>
        vif t58 (
          vbin P .sub T_int true (.int .i64 5) v2 w_29 fun t62 w_30 =>
          vcall P n_spec_l12Rd_pick #[v0, t62] w_30 fun t63 w_31 =>
          vbin P .add T_int false v2 t63 w_31 fun t64 w_32 =>
          vbin P .sub T_int false t64 v2 w_32 fun t68 w_33 =>
          vbin P .add T_int true t68 (.int .i64 1) w_33 fun t69 w_34 =>
          vcall P n_spec_l12Rd_pick #[v0, t69] w_34 fun t70 w_35 =>
          vbin P .add T_int false t70 v2 w_35 fun t73 w_36 =>
          vbin P .sub T_int true t73 (.int .i64 1) w_36 fun t74 w_37 =>
          vbin P .sub T_int true v3 (.int .i64 1) w_37 fun t80 w_38 =>
          vcall P n_spec_l2Term #[v0, v1, t64, t80] w_38 fun t81 w_39 =>
          vbuildS P T_Limpl_Term 1 [(0, t81)] w_39 fun t82 w_40 =>
          vbuild P T_impl_Term [(0, (.int .i64 22)), (1, t74), (2, t70), (4, t82)] w_40 fun t83 w_41 =>
          vstore P T_impl_Term t8 t83 w_41 fun _ w_42 =>
          vlv P T_impl_Term t8 w_42 fun r8_4 w_43 =>
          R r8_4 w_43) (
          vjoin (fun J_1 =>
            vjoin (fun J_2 =>
              vbin P .eql T_int true t29 (.int .i64 2) w_29 fun t85 w_46 =>
              vif t85 (
                vbin P .gtr T_int true v2 (.int .i64 1) w_46 fun t88 w_47 =>
                J_2 [t88] w_47) (
                J_2 [(.bool false)] w_46)) (fun u_2 _ w_45 =>
              vif (sl 0 u_2) (
                vbin P .sub T_int true v2 (.int .i64 1) w_45 fun t92 w_48 =>
                vcall P n_spec_l12Rd_pick #[v0, t92] w_48 fun t93 w_49 =>
                vbin P .add T_int true (.int .i64 1) t93 w_49 fun t94 w_50 =>
                vbin P .sub T_int true v3 (.int .i64 1) w_50 fun t99 w_51 =>
                vcall P n_spec_l2Term #[v0, v1, t94, t99] w_51 fun t100 w_52 =>
                vbin P .sub T_int false v2 t94 w_52 fun t105 w_53 =>
                vbin P .sub T_int true v3 (.int .i64 1) w_53 fun t107 w_54 =>
                vcall P n_spec_l2Term #[v0, v1, t105, t107] w_54 fun t108 w_55 =>
                vbuildS P T_Limpl_Term 2 [(0, t100), (1, t108)] w_55 fun t109 w_56 =>
                vbuild P T_impl_Term [(0, (.int .i64 14)), (4, t109)] w_56 fun t110 w_57 =>
                vstore P T_impl_Term t8 t110 w_57 fun _ w_58 =>
                vlv P T_impl_Term t8 w_58 fun r8_5 w_59 =>
                R r8_5 w_59) (
                J_1 [] w_45))) (fun _ _ w_44 =>
            vbin P .lss T_int true t29 (.int .i64 5) w_44 fun t112 w_60 =>
            vif t112 (
              vcall P n_spec_l12Rd_pick #[v0, (.int .i64 2)] w_60 fun t114 w_61 =>
              vbin P .add T_int true (.int .i64 1) t114 w_61 fun t115 w_62 =>
              vbin P .sub T_int true v3 (.int .i64 1) w_62 fun t120 w_63 =>
              vcall P n_spec_l2Term #[v0, v1, v2, t120] w_63 fun t121 w_64 =>
              vbuildS P T_Limpl_Term 1 [(0, t121)] w_64 fun t122 w_65 =>
              vbuild P T_impl_Term [(0, t115), (4, t122)] w_65 fun t123 w_66 =>
              vstore P T_impl_Term t8 t123 w_66 fun _ w_67 =>
              vlv P T_impl_Term t8 w_67 fun r8_6 w_68 =>
              R r8_6 w_68) (
              vcall P n_spec_l12Rd_pick #[v0, (.int .i64 11)] w_60 fun t125 w_69 =>
              vbin P .add T_int true (.int .i64 3) t125 w_69 fun t126 w_70 =>
              vbin P .sub T_int true v3 (.int .i64 1) w_70 fun t131 w_71 =>
              vcall P n_spec_l2Term #[v0, v1, v2, t131] w_71 fun t132 w_72 =>
              vbin P .sub T_int true v3 (.int .i64 1) w_72 fun t137 w_73 =>
              vcall P n_spec_l2Term #[v0, v1, v2, t137] w_73 fun t138 w_74 =>
              vbuildS P T_Limpl_Term 2 [(0, t132), (1, t138)] w_74 fun t139 w_75 =>
              vbuild P T_impl_Term [(0, t126), (4, t139)] w_75 fun t140 w_76 =>
              vstore P T_impl_Term t8 t140 w_76 fun _ w_77 =>
              vlv P T_impl_Term t8 w_77 fun r8_7 w_78 =>
              R r8_7 w_78))))))
def A_spec_l2Term : Ann := { ord := [], loops := [], cuts := [(8195, []), (53263, []), (53261, [89])] }
theorem k_spec_l2Term (v0 v1 v2 v3 : Value) (w : World) (R : Value → World → Prop) : vc PP A_spec_l2Term ((Tryz.f123.body).getD .skip) (retF PP Tryz.f123.results.toList R) (nthV [v0, v1, v2, v3]) w = F_spec_l2Term PP v0 v1 v2 v3 w R := by kernel_rfl
theorem c_spec_l2Term {v0 v1 v2 v3 : Value} {w : World} {R : Value → World → Prop} (h : F_spec_l2Term PP v0 v1 v2 v3 w R) : vcall PP n_spec_l2Term #[v0, v1, v2, v3] w R :=
  call_of_vc (T := A_spec_l2Term) (c := (Tryz.f123.body).getD .skip) (n := 141) mixed Tryz.func123 rfl rfl (by kernel_rfl) (by kernel_rfl) rfl (by rw [k_spec_l2Term]; exact h)

/-- spec.l2Leafy -/
def F_spec_l2Leafy (P : Program) (v0 v1 v2 : Value) (w : World) (R : Value → World → Prop) : Prop :=
  valloc P T_impl_Term w fun t6 w_1 =>
  vbin P .eql T_int true v2 (.int .i64 0) w_1 fun t11 w_2 =>
  vif t11 (
    vbuild P T_impl_Term [(0, (.int .i64 24))] w_2 fun t12 w_3 =>
    vstore P T_impl_Term t6 t12 w_3 fun _ w_4 =>
    vlv P T_impl_Term t6 w_4 fun r6 w_5 =>
    R r6 w_5) (
    vbi P .len [T_Limpl_Decl] T_int [v1] w_2 fun t14 w_6 =>
    vcall P n_spec_l12Rd_pick #[v0, t14] w_6 fun t17 w_7 =>
    vloop [(.int .i64 0)] w_7 fun C u _ w_8 =>
      vjoin (fun J =>
        vbin P .lss T_int false (sl 0 u) t14 w_8 fun t20 w_10 =>
        vif t20 (
          vcall P n_spec_l12Rd_pick #[v0, (.int .i64 4)] w_10 fun t23 w_11 =>
          vbin P .gtr T_int true t23 (.int .i64 0) w_11 fun t24 w_12 =>
          vif t24 (
            J [] w_12) (
            vcall P n_spec_l1Two #[v2] w_12 fun t52 w_13 =>
            vcall P n_spec_l12Rd_pick #[v0, t52] w_13 fun t53 w_14 =>
            vbuild P T_impl_Term [(0, (.int .i64 20)), (1, v2), (2, t53)] w_14 fun t54 w_15 =>
            vstore P T_impl_Term t6 t54 w_15 fun _ w_16 =>
            vlv P T_impl_Term t6 w_16 fun r6_1 w_17 =>
            R r6_1 w_17)) (
          vcall P n_spec_l1Two #[v2] w_10 fun t52_1 w_18 =>
          vcall P n_spec_l12Rd_pick #[v0, t52_1] w_18 fun t53_1 w_19 =>
          vbuild P T_impl_Term [(0, (.int .i64 20)), (1, v2), (2, t53_1)] w_19 fun t54_1 w_20 =>
          vstore P T_impl_Term t6 t54_1 w_20 fun _ w_21 =>
          vlv P T_impl_Term t6 w_21 fun r6_2 w_22 =>
          R r6_2 w_22)) (fun _ _ w_9 =>
        vbin P .add T_int false t17 (sl 0 u) w_9 fun t31 w_23 =>
        vbin P .rem T_int false t31 t14 w_23 fun t33 w_24 =>
        viaddr P T_Limpl_Decl v1 t33 w_24 fun t34 w_25 =>
        vfaddr P T_impl_Decl t34 1 w_25 fun t35 w_26 =>
        vload P T_int t35 w_26 fun t36 w_27 =>
        vbin P .eql T_int false t36 v2 w_27 fun t38 w_28 =>
        vif t38 (
          vbin P .add T_int false t17 (sl 0 u) w_28 fun t42 w_29 =>
          vbin P .rem T_int false t42 t14 w_29 fun t44 w_30 =>
          viaddr P T_Limpl_Decl v1 t44 w_30 fun t45 w_31 =>
          vfaddr P T_impl_Decl t45 0 w_31 fun t46 w_32 =>
          vload P T_string t46 w_32 fun t47 w_33 =>
          vbuild P T_impl_Term [(0, (.int .i64 21)), (3, t47)] w_33 fun t48 w_34 =>
          vstore P T_impl_Term t6 t48 w_34 fun _ w_35 =>
          vlv P T_impl_Term t6 w_35 fun r6_3 w_36 =>
          R r6_3 w_36) (
          vbin P .add T_int true (sl 0 u) (.int .i64 1) w_28 fun t27 w_37 =>
          C [t27] w_37)))
def A_spec_l2Leafy : Ann := { ord := [], loops := [(6, [9])], cuts := [(28680, [])] }
theorem k_spec_l2Leafy (v0 v1 v2 : Value) (w : World) (R : Value → World → Prop) : vc PP A_spec_l2Leafy ((Tryz.f124.body).getD .skip) (retF PP Tryz.f124.results.toList R) (nthV [v0, v1, v2]) w = F_spec_l2Leafy PP v0 v1 v2 w R := by kernel_rfl
theorem c_spec_l2Leafy {v0 v1 v2 : Value} {w : World} {R : Value → World → Prop} (h : F_spec_l2Leafy PP v0 v1 v2 w R) : vcall PP n_spec_l2Leafy #[v0, v1, v2] w R :=
  call_of_vc (T := A_spec_l2Leafy) (c := (Tryz.f124.body).getD .skip) (n := 55) mixed Tryz.func124 rfl rfl (by kernel_rfl) (by kernel_rfl) rfl (by rw [k_spec_l2Leafy]; exact h)

/-- slices.IndexFunc[[]impl.Decl,impl.Decl] -/
def F_slices_IndexFunc_Limpl_Decl_impl_Decl (P : Program) (v0 v1 : Value) (w : World) (R : Value → World → Prop) : Prop :=
  vbi P .len [T_Limpl_Decl] T_int [v0] w fun t7 w_1 =>
  vloop [(.int .i64 0)] w_1 fun C u _ w_2 =>
    vbin P .lss T_int false (sl 0 u) t7 w_2 fun t9 w_3 =>
    vif t9 (
      viaddr P T_Limpl_Decl v0 (sl 0 u) w_3 fun t14 w_4 =>
      vload P T_impl_Decl t14 w_4 fun t15 w_5 =>
      vcallv P v1 #[t15] w_5 fun t16 w_6 =>
      vif t16 (
        R (sl 0 u) w_6) (
        vbin P .add T_int true (sl 0 u) (.int .i64 1) w_6 fun t18 w_7 =>
        C [t18] w_7)) (
      R (.int .i64 (-1)) w_3)
def A_slices_IndexFunc_Limpl_Decl_impl_Decl : Ann := { ord := [], loops := [(2, [8])], cuts := [] }
theorem k_slices_IndexFunc_Limpl_Decl_impl_Decl (v0 v1 : Value) (w : World) (R : Value → World → Prop) : vc PP A_slices_IndexFunc_Limpl_Decl_impl_Decl ((Tryz.f132.body).getD .skip) (retF PP Tryz.f132.results.toList R) (nthV [v0, v1]) w = F_slices_IndexFunc_Limpl_Decl_impl_Decl PP v0 v1 w R := by kernel_rfl
theorem c_slices_IndexFunc_Limpl_Decl_impl_Decl {v0 v1 : Value} {w : World} {R : Value → World → Prop} (h : F_slices_IndexFunc_Limpl_Decl_impl_Decl PP v0 v1 w R) : vcall PP n_slices_IndexFunc_Limpl_Decl_impl_Decl #[v0, v1] w R :=
  call_of_vc (T := A_slices_IndexFunc_Limpl_Decl_impl_Decl) (c := (Tryz.f132.body).getD .skip) (n := 19) mixed Tryz.func132 rfl rfl (by kernel_rfl) (by kernel_rfl) rfl (by rw [k_slices_IndexFunc_Limpl_Decl_impl_Decl]; exact h)

/-- spec.l2Arity -/
def F_spec_l2Arity (P : Program) (v0 : Value) (w : World) (R : Value → World → Prop) : Prop :=
  vjoin (fun J =>
    vbin P .eql T_int true v0 (.int .i64 20) w fun t5 w_2 =>
    vif t5 (
      J [t5] w_2) (
      vbin P .eql T_int true v0 (.int .i64 21) w_2 fun t6 w_3 =>
      vif t6 (
        J [t6] w_3) (
        vbin P .eql T_int true v0 (.int .i64 24) w_3 fun t7 w_4 =>
        J [t7] w_4))) (fun u _ w_1 =>
    vif (sl 0 u) (
      R (.int .i64 0) w_1) (
      vbin P .eql T_int true v0 (.int .i64 1) w_1 fun t9 w_5 =>
      vif t9 (
        vif t9 (
          R (.int .i64 1) w_5) (
          vbin P .eql T_int true v0 (.int .i64 23) w_5 fun t14 w_6 =>
          vif t14 (
            R (.int .i64 3) w_6) (
            vbin P .eql T_int true v0 (.int .i64 26) w_6 fun t16 w_7 =>
            vif t16 (
              vif t16 (
                R (.int .i64 2) w_7) (
                vbin P .geq T_int true v0 (.int .i64 3) w_7 fun t19 w_8 =>
                vif t19 (
                  vbin P .leq T_int true v0 (.int .i64 17) w_8 fun t22 w_9 =>
                  vif t22 (
                    R (.int .i64 2) w_9) (
                    R (.int .i64 (-1)) w_9)) (
                  R (.int .i64 (-1)) w_8))) (
              vbin P .eql T_int true v0 (.int .i64 27) w_7 fun t17 w_10 =>
              vif t17 (
                R (.int .i64 2) w_10) (
                vbin P .geq T_int true v0 (.int .i64 3) w_10 fun t19_1 w_11 =>
                vif t19_1 (
                  vbin P .leq T_int true v0 (.int .i64 17) w_11 fun t22_1 w_12 =>
                  vif t22_1 (
                    R (.int .i64 2) w_12) (
                    R (.int .i64 (-1)) w_12)) (
                  R (.int .i64 (-1)) w_11)))))) (
        vbin P .eql T_int true v0 (.int .i64 2) w_5 fun t10 w_13 =>
        vif t10 (
          vif t10 (
            R (.int .i64 1) w_13) (
            vbin P .eql T_int true v0 (.int .i64 23) w_13 fun t14_1 w_14 =>
            vif t14_1 (
              R (.int .i64 3) w_14) (
              vbin P .eql T_int true v0 (.int .i64 26) w_14 fun t16_1 w_15 =>
              vif t16_1 (
                vif t16_1 (
                  R (.int .i64 2) w_15) (
                  vbin P .geq T_int true v0 (.int .i64 3) w_15 fun t19_2 w_16 =>
                  vif t19_2 (
                    vbin P .leq T_int true v0 (.int .i64 17) w_16 fun t22_2 w_17 =>
                    vif t22_2 (
                      R (.int .i64 2) w_17) (
                      R (.int .i64 (-1)) w_17)) (
                    R (.int .i64 (-1)) w_16))) (
                vbin P .eql T_int true v0 (.int .i64 27) w_15 fun t17_1 w_18 =>
                vif t17_1 (
                  R (.int .i64 2) w_18) (
                  vbin P .geq T_int true v0 (.int .i64 3) w_18 fun t19_3 w_19 =>
                  vif t19_3 (
                    vbin P .leq T_int true v0 (.int .i64 17) w_19 fun t22_3 w_20 =>
                    vif t22_3 (
                      R (.int .i64 2) w_20) (
                      R (.int .i64 (-1)) w_20)) (
                    R (.int .i64 (-1)) w_19)))))) (
          vbin P .eql T_int true v0 (.int .i64 22) w_13 fun t11 w_21 =>
          vif t11 (
            vif t11 (
              R (.int .i64 1) w_21) (
              vbin P .eql T_int true v0 (.int .i64 23) w_21 fun t14_2 w_22 =>
              vif t14_2 (
                R (.int .i64 3) w_22) (
                vbin P .eql T_int true v0 (.int .i64 26) w_22 fun t16_2 w_23 =>
                vif t16_2 (
                  vif t16_2 (
                    R (.int .i64 2) w_23) (
                    vbin P .geq T_int true v0 (.int .i64 3) w_23 fun t19_4 w_24 =>
                    vif t19_4 (
                      vbin P .leq T_int true v0 (.int .i64 17) w_24 fun t22_4 w_25 =>
                      vif t22_4 (
                        R (.int .i64 2) w_25) (
                        R (.int .i64 (-1)) w_25)) (
                      R (.int .i64 (-1)) w_24))) (
                  vbin P .eql T_int true v0 (.int .i64 27) w_23 fun t17_2 w_26 =>
                  vif t17_2 (
                    R (.int .i64 2) w_26) (
                    vbin P .geq T_int true v0 (.int .i64 3) w_26 fun t19_5 w_27 =>
                    vif t19_5 (
                      vbin P .leq T_int true v0 (.int .i64 17) w_27 fun t22_5 w_28 =>
                      vif t22_5 (
                        R (.int .i64 2) w_28) (
                        R (.int .i64 (-1)) w_28)) (
                      R (.int .i64 (-1)) w_27)))))) (
            vbin P .eql T_int true v0 (.int .i64 25) w_21 fun t12 w_29 =>
            vif t12 (
              R (.int .i64 1) w_29) (
              vbin P .eql T_int true v0 (.int .i64 23) w_29 fun t14_3 w_30 =>
              vif t14_3 (
                R (.int .i64 3) w_30) (
                vbin P .eql T_int true v0 (.int .i64 26) w_30 fun t16_3 w_31 =>
                vif t16_3 (
                  vif t16_3 (
                    R (.int .i64 2) w_31) (
                    vbin P .geq T_int true v0 (.int .i64 3) w_31 fun t19_6 w_32 =>
                    vif t19_6 (
                      vbin P .leq T_int true v0 (.int .i64 17) w_32 fun t22_6 w_33 =>
                      vif t22_6 (
                        R (.int .i64 2) w_33) (
                        R (.int .i64 (-1)) w_33)) (
                      R (.int .i64 (-1)) w_32))) (
                  vbin P .eql T_int true v0 (.int .i64 27) w_31 fun t17_3 w_34 =>
                  vif t17_3 (
                    R (.int .i64 2) w_34) (
                    vbin P .geq T_int true v0 (.int .i64 3) w_34 fun t19_7 w_35 =>
                    vif t19_7 (
                      vbin P .leq T_int true v0 (.int .i64 17) w_35 fun t22_7 w_36 =>
                      vif t22_7 (
                        R (.int .i64 2) w_36) (
                        R (.int .i64 (-1)) w_36)) (
                      R (.int .i64 (-1)) w_35))))))))))
def A_spec_l2Arity : Ann := { ord := [], loops := [], cuts := [(12293, [4])] }
theorem k_spec_l2Arity (v0 : Value) (w : World) (R : Value → World → Prop) : vc PP A_spec_l2Arity ((Tryz.f133.body).getD .skip) (retF PP Tryz.f133.results.toList R) (nthV [v0]) w = F_spec_l2Arity PP v0 w R := by kernel_rfl
theorem c_spec_l2Arity {v0 : Value} {w : World} {R : Value → World → Prop} (h : F_spec_l2Arity PP v0 w R) : vcall PP n_spec_l2Arity #[v0] w R :=
  call_of_vc (T := A_spec_l2Arity) (c := (Tryz.f133.body).getD .skip) (n := 24) mixed Tryz.func133 rfl rfl (by kernel_rfl) (by kernel_rfl) rfl (by rw [k_spec_l2Arity]; exact h)

/-- impl.binaries$1 -/
def F_impl_binaries_1 (P : Program) (v0 v1 : Value) (w : World) (R : Value → World → Prop) : Prop :=
  vbox P T_impl_Vec v0 w fun t2 w_1 =>
  vbox P T_impl_Vec v1 w_1 fun t3 w_2 =>
  vdraw w_2 fun w_3 =>
  vload P T_impl_Vec t2 w_3 fun t5 w_4 => w_4 = w_3 ∧
  vload P T_impl_Vec t3 w_3 fun t7 w_5 => w_5 = w_3 ∧
  vcall P n_impl_Vec_raw #[t5] w_3 fun t6 w_6 => (vload P T_impl_Vec t3 w_6 fun v x => v = t7 ∧ x = w_6) ∧
  vcall P n_impl_Vec_raw #[t7] w_6 fun t8 w_7 =>
  vbin P .and T_impl_raw false t6 t8 w_7 fun t9 w_8 => w_8 = w_7 ∧
  R t9 w_7
def A_impl_binaries_1 : Ann := { ord := [(1, [0, 2, 1, 3, 4, 5], [(0, [1, 3, 4, 5]), (2, [3, 4, 5]), (1, [3, 4, 5]), (3, [4, 5]), (4, [5])])], loops := [], cuts := [] }
theorem k_impl_binaries_1 (v0 v1 : Value) (w : World) (R : Value → World → Prop) : vc PP A_impl_binaries_1 ((Tryz.f134.body).getD .skip) (retF PP Tryz.f134.results.toList R) (nthV [v0, v1]) w = F_impl_binaries_1 PP v0 v1 w R := by kernel_rfl
theorem c_impl_binaries_1 {v0 v1 : Value} {w : World} {R : Value → World → Prop} (h : F_impl_binaries_1 PP v0 v1 w R) : vcall PP n_impl_binaries_1 #[v0, v1] w R :=
  call_of_vc (T := A_impl_binaries_1) (c := (Tryz.f134.body).getD .skip) (n := 10) mixed Tryz.func134 rfl rfl (by kernel_rfl) (by kernel_rfl) rfl (by rw [k_impl_binaries_1]; exact h)

/-- impl.binaries$2 -/
def F_impl_binaries_2 (P : Program) (v0 v1 : Value) (w : World) (R : Value → World → Prop) : Prop :=
  vbox P T_impl_Vec v0 w fun t2 w_1 =>
  vbox P T_impl_Vec v1 w_1 fun t3 w_2 =>
  vdraw w_2 fun w_3 =>
  vload P T_impl_Vec t2 w_3 fun t5 w_4 => w_4 = w_3 ∧
  vload P T_impl_Vec t3 w_3 fun t7 w_5 => w_5 = w_3 ∧
  vcall P n_impl_Vec_raw #[t5] w_3 fun t6 w_6 => (vload P T_impl_Vec t3 w_6 fun v x => v = t7 ∧ x = w_6) ∧
  vcall P n_impl_Vec_raw #[t7] w_6 fun t8 w_7 =>
  vbin P .or T_impl_raw false t6 t8 w_7 fun t9 w_8 => w_8 = w_7 ∧
  R t9 w_7
def A_impl_binaries_2 : Ann := { ord := [(1, [0, 2, 1, 3, 4, 5], [(0, [1, 3, 4, 5]), (2, [3, 4, 5]), (1, [3, 4, 5]), (3, [4, 5]), (4, [5])])], loops := [], cuts := [] }
theorem k_impl_binaries_2 (v0 v1 : Value) (w : World) (R : Value → World → Prop) : vc PP A_impl_binaries_2 ((Tryz.f135.body).getD .skip) (retF PP Tryz.f135.results.toList R) (nthV [v0, v1]) w = F_impl_binaries_2 PP v0 v1 w R := by kernel_rfl
theorem c_impl_binaries_2 {v0 v1 : Value} {w : World} {R : Value → World → Prop} (h : F_impl_binaries_2 PP v0 v1 w R) : vcall PP n_impl_binaries_2 #[v0, v1] w R :=
  call_of_vc (T := A_impl_binaries_2) (c := (Tryz.f135.body).getD .skip) (n := 10) mixed Tryz.func135 rfl rfl (by kernel_rfl) (by kernel_rfl) rfl (by rw [k_impl_binaries_2]; exact h)

/-- impl.binaries$3 -/
def F_impl_binaries_3 (P : Program) (v0 v1 : Value) (w : World) (R : Value → World → Prop) : Prop :=
  vbox P T_impl_Vec v0 w fun t2 w_1 =>
  vbox P T_impl_Vec v1 w_1 fun t3 w_2 =>
  vdraw w_2 fun w_3 =>
  vload P T_impl_Vec t2 w_3 fun t5 w_4 => w_4 = w_3 ∧
  vload P T_impl_Vec t3 w_3 fun t7 w_5 => w_5 = w_3 ∧
  vcall P n_impl_Vec_raw #[t5] w_3 fun t6 w_6 => (vload P T_impl_Vec t3 w_6 fun v x => v = t7 ∧ x = w_6) ∧
  vcall P n_impl_Vec_raw #[t7] w_6 fun t8 w_7 =>
  vbin P .xor T_impl_raw false t6 t8 w_7 fun t9 w_8 => w_8 = w_7 ∧
  R t9 w_7
def A_impl_binaries_3 : Ann := { ord := [(1, [0, 2, 1, 3, 4, 5], [(0, [1, 3, 4, 5]), (2, [3, 4, 5]), (1, [3, 4, 5]), (3, [4, 5]), (4, [5])])], loops := [], cuts := [] }
theorem k_impl_binaries_3 (v0 v1 : Value) (w : World) (R : Value → World → Prop) : vc PP A_impl_binaries_3 ((Tryz.f136.body).getD .skip) (retF PP Tryz.f136.results.toList R) (nthV [v0, v1]) w = F_impl_binaries_3 PP v0 v1 w R := by kernel_rfl
theorem c_impl_binaries_3 {v0 v1 : Value} {w : World} {R : Value → World → Prop} (h : F_impl_binaries_3 PP v0 v1 w R) : vcall PP n_impl_binaries_3 #[v0, v1] w R :=
  call_of_vc (T := A_impl_binaries_3) (c := (Tryz.f136.body).getD .skip) (n := 10) mixed Tryz.func136 rfl rfl (by kernel_rfl) (by kernel_rfl) rfl (by rw [k_impl_binaries_3]; exact h)

/-- impl.binaries$4 -/
def F_impl_binaries_4 (P : Program) (v0 v1 : Value) (w : World) (R : Value → World → Prop) : Prop :=
  vbox P T_impl_Vec v0 w fun t2 w_1 =>
  vbox P T_impl_Vec v1 w_1 fun t3 w_2 =>
  vdraw w_2 fun w_3 =>
  vload P T_impl_Vec t2 w_3 fun t5 w_4 => w_4 = w_3 ∧
  vload P T_impl_Vec t3 w_3 fun t7 w_5 => w_5 = w_3 ∧
  vcall P n_impl_Vec_raw #[t5] w_3 fun t6 w_6 => (vload P T_impl_Vec t3 w_6 fun v x => v = t7 ∧ x = w_6) ∧
  vcall P n_impl_Vec_raw #[t7] w_6 fun t8 w_7 =>
  vbin P .add T_impl_raw false t6 t8 w_7 fun t9 w_8 => w_8 = w_7 ∧
  R t9 w_7
def A_impl_binaries_4 : Ann := { ord := [(1, [0, 2, 1, 3, 4, 5], [(0, [1, 3, 4, 5]), (2, [3, 4, 5]), (1, [3, 4, 5]), (3, [4, 5]), (4, [5])])], loops := [], cuts := [] }
theorem k_impl_binaries_4 (v0 v1 : Value) (w : World) (R : Value → World → Prop) : vc PP A_impl_binaries_4 ((Tryz.f137.body).getD .skip) (retF PP Tryz.f137.results.toList R) (nthV [v0, v1]) w = F_impl_binaries_4 PP v0 v1 w R := by kernel_rfl
theorem c_impl_binaries_4 {v0 v1 : Value} {w : World} {R : Value → World → Prop} (h : F_impl_binaries_4 PP v0 v1 w R) : vcall PP n_impl_binaries_4 #[v0, v1] w R :=
  call_of_vc (T := A_impl_binaries_4) (c := (Tryz.f137.body).getD .skip) (n := 10) mixed Tryz.func137 rfl rfl (by kernel_rfl) (by kernel_rfl) rfl (by rw [k_impl_binaries_4]; exact h)

/-- impl.binaries$5 -/
def F_impl_binaries_5 (P : Program) (v0 v1 : Value) (w : World) (R : Value → World → Prop) : Prop :=
  vbox P T_impl_Vec v0 w fun t2 w_1 =>
  vbox P T_impl_Vec v1 w_1 fun t3 w_2 =>
  vdraw w_2 fun w_3 =>
  vload P T_impl_Vec t2 w_3 fun t5 w_4 => w_4 = w_3 ∧
  vload P T_impl_Vec t3 w_3 fun t7 w_5 => w_5 = w_3 ∧
  vcall P n_impl_Vec_raw #[t5] w_3 fun t6 w_6 => (vload P T_impl_Vec t3 w_6 fun v x => v = t7 ∧ x = w_6) ∧
  vcall P n_impl_Vec_raw #[t7] w_6 fun t8 w_7 =>
  vbin P .sub T_impl_raw false t6 t8 w_7 fun t9 w_8 => w_8 = w_7 ∧
  R t9 w_7
def A_impl_binaries_5 : Ann := { ord := [(1, [0, 2, 1, 3, 4, 5], [(0, [1, 3, 4, 5]), (2, [3, 4, 5]), (1, [3, 4, 5]), (3, [4, 5]), (4, [5])])], loops := [], cuts := [] }
theorem k_impl_binaries_5 (v0 v1 : Value) (w : World) (R : Value → World → Prop) : vc PP A_impl_binaries_5 ((Tryz.f138.body).getD .skip) (retF PP Tryz.f138.results.toList R) (nthV [v0, v1]) w = F_impl_binaries_5 PP v0 v1 w R := by kernel_rfl
theorem c_impl_binaries_5 {v0 v1 : Value} {w : World} {R : Value → World → Prop} (h : F_impl_binaries_5 PP v0 v1 w R) : vcall PP n_impl_binaries_5 #[v0, v1] w R :=
  call_of_vc (T := A_impl_binaries_5) (c := (Tryz.f138.body).getD .skip) (n := 10) mixed Tryz.func138 rfl rfl (by kernel_rfl) (by kernel_rfl) rfl (by rw [k_impl_binaries_5]; exact h)

/-- impl.binaries$6 -/
def F_impl_binaries_6 (P : Program) (v0 v1 : Value) (w : World) (R : Value → World → Prop) : Prop :=
  vbox P T_impl_Vec v0 w fun t2 w_1 =>
  vbox P T_impl_Vec v1 w_1 fun t3 w_2 =>
  vdraw w_2 fun w_3 =>
  vload P T_impl_Vec t2 w_3 fun t5 w_4 => w_4 = w_3 ∧
  vload P T_impl_Vec t3 w_3 fun t7 w_5 => w_5 = w_3 ∧
  vcall P n_impl_Vec_raw #[t5] w_3 fun t6 w_6 => (vload P T_impl_Vec t3 w_6 fun v x => v = t7 ∧ x = w_6) ∧
  vcall P n_impl_Vec_raw #[t7] w_6 fun t8 w_7 =>
  vbin P .mul T_impl_raw false t6 t8 w_7 fun t9 w_8 => w_8 = w_7 ∧
  R t9 w_7
def A_impl_binaries_6 : Ann := { ord := [(1, [0, 2, 1, 3, 4, 5], [(0, [1, 3, 4, 5]), (2, [3, 4, 5]), (1, [3, 4, 5]), (3, [4, 5]), (4, [5])])], loops := [], cuts := [] }
theorem k_impl_binaries_6 (v0 v1 : Value) (w : World) (R : Value → World → Prop) : vc PP A_impl_binaries_6 ((Tryz.f139.body).getD .skip) (retF PP Tryz.f139.results.toList R) (nthV [v0, v1]) w = F_impl_binaries_6 PP v0 v1 w R := by kernel_rfl
theorem c_impl_binaries_6 {v0 v1 : Value} {w : World} {R : Value → World → Prop} (h : F_impl_binaries_6 PP v0 v1 w R) : vcall PP n_impl_binaries_6 #[v0, v1] w R :=
  call_of_vc (T := A_impl_binaries_6) (c := (Tryz.f139.body).getD .skip) (n := 10) mixed Tryz.func139 rfl rfl (by kernel_rfl) (by kernel_rfl) rfl (by rw [k_impl_binaries_6]; exact h)

/-- impl.binaries$7 -/
def F_impl_binaries_7 (P : Program) (v0 v1 : Value) (w : World) (R : Value → World → Prop) : Prop :=
  vbox P T_impl_Vec v0 w fun t2 w_1 =>
  vbox P T_impl_Vec v1 w_1 fun t3 w_2 =>
  vfaddr P T_impl_Vec t3 1 w_2 fun t5 w_3 =>
  vload P T_int t5 w_3 fun t6 w_4 =>
  vbin P .eql T_int true t6 (.int .i64 0) w_4 fun t7 w_5 =>
  vif t7 (
    vload P T_impl_Vec t2 w_5 fun t8 w_6 =>
    vcall P n_impl_Vec_ones #[t8] w_6 fun t9 w_7 =>
    R t9 w_7) (
    vdraw w_5 fun w_8 =>
    vload P T_impl_Vec t2 w_8 fun t10 w_9 => w_9 = w_8 ∧
    vload P T_impl_Vec t3 w_8 fun t12 w_10 => w_10 = w_8 ∧
    vcall P n_impl_Vec_raw #[t10] w_8 fun t11 w_11 => (vload P T_impl_Vec t3 w_11 fun v x => v = t12 ∧ x = w_11) ∧
    vcall P n_impl_Vec_raw #[t12] w_11 fun t13 w_12 =>
    vbin P .quo T_impl_raw false t11 t13 w_12 fun t14 w_13 => w_13 = w_12 ∧
    R t14 w_12)
def A_impl_binaries_7 : Ann := { ord := [(3, [0, 2, 1, 3, 4, 5], [(0, [1, 3, 4, 5]), (2, [3, 4, 5]), (1, [3, 4, 5]), (3, [4, 5]), (4, [5])])], loops := [], cuts := [] }
theorem k_impl_binaries_7 (v0 v1 : Value) (w : World) (R : Value → World → Prop) : vc PP A_impl_binaries_7 ((Tryz.f140.body).getD .skip) (retF PP Tryz.f140.results.toList R) (nthV [v0, v1]) w = F_impl_binaries_7 PP v0 v1 w R := by kernel_rfl
theorem c_impl_binaries_7 {v0 v1 : Value} {w : World} {R : Value → World → Prop} (h : F_impl_binaries_7 PP v0 v1 w R) : vcall PP n_impl_binaries_7 #[v0, v1] w R :=
  call_of_vc (T := A_impl_binaries_7) (c := (Tryz.f140.body).getD .skip) (n := 15) mixed Tryz.func140 rfl rfl (by kernel_rfl) (by kernel_rfl) rfl (by rw [k_impl_binaries_7]; exact h)

/-- (impl.Vec).ones -/
def F_impl_Vec_ones (P : Program) (v0 : Value) (w : World) (R : Value → World → Prop) : Prop :=
  vbox P T_impl_Vec v0 w fun t1 w_1 =>
  vfaddr P T_impl_Vec t1 0 w_1 fun t3 w_2 =>
  vload P T_int t3 w_2 fun t4 w_3 =>
  vbin P .shl T_impl_raw true (.int .u64 1) t4 w_3 fun t5 w_4 =>
  vbin P .sub T_impl_raw true t5 (.int .u64 1) w_4 fun t6 w_5 =>
  R t6 w_5
def A_impl_Vec_ones : Ann := { ord := [], loops := [], cuts := [] }
theorem k_impl_Vec_ones (v0 : Value) (w : World) (R : Value → World → Prop) : vc PP A_impl_Vec_ones ((Tryz.f141.body).getD .skip) (retF PP Tryz.f141.results.toList R) (nthV [v0]) w = F_impl_Vec_ones PP v0 w R := by kernel_rfl
theorem c_impl_Vec_ones {v0 : Value} {w : World} {R : Value → World → Prop} (h : F_impl_Vec_ones PP v0 w R) : vcall PP n_impl_Vec_ones #[v0] w R :=
  call_of_vc (T := A_impl_Vec_ones) (c := (Tryz.f141.body).getD .skip) (n := 7) mixed Tryz.func141 rfl rfl (by kernel_rfl) (by kernel_rfl) rfl (by rw [k_impl_Vec_ones]; exact h)

/-- impl.binaries$8 -/
def F_impl_binaries_8 (P : Program) (v0 v1 : Value) (w : World) (R : Value → World → Prop) : Prop :=
  vbox P T_impl_Vec v0 w fun t2 w_1 =>
  vbox P T_impl_Vec v1 w_1 fun t3 w_2 =>
  vfaddr P T_impl_Vec t3 1 w_2 fun t5 w_3 =>
  vload P T_int t5 w_3 fun t6 w_4 =>
  vbin P .eql T_int true t6 (.int .i64 0) w_4 fun t7 w_5 =>
  vif t7 (
    vload P T_impl_Vec t2 w_5 fun t8 w_6 =>
    vcall P n_impl_Vec_raw #[t8] w_6 fun t9 w_7 =>
    R t9 w_7) (
    vdraw w_5 fun w_8 =>
    vload P T_impl_Vec t2 w_8 fun t10 w_9 => w_9 = w_8 ∧
    vload P T_impl_Vec t3 w_8 fun t12 w_10 => w_10 = w_8 ∧
    vcall P n_impl_Vec_raw #[t10] w_8 fun t11 w_11 => (vload P T_impl_Vec t3 w_11 fun v x => v = t12 ∧ x = w_11) ∧
    vcall P n_impl_Vec_raw #[t12] w_11 fun t13 w_12 =>
    vbin P .rem T_impl_raw false t11 t13 w_12 fun t14 w_13 => w_13 = w_12 ∧
    R t14 w_12)
def A_impl_binaries_8 : Ann := { ord := [(3, [0, 2, 1, 3, 4, 5], [(0, [1, 3, 4, 5]), (2, [3, 4, 5]), (1, [3, 4, 5]), (3, [4, 5]), (4, [5])])], loops := [], cuts := [] }
theorem k_impl_binaries_8 (v0 v1 : Value) (w : World) (R : Value → World → Prop) : vc PP A_impl_binaries_8 ((Tryz.f142.body).getD .skip) (retF PP Tryz.f142.results.toList R) (nthV [v0, v1]) w = F_impl_binaries_8 PP v0 v1 w R := by kernel_rfl
theorem c_impl_binaries_8 {v0 v1 : Value} {w : World} {R : Value → World → Prop} (h : F_impl_binaries_8 PP v0 v1 w R) : vcall PP n_impl_binaries_8 #[v0, v1] w R :=
  call_of_vc (T := A_impl_binaries_8) (c := (Tryz.f142.body).getD .skip) (n := 15) mixed Tryz.func142 rfl rfl (by kernel_rfl) (by kernel_rfl) rfl (by rw [k_impl_binaries_8]; exact h)

/-- impl.binaries$9 -/
def F_impl_binaries_9 (P : Program) (v0 v1 : Value) (w : World) (R : Value → World → Prop) : Prop :=
  vbox P T_impl_Vec v0 w fun t2 w_1 =>
  vbox P T_impl_Vec v1 w_1 fun t3 w_2 =>
  vdraw w_2 fun w_3 =>
  vload P T_impl_Vec t2 w_3 fun t5 w_4 => w_4 = w_3 ∧
  vload P T_impl_Vec t3 w_3 fun t7 w_5 => w_5 = w_3 ∧
  vcall P n_impl_Vec_raw #[t5] w_3 fun t6 w_6 => (vload P T_impl_Vec t3 w_6 fun v x => v = t7 ∧ x = w_6) ∧
  vcall P n_impl_Vec_raw #[t7] w_6 fun t8 w_7 =>
  vbin P .shl T_impl_raw false t6 t8 w_7 fun t9 w_8 => w_8 = w_7 ∧
  R t9 w_7
def A_impl_binaries_9 : Ann := { ord := [(1, [0, 2, 1, 3, 4, 5], [(0, [1, 3, 4, 5]), (2, [3, 4, 5]), (1, [3, 4, 5]), (3, [4, 5]), (4, [5])])], loops := [], cuts := [] }
theorem k_impl_binaries_9 (v0 v1 : Value) (w : World) (R : Value → World → Prop) : vc PP A_impl_binaries_9 ((Tryz.f143.body).getD .skip) (retF PP Tryz.f143.results.toList R) (nthV [v0, v1]) w = F_impl_binaries_9 PP v0 v1 w R := by kernel_rfl
theorem c_impl_binaries_9 {v0 v1 : Value} {w : World} {R : Value → World → Prop} (h : F_impl_binaries_9 PP v0 v1 w R) : vcall PP n_impl_binaries_9 #[v0, v1] w R :=
  call_of_vc (T := A_impl_binaries_9) (c := (Tryz.f143.body).getD .skip) (n := 10) mixed Tryz.func143 rfl rfl (by kernel_rfl) (by kernel_rfl) rfl (by rw [k_impl_binaries_9]; exact h)

/-- impl.binaries$10 -/
def F_impl_binaries_10 (P : Program) (v0 v1 : Value) (w : World) (R : Value → World → Prop) : Prop :=
  vbox P T_impl_Vec v0 w fun t2 w_1 =>
  vbox P T_impl_Vec v1 w_1 fun t3 w_2 =>
  vdraw w_2 fun w_3 =>
  vload P T_impl_Vec t2 w_3 fun t5 w_4 => w_4 = w_3 ∧
  vload P T_impl_Vec t3 w_3 fun t7 w_5 => w_5 = w_3 ∧
  vcall P n_impl_Vec_raw #[t5] w_3 fun t6 w_6 => (vload P T_impl_Vec t3 w_6 fun v x => v = t7 ∧ x = w_6) ∧
  vcall P n_impl_Vec_raw #[t7] w_6 fun t8 w_7 =>
  vbin P .shr T_impl_raw false t6 t8 w_7 fun t9 w_8 => w_8 = w_7 ∧
  R t9 w_7
def A_impl_binaries_10 : Ann := { ord := [(1, [0, 2, 1, 3, 4, 5], [(0, [1, 3, 4, 5]), (2, [3, 4, 5]), (1, [3, 4, 5]), (3, [4, 5]), (4, [5])])], loops := [], cuts := [] }
theorem k_impl_binaries_10 (v0 v1 : Value) (w : World) (R : Value → World → Prop) : vc PP A_impl_binaries_10 ((Tryz.f144.body).getD .skip) (retF PP Tryz.f144.results.toList R) (nthV [v0, v1]) w = F_impl_binaries_10 PP v0 v1 w R := by kernel_rfl
theorem c_impl_binaries_10 {v0 v1 : Value} {w : World} {R : Value → World → Prop} (h : F_impl_binaries_10 PP v0 v1 w R) : vcall PP n_impl_binaries_10 #[v0, v1] w R :=
  call_of_vc (T := A_impl_binaries_10) (c := (Tryz.f144.body).getD .skip) (n := 10) mixed Tryz.func144 rfl rfl (by kernel_rfl) (by kernel_rfl) rfl (by rw [k_impl_binaries_10]; exact h)

/-- impl.binaries$11 -/
def F_impl_binaries_11 (P : Program) (v0 v1 : Value) (w : World) (R : Value → World → Prop) : Prop :=
  vbox P T_impl_Vec v0 w fun t2 w_1 =>
  vbox P T_impl_Vec v1 w_1 fun t3 w_2 =>
  vdraw w_2 fun w_3 =>
  vload P T_impl_Vec t2 w_3 fun t5 w_4 => w_4 = w_3 ∧
  vload P T_impl_Vec t3 w_3 fun t7 w_5 => w_5 = w_3 ∧
  vcall P n_impl_Vec_stretched #[t5] w_3 fun t6 w_6 => (vload P T_impl_Vec t3 w_6 fun v x => v = t7 ∧ x = w_6) ∧
  vcall P n_impl_Vec_raw #[t7] w_6 fun t8 w_7 =>
  vbin P .shr T_impl_raw false t6 t8 w_7 fun t9 w_8 => w_8 = w_7 ∧
  R t9 w_7
def A_impl_binaries_11 : Ann := { ord := [(1, [0, 2, 1, 3, 4, 5], [(0, [1, 3, 4, 5]), (2, [3, 4, 5]), (1, [3, 4, 5]), (3, [4, 5]), (4, [5])])], loops := [], cuts := [] }
theorem k_impl_binaries_11 (v0 v1 : Value) (w : World) (R : Value → World → Prop) : vc PP A_impl_binaries_11 ((Tryz.f145.body).getD .skip) (retF PP Tryz.f145.results.toList R) (nthV [v0, v1]) w = F_impl_binaries_11 PP v0 v1 w R := by kernel_rfl
theorem c_impl_binaries_11 {v0 v1 : Value} {w : World} {R : Value → World → Prop} (h : F_impl_binaries_11 PP v0 v1 w R) : vcall PP n_impl_binaries_11 #[v0, v1] w R :=
  call_of_vc (T := A_impl_binaries_11) (c := (Tryz.f145.body).getD .skip) (n := 10) mixed Tryz.func145 rfl rfl (by kernel_rfl) (by kernel_rfl) rfl (by rw [k_impl_binaries_11]; exact h)

/-- (impl.Vec).stretched -/
def F_impl_Vec_stretched (P : Program) (v0 : Value) (w : World) (R : Value → World → Prop) : Prop :=
  vbox P T_impl_Vec v0 w fun t1 w_1 =>
  vdraw w_1 fun w_2 =>
  vload P T_impl_Vec t1 w_2 fun t3 w_3 => w_3 = w_2 ∧
  vfaddr P T_impl_Vec t1 0 w_2 fun t5 w_4 => w_4 = w_2 ∧
  vload P T_int t5 w_2 fun t6 w_5 => w_5 = w_2 ∧
  vbin P .sub T_int true t6 (.int .i64 1) w_2 fun t7 w_6 => w_6 = w_2 ∧
  vcall P n_impl_Vec_raw #[t3] w_2 fun t4 w_7 => (vbin P .sub T_int true t6 (.int .i64 1) w_7 fun v x => v = t7 ∧ x = w_7) ∧ (vload P T_int t5 w_7 fun v x => v = t6 ∧ x = w_7) ∧ (vfaddr P T_impl_Vec t1 0 w_7 fun v x => v = t5 ∧ x = w_7) ∧
  vcall P n_impl_raw_bit #[t4, t7] w_7 fun t8 w_8 =>
  vif t8 (
    vdraw w_8 fun w_9 =>
    vload P T_impl_Vec t1 w_9 fun t9 w_10 => w_10 = w_9 ∧
    vload P T_impl_Vec t1 w_9 fun t11 w_11 => w_11 = w_9 ∧
    vcall P n_impl_Vec_raw #[t9] w_9 fun t10 w_12 => (vload P T_impl_Vec t1 w_12 fun v x => v = t11 ∧ x = w_12) ∧
    vcall P n_impl_Vec_ones #[t11] w_12 fun t12 w_13 =>
    vun P .xor t12 w_13 fun t13 w_14 => w_14 = w_13 ∧
    vbin P .and T_impl_raw true t13 (.int .u64 4294967295) w_13 fun t14 w_15 => w_15 = w_13 ∧
    vbin P .or T_impl_raw false t10 t14 w_13 fun t15 w_16 => w_16 = w_13 ∧
    R t15 w_13) (
    vload P T_impl_Vec t1 w_8 fun t16 w_17 =>
    vcall P n_impl_Vec_raw #[t16] w_17 fun t17 w_18 =>
    R t17 w_18)
def A_impl_Vec_stretched : Ann := { ord := [(1, [0, 2, 3, 4, 1, 5], [(0, [1, 5]), (2, [3, 4, 5]), (3, [4, 5]), (4, [5]), (1, [5])]), (2, [0, 2, 1, 3, 4, 5, 6, 7], [(0, [1, 3, 4, 5, 6, 7]), (2, [3, 4, 5, 6, 7]), (1, [3, 4, 5, 6, 7]), (3, [4, 5, 6, 7]), (4, [5, 6, 7]), (5, [6, 7]), (6, [7])])], loops := [], cuts := [] }
theorem k_impl_Vec_stretched (v0 : Value) (w : World) (R : Value → World → Prop) : vc PP A_impl_Vec_stretched ((Tryz.f146.body).getD .skip) (retF PP Tryz.f146.results.toList R) (nthV [v0]) w = F_impl_Vec_stretched PP v0 w R := by kernel_rfl
theorem c_impl_Vec_stretched {v0 : Value} {w : World} {R : Value → World → Prop} (h : F_impl_Vec_stretched PP v0 w R) : vcall PP n_impl_Vec_stretched #[v0] w R :=
  call_of_vc (T := A_impl_Vec_stretched) (c := (Tryz.f146.body).getD .skip) (n := 18) mixed Tryz.func146 rfl rfl (by kernel_rfl) (by kernel_rfl) rfl (by rw [k_impl_Vec_stretched]; exact h)

/-- spec.VecRead -/
def F_spec_VecRead (P : Program) (v0 : Value) (w : World) (R : Value → World → Prop) : Prop :=
  valloc P T_impl_Vec w fun t2 w_1 =>
  vjoin (fun J =>
    vbi P .len [T_string] T_int [v0] w_1 fun t7 w_3 =>
    vbin P .lss T_int true t7 (.int .i64 2) w_3 fun t8 w_4 =>
    vif t8 (
      vbuild P T_impl_Vec [] w_4 fun t19 w_5 =>
      vstore P T_impl_Vec t2 t19 w_5 fun _ w_6 =>
      vlv P T_impl_Vec t2 w_6 fun r2 w_7 =>
      R (.tuple #[r2, (.bool false)]) w_7) (
      vbi P .len [T_string] T_int [v0] w_4 fun t11 w_8 =>
      vbin P .gtr T_int true t11 (.int .i64 5) w_8 fun t12 w_9 =>
      vif t12 (
        vbuild P T_impl_Vec [] w_9 fun t19_1 w_10 =>
        vstore P T_impl_Vec t2 t19_1 w_10 fun _ w_11 =>
        vlv P T_impl_Vec t2 w_11 fun r2_1 w_12 =>
        R (.tuple #[r2_1, (.bool false)]) w_12) (
        vindex P T_string v0 (.int .i64 0) w_9 fun t16 w_13 =>
        vbin P .neq T_uint8 true t16 (.int .u8 35) w_13 fun t17 w_14 =>
        vif t17 (
          vbuild P T_impl_Vec [] w_14 fun t19_2 w_15 =>
          vstore P T_impl_Vec t2 t19_2 w_15 fun _ w_16 =>
          vlv P T_impl_Vec t2 w_16 fun r2_2 w_17 =>
          R (.tuple #[r2_2, (.bool false)]) w_17) (
          J [] w_14)))) (fun _ _ w_2 =>
    vbi P .len [T_string] T_int [v0] w_2 fun t21 w_18 =>
    vbin P .sub T_int true t21 (.int .i64 1) w_18 fun t22 w_19 =>
    vbuild P T_impl_Vec [(0, t22)] w_19 fun t23 w_20 =>
    valloc P T_impl_Vec w_20 fun t4 w_21 =>
    vstore P T_impl_Vec t4 t23 w_21 fun _ w_22 =>
    vloop [(.int .i64 1)] w_22 fun C u_1 _ w_23 =>
      vbi P .len [T_string] T_int [v0] w_23 fun t26 w_24 =>
      vbin P .lss T_int false (sl 0 u_1) t26 w_24 fun t27 w_25 =>
      vif t27 (
        vjoin (fun J_1 =>
          vindex P T_string v0 (sl 0 u_1) w_25 fun t32 w_27 =>
          vbin P .neq T_uint8 true t32 (.int .u8 48) w_27 fun t33 w_28 =>
          vif t33 (
            vindex P T_string v0 (sl 0 u_1) w_28 fun t37 w_29 =>
            vbin P .neq T_uint8 true t37 (.int .u8 49) w_29 fun t38 w_30 =>
            vif t38 (
              vbuild P T_impl_Vec [] w_30 fun t40 w_31 =>
              vstore P T_impl_Vec t2 t40 w_31 fun _ w_32 =>
              vlv P T_impl_Vec t2 w_32 fun r2_3 w_33 =>
              R (.tuple #[r2_3, (.bool false)]) w_33) (
              J_1 [] w_30)) (
            J_1 [] w_28)) (fun _ _ w_26 =>
          vdraw w_26 fun w_34 =>
          vfaddr P T_impl_Vec t4 1 w_34 fun t41 w_35 => w_35 = w_34 ∧
          vload P T_int t41 w_34 fun t42 w_36 => w_36 = w_34 ∧
          vbin P .mul T_int true t42 (.int .i64 2) w_34 fun t43 w_37 => w_37 = w_34 ∧
          vindex P T_string v0 (sl 0 u_1) w_34 fun t46 w_38 => w_38 = w_34 ∧
          vbin P .sub T_uint8 true t46 (.int .u8 48) w_34 fun t47 w_39 => w_39 = w_34 ∧
          vconv P T_uint8 T_int t47 w_34 fun t48 w_40 => w_40 = w_34 ∧
          vbin P .add T_int false t43 t48 w_34 fun t49 w_41 => w_41 = w_34 ∧
          vfaddr P T_impl_Vec t4 1 w_34 fun t50 w_42 => w_42 = w_34 ∧
          vstore P T_int t50 t49 w_34 fun _ w_43 =>
          vbin P .add T_int true (sl 0 u_1) (.int .i64 1) w_43 fun t29 w_44 =>
          C [t29] w_44)) (
        vload P T_impl_Vec t4 w_25 fun t51 w_45 =>
        vstore P T_impl_Vec t2 t51 w_45 fun _ w_46 =>
        vlv P T_impl_Vec t2 w_46 fun r2_4 w_47 =>
        R (.tuple #[r2_4, (.bool true)]) w_47))
def A_spec_VecRead : Ann := { ord := [(9, [0, 1, 2, 3, 4, 5, 6, 7, 8, 9, 10], [(0, [1, 2, 8, 9, 10]), (1, [2, 8, 9, 10]), (2, [8, 9, 10]), (3, [5, 6, 7, 8, 9, 10]), (4, [5, 6, 7, 8, 9, 10]), (5, [6, 7, 8, 9, 10]), (6, [7, 8, 9, 10]), (7, [8, 9, 10]), (8, [9, 10]), (9, [10])])], loops := [(5, [5])], cuts := [(8195, []), (32777, [])] }
theorem k_spec_VecRead (v0 : Value) (w : World) (R : Value → World → Prop) : vc PP A_spec_VecRead ((Tryz.f147.body).getD .skip) (retF PP Tryz.f147.results.toList R) (nthV [v0]) w = F_spec_VecRead PP v0 w R := by kernel_rfl
theorem c_spec_VecRead {v0 : Value} {w : World} {R : Value → World → Prop} (h : F_spec_VecRead PP v0 w R) : vcall PP n_spec_VecRead #[v0] w R :=
  call_of_vc (T := A_spec_VecRead) (c := (Tryz.f147.body).getD .skip) (n := 52) mixed Tryz.func147 rfl rfl (by kernel_rfl) (by kernel_rfl) rfl (by rw [k_spec_VecRead]; exact h)

/-- impl.fail -/
def F_impl_fail (P : Program) (v0 : Value) (w : World) (R : Value → World → Prop) : Prop :=
  vif v0 (
    vbuild P T_impl_unreadable [] w fun t3 w_1 =>
    vmkI P T_impl_unreadable t3 w_1 fun _ _ =>
    False) (
    R (.tuple #[]) w)
def A_impl_fail : Ann := { ord := [], loops := [], cuts := [] }
theorem k_impl_fail (v0 : Value) (w : World) (R : Value → World → Prop) : vc PP A_impl_fail ((Tryz.f148.body).getD .skip) (retF PP Tryz.f148.results.toList R) (nthV [v0]) w = F_impl_fail PP v0 w R := by kernel_rfl
theorem c_impl_fail {v0 : Value} {w : World} {R : Value → World → Prop} (h : F_impl_fail PP v0 w R) : vcall PP n_impl_fail #[v0] w R :=
  call_of_vc (T := A_impl_fail) (c := (Tryz.f148.body).getD .skip) (n := 5) mixed Tryz.func148 rfl rfl (by kernel_rfl) (by kernel_rfl) rfl (by rw [k_impl_fail]; exact h)

end Go.Proofs.YtbiabimalkkeiaaGreatDoor
