import Derived.Test.YtpihgpfebhegmaaNm
set_option linter.unusedVariables false
set_option linter.unusedSimpArgs false
set_option linter.unnecessarySimpa false
set_option linter.unusedSectionVars false
namespace Go.Proofs.Ytpihgpfebhegmaa
open Go Go.Vc Go.Proofs
/-- laws.FnSatRun -/
def F_laws_FnSatRun (P : Program) (v0 : Value) (w : World) (R : Value → World → Prop) : Prop :=
  vbi P .len [T_Luint8] T_int [v0] w fun t9 w_1 =>
  vbin P .gtr T_int true t9 (.int .i64 1048576) w_1 fun t10 w_2 =>
  vif t10 (
    R (.bool true) w_2) (
    vcall P n_spec_DrawSatRun #[v0] w_2 fun t13 w_3 =>
    vextract P t13 0 w_3 fun t14 w_4 =>
    vextract P t13 1 w_4 fun t15 w_5 =>
    valloc P T_impl_Cnf w_5 fun t3 w_6 =>
    vstore P T_impl_Cnf t3 t14 w_6 fun _ w_7 =>
    vload P T_impl_Cnf t3 w_7 fun t16 w_8 =>
    vcall P n_impl_SatRun #[t16, t15] w_8 fun t18 w_9 =>
    valloc P T_impl_Sat w_9 fun t5 w_10 =>
    vstore P T_impl_Sat t5 t18 w_10 fun _ w_11 =>
    vdraw w_11 fun w_12 =>
    vload P T_impl_Sat t5 w_12 fun t19 w_13 => w_13 = w_12 ∧
    vload P T_impl_Cnf t3 w_12 fun t20 w_14 => w_14 = w_12 ∧
    vcall P n_spec_SatRun #[t20, t15] w_12 fun t22 w_15 => (vload P T_impl_Sat t5 w_15 fun v x => v = t19 ∧ x = w_15) ∧
    vcall P n_impl_SatSame #[t19, t22] w_15 fun t23 w_16 =>
    vun P .not t23 w_16 fun t24 w_17 => w_17 = w_16 ∧
    vif t24 (
      R (.bool false) w_16) (
      vjoin (fun J =>
        vbin P .lss T_int true t15 (.int .i64 0) w_16 fun t26 w_19 =>
        vif t26 (
          vload P T_impl_Sat t5 w_19 fun t36 w_20 =>
          vbuild P T_impl_Sat [(3, (.int .i64 4))] w_20 fun t37 w_21 =>
          vcall P n_impl_SatSame #[t36, t37] w_21 fun t38 w_22 =>
          R t38 w_22) (
          vbin P .gtr T_int true t15 (.int .i64 4000) w_19 fun t29 w_23 =>
          vif t29 (
            vload P T_impl_Sat t5 w_23 fun t36_1 w_24 =>
            vbuild P T_impl_Sat [(3, (.int .i64 4))] w_24 fun t37_1 w_25 =>
            vcall P n_impl_SatSame #[t36_1, t37_1] w_25 fun t38_1 w_26 =>
            R t38_1 w_26) (
            vload P T_impl_Cnf t3 w_23 fun t32 w_27 =>
            vcall P n_impl_CnfOk #[t32] w_27 fun t33 w_28 =>
            vun P .not t33 w_28 fun t34 w_29 =>
            vif t34 (
              vload P T_impl_Sat t5 w_29 fun t36_2 w_30 =>
              vbuild P T_impl_Sat [(3, (.int .i64 4))] w_30 fun t37_2 w_31 =>
              vcall P n_impl_SatSame #[t36_2, t37_2] w_31 fun t38_2 w_32 =>
              R t38_2 w_32) (
              J [] w_29)))) (fun _ _ w_18 =>
        vbin P .gtr T_int true t15 (.int .i64 40) w_18 fun t40 w_33 =>
        vif t40 (
          vdraw w_33 fun w_34 =>
          vload P T_impl_Cnf t3 w_34 fun t41 w_35 => w_35 = w_34 ∧
          vload P T_impl_Cnf t3 w_34 fun t42 w_36 => w_36 = w_34 ∧
          vbin P .sub T_int true t15 (.int .i64 1) w_34 fun t44 w_37 => w_37 = w_34 ∧
          vload P T_impl_Sat t5 w_34 fun t47 w_38 => w_38 = w_34 ∧
          vcall P n_impl_SatRun #[t42, t44] w_34 fun t45 w_39 => (vload P T_impl_Sat t5 w_39 fun v x => v = t47 ∧ x = w_39) ∧ (vload P T_impl_Cnf t3 w_39 fun v x => v = t41 ∧ x = w_39) ∧
          vcall P n_impl_SatStep #[t41, t45] w_39 fun t46 w_40 => (vload P T_impl_Sat t5 w_40 fun v x => v = t47 ∧ x = w_40) ∧
          vcall P n_impl_SatSame #[t46, t47] w_40 fun t48 w_41 =>
          R t48 w_41) (
          vbuild P T_impl_Sat [] w_33 fun t49 w_42 =>
          valloc P T_impl_Sat w_42 fun t6 w_43 =>
          vstore P T_impl_Sat t6 t49 w_43 fun _ w_44 =>
          vloop [(.int .i64 0)] w_44 fun C u_1 _ w_45 =>
            vbin P .lss T_int false (sl 0 u_1) t15 w_45 fun t52 w_46 =>
            vif t52 (
              vload P T_impl_Cnf t3 w_46 fun t55 w_47 =>
              vload P T_impl_Sat t6 w_47 fun t56 w_48 =>
              vcall P n_impl_SatStep #[t55, t56] w_48 fun t57 w_49 =>
              vstore P T_impl_Sat t6 t57 w_49 fun _ w_50 =>
              vbin P .add T_int true (sl 0 u_1) (.int .i64 1) w_50 fun t54 w_51 =>
              C [t54] w_51) (
              vload P T_impl_Sat t6 w_46 fun t58 w_52 =>
              vload P T_impl_Sat t5 w_52 fun t59 w_53 =>
              vcall P n_impl_SatSame #[t58, t59] w_53 fun t60 w_54 =>
              R t60 w_54)))))
def A_laws_FnSatRun : Ann := { ord := [(5, [0, 1, 2, 3, 4, 5], [(0, [4, 5]), (1, [3, 4, 5]), (2, [3, 4, 5]), (3, [4, 5]), (4, [5])]), (10, [0, 1, 2, 3, 6, 4, 5, 7, 8], [(0, [5, 7, 8]), (1, [4, 5, 7, 8]), (2, [3, 4, 5, 7, 8]), (3, [4, 5, 7, 8]), (6, [7, 8]), (4, [5, 7, 8]), (5, [7, 8]), (7, [8])])], loops := [(13, [7])], cuts := [(32777, [])] }
theorem k_laws_FnSatRun (v0 : Value) (w : World) (R : Value → World → Prop) : vc PP A_laws_FnSatRun ((Try.f3.body).getD .skip) (retF PP Try.f3.results.toList R) (nthV [v0]) w = F_laws_FnSatRun PP v0 w R := by kernel_rfl
theorem c_laws_FnSatRun {v0 : Value} {w : World} {R : Value → World → Prop} (h : F_laws_FnSatRun PP v0 w R) : vcall PP n_laws_FnSatRun #[v0] w R :=
  call_of_vc (T := A_laws_FnSatRun) (c := (Try.f3.body).getD .skip) (n := 61) mixed Try.func3 rfl rfl (by kernel_rfl) (by kernel_rfl) rfl (by rw [k_laws_FnSatRun]; exact h)

/-- laws.FnSatMore -/
def F_laws_FnSatMore (P : Program) (v0 v1 : Value) (w : World) (R : Value → World → Prop) : Prop :=
  vjoin (fun J =>
    vbi P .len [T_Luint8] T_int [v0] w fun t12 w_2 =>
    vbin P .gtr T_int true t12 (.int .i64 1048576) w_2 fun t13 w_3 =>
    vif t13 (
      R (.bool true) w_3) (
      vbi P .len [T_Luint8] T_int [v1] w_3 fun t16 w_4 =>
      vbin P .gtr T_int true t16 (.int .i64 1048576) w_4 fun t17 w_5 =>
      vif t17 (
        R (.bool true) w_5) (
        J [] w_5))) (fun _ _ w_1 =>
    vcall P n_spec_DrawSatRun #[v0] w_1 fun t21 w_6 =>
    vextract P t21 0 w_6 fun t22 w_7 =>
    vextract P t21 1 w_7 fun t23 w_8 =>
    valloc P T_impl_Cnf w_8 fun t5 w_9 =>
    vstore P T_impl_Cnf t5 t22 w_9 fun _ w_10 =>
    vload P T_impl_Cnf t5 w_10 fun t24 w_11 =>
    vcall P n_impl_SatRun #[t24, t23] w_11 fun t26 w_12 =>
    valloc P T_impl_Sat w_12 fun t7 w_13 =>
    vstore P T_impl_Sat t7 t26 w_13 fun _ w_14 =>
    vjoin (fun J_1 =>
      vdraw w_14 fun w_16 =>
      vload P T_impl_Sat t7 w_16 fun t27 w_17 => w_17 = w_16 ∧
      vload P T_impl_Cnf t5 w_16 fun t28 w_18 => w_18 = w_16 ∧
      vcall P n_spec_SatRun #[t28, t23] w_16 fun t30 w_19 => (vload P T_impl_Sat t7 w_19 fun v x => v = t27 ∧ x = w_19) ∧
      vcall P n_impl_SatSame #[t27, t30] w_19 fun t31 w_20 =>
      vun P .not t31 w_20 fun t32 w_21 => w_21 = w_20 ∧
      vif t32 (
        vdraw w_20 fun w_22 =>
        vload P T_impl_Sat t7 w_22 fun t38 w_23 => w_23 = w_22 ∧
        vload P T_impl_Cnf t5 w_22 fun t39 w_24 => w_24 = w_22 ∧
        vcall P n_spec_SatRun #[t39, t23] w_22 fun t41 w_25 => (vload P T_impl_Sat t7 w_25 fun v x => v = t38 ∧ x = w_25) ∧
        vcall P n_impl_SatSame #[t38, t41] w_25 fun t42 w_26 =>
        R t42 w_26) (
        vfaddr P T_impl_Sat t7 3 w_20 fun t34 w_27 => w_27 = w_20 ∧
        vload P T_int t34 w_20 fun t35 w_28 => w_28 = w_20 ∧
        vbin P .eql T_int true t35 (.int .i64 4) w_20 fun t36 w_29 => w_29 = w_20 ∧
        vif t36 (
          vdraw w_20 fun w_30 =>
          vload P T_impl_Sat t7 w_30 fun t38_1 w_31 => w_31 = w_30 ∧
          vload P T_impl_Cnf t5 w_30 fun t39_1 w_32 => w_32 = w_30 ∧
          vcall P n_spec_SatRun #[t39_1, t23] w_30 fun t41_1 w_33 => (vload P T_impl_Sat t7 w_33 fun v x => v = t38_1 ∧ x = w_33) ∧
          vcall P n_impl_SatSame #[t38_1, t41_1] w_33 fun t42_1 w_34 =>
          R t42_1 w_34) (
          J_1 [] w_20))) (fun _ _ w_15 =>
      vbi P .len [T_Luint8] T_int [v1] w_15 fun t45 w_35 =>
      vbin P .rem T_int true t45 (.int .i64 20) w_35 fun t46 w_36 =>
      vbin P .add T_int false t23 t46 w_36 fun t47 w_37 =>
      vjoin (fun J_2 =>
        vbin P .gtr T_int true t47 (.int .i64 4000) w_37 fun t49 w_39 =>
        vif t49 (
          J_2 [(.int .i64 4000)] w_39) (
          J_2 [t47] w_39)) (fun u_2 _ w_38 =>
        vload P T_impl_Cnf t5 w_38 fun t50 w_40 =>
        vcall P n_impl_SatRun #[t50, (sl 0 u_2)] w_40 fun t52 w_41 =>
        valloc P T_impl_Sat w_41 fun t9 w_42 =>
        vstore P T_impl_Sat t9 t52 w_42 fun _ w_43 =>
        vjoin (fun J_3 =>
          vfaddr P T_impl_Sat t9 2 w_43 fun t53 w_45 =>
          vload P T_LLint t53 w_45 fun t54 w_46 =>
          vbi P .len [T_LLint] T_int [t54] w_46 fun t55 w_47 =>
          vfaddr P T_impl_Sat t7 2 w_47 fun t56 w_48 =>
          vload P T_LLint t56 w_48 fun t57 w_49 =>
          vbi P .len [T_LLint] T_int [t57] w_49 fun t58 w_50 =>
          vbin P .lss T_int false t55 t58 w_50 fun t59 w_51 =>
          vif t59 (
            R (.bool false) w_51) (
            vfaddr P T_impl_Sat t7 3 w_51 fun t61 w_52 =>
            vload P T_int t61 w_52 fun t62 w_53 =>
            vbin P .neq T_int true t62 (.int .i64 0) w_53 fun t63 w_54 =>
            vif t63 (
              vload P T_impl_Sat t7 w_54 fun t65 w_55 =>
              vload P T_impl_Sat t9 w_55 fun t66 w_56 =>
              vcall P n_impl_SatSame #[t65, t66] w_56 fun t67 w_57 =>
              vun P .not t67 w_57 fun t68 w_58 =>
              vif t68 (
                R (.bool false) w_58) (
                J_3 [] w_58)) (
              J_3 [] w_54))) (fun _ _ w_44 =>
          vloop [(.int .i64 0)] w_44 fun C u_4 _ w_59 =>
            vfaddr P T_impl_Sat t7 2 w_59 fun t72 w_60 =>
            vload P T_LLint t72 w_60 fun t73 w_61 =>
            vbi P .len [T_LLint] T_int [t73] w_61 fun t74 w_62 =>
            vbin P .lss T_int false (sl 0 u_4) t74 w_62 fun t75 w_63 =>
            vif t75 (
              vdraw w_63 fun w_64 =>
              vfaddr P T_impl_Sat t7 2 w_64 fun t78 w_65 => w_65 = w_64 ∧
              vload P T_LLint t78 w_64 fun t79 w_66 => w_66 = w_64 ∧
              viaddr P T_LLint t79 (sl 0 u_4) w_64 fun t81 w_67 => w_67 = w_64 ∧
              vload P T_Lint t81 w_64 fun t82 w_68 => w_68 = w_64 ∧
              vfaddr P T_impl_Sat t9 2 w_64 fun t83 w_69 => w_69 = w_64 ∧
              vload P T_LLint t83 w_64 fun t84 w_70 => w_70 = w_64 ∧
              viaddr P T_LLint t84 (sl 0 u_4) w_64 fun t86 w_71 => w_71 = w_64 ∧
              vload P T_Lint t86 w_64 fun t87 w_72 => w_72 = w_64 ∧
              vcall P n_laws_wpInts #[t82, t87] w_64 fun t88 w_73 =>
              vun P .not t88 w_73 fun t89 w_74 => w_74 = w_73 ∧
              vif t89 (
                R (.bool false) w_73) (
                vbin P .add T_int true (sl 0 u_4) (.int .i64 1) w_73 fun t77 w_75 =>
                C [t77] w_75)) (
              vload P T_impl_Cnf t5 w_63 fun t90 w_76 =>
              vload P T_impl_Sat t9 w_76 fun t91 w_77 =>
              vcall P n_impl_SatOk #[t90, t91] w_77 fun t92 w_78 =>
              R t92 w_78)))))
def A_laws_FnSatMore : Ann := { ord := [(5, [0, 1, 2, 3, 4, 5, 6, 7, 8, 9, 10], [(0, [4, 5, 6, 7, 8, 9, 10]), (1, [3, 4, 5, 6, 7, 8, 9, 10]), (2, [3, 4, 5, 6, 7, 8, 9, 10]), (3, [4, 5, 6, 7, 8, 9, 10]), (4, [5, 6, 7, 8, 9, 10]), (5, [6, 7, 8, 9, 10]), (6, [7, 8, 9, 10]), (7, [8, 9, 10]), (8, [9, 10]), (9, [10])]), (6, [0, 1, 2, 3, 4, 5], [(0, [4, 5]), (1, [3, 4, 5]), (2, [3, 4, 5]), (3, [4, 5]), (4, [5])]), (16, [0, 1, 2, 3, 4, 5, 6, 7, 8, 9, 10, 11], [(0, [1, 3, 4, 10, 11]), (1, [3, 4, 10, 11]), (2, [3, 4, 10, 11]), (3, [4, 10, 11]), (4, [10, 11]), (5, [6, 8, 9, 10, 11]), (6, [8, 9, 10, 11]), (7, [8, 9, 10, 11]), (8, [9, 10, 11]), (9, [10, 11]), (10, [11])])], loops := [(14, [10])], cuts := [(8195, []), (24583, []), (36874, [8]), (49165, [])] }
theorem k_laws_FnSatMore (v0 v1 : Value) (w : World) (R : Value → World → Prop) : vc PP A_laws_FnSatMore ((Try.f4.body).getD .skip) (retF PP Try.f4.results.toList R) (nthV [v0, v1]) w = F_laws_FnSatMore PP v0 v1 w R := by kernel_rfl
theorem c_laws_FnSatMore {v0 v1 : Value} {w : World} {R : Value → World → Prop} (h : F_laws_FnSatMore PP v0 v1 w R) : vcall PP n_laws_FnSatMore #[v0, v1] w R :=
  call_of_vc (T := A_laws_FnSatMore) (c := (Try.f4.body).getD .skip) (n := 93) mixed Try.func4 rfl rfl (by kernel_rfl) (by kernel_rfl) rfl (by rw [k_laws_FnSatMore]; exact h)

/-- laws.FnSatTurn -/
def F_laws_FnSatTurn (P : Program) (v0 : Value) (w : World) (R : Value → World → Prop) : Prop :=
  vbi P .len [T_Luint8] T_int [v0] w fun t10 w_1 =>
  vbin P .gtr T_int true t10 (.int .i64 1048576) w_1 fun t11 w_2 =>
  vif t11 (
    R (.bool true) w_2) (
    vcall P n_spec_DrawSatRun #[v0] w_2 fun t14 w_3 =>
    vextract P t14 0 w_3 fun t15 w_4 =>
    vextract P t14 1 w_4 fun t16 w_5 =>
    valloc P T_impl_Cnf w_5 fun t3 w_6 =>
    vstore P T_impl_Cnf t3 t15 w_6 fun _ w_7 =>
    vload P T_impl_Cnf t3 w_7 fun t17 w_8 =>
    vcall P n_impl_SatRun #[t17, t16] w_8 fun t19 w_9 =>
    valloc P T_impl_Sat w_9 fun t5 w_10 =>
    vstore P T_impl_Sat t5 t19 w_10 fun _ w_11 =>
    vjoin (fun J =>
      vdraw w_11 fun w_13 =>
      vload P T_impl_Sat t5 w_13 fun t20 w_14 => w_14 = w_13 ∧
      vload P T_impl_Cnf t3 w_13 fun t21 w_15 => w_15 = w_13 ∧
      vcall P n_spec_SatRun #[t21, t16] w_13 fun t23 w_16 => (vload P T_impl_Sat t5 w_16 fun v x => v = t20 ∧ x = w_16) ∧
      vcall P n_impl_SatSame #[t20, t23] w_16 fun t24 w_17 =>
      vun P .not t24 w_17 fun t25 w_18 => w_18 = w_17 ∧
      vif t25 (
        vdraw w_17 fun w_19 =>
        vload P T_impl_Sat t5 w_19 fun t31 w_20 => w_20 = w_19 ∧
        vload P T_impl_Cnf t3 w_19 fun t32 w_21 => w_21 = w_19 ∧
        vcall P n_spec_SatRun #[t32, t16] w_19 fun t34 w_22 => (vload P T_impl_Sat t5 w_22 fun v x => v = t31 ∧ x = w_22) ∧
        vcall P n_impl_SatSame #[t31, t34] w_22 fun t35 w_23 =>
        R t35 w_23) (
        vfaddr P T_impl_Sat t5 3 w_17 fun t27 w_24 => w_24 = w_17 ∧
        vload P T_int t27 w_17 fun t28 w_25 => w_25 = w_17 ∧
        vbin P .eql T_int true t28 (.int .i64 4) w_17 fun t29 w_26 => w_26 = w_17 ∧
        vif t29 (
          vdraw w_17 fun w_27 =>
          vload P T_impl_Sat t5 w_27 fun t31_1 w_28 => w_28 = w_27 ∧
          vload P T_impl_Cnf t3 w_27 fun t32_1 w_29 => w_29 = w_27 ∧
          vcall P n_spec_SatRun #[t32_1, t16] w_27 fun t34_1 w_30 => (vload P T_impl_Sat t5 w_30 fun v x => v = t31_1 ∧ x = w_30) ∧
          vcall P n_impl_SatSame #[t31_1, t34_1] w_30 fun t35_1 w_31 =>
          R t35_1 w_31) (
          J [] w_17))) (fun _ _ w_12 =>
      vfaddr P T_impl_Cnf t3 0 w_12 fun t36 w_32 =>
      vload P T_int t36 w_32 fun t37 w_33 =>
      vbuild P T_impl_Cnf [(0, t37)] w_33 fun t38 w_34 =>
      valloc P T_impl_Cnf w_34 fun t6 w_35 =>
      vstore P T_impl_Cnf t6 t38 w_35 fun _ w_36 =>
      vfaddr P T_impl_Cnf t3 1 w_36 fun t39 w_37 =>
      vload P T_LLint t39 w_37 fun t40 w_38 =>
      vbi P .len [T_LLint] T_int [t40] w_38 fun t41 w_39 =>
      vbin P .sub T_int true t41 (.int .i64 1) w_39 fun t42 w_40 =>
      vloop [t42] w_40 fun C u_1 _ w_41 =>
        vbin P .geq T_int true (sl 0 u_1) (.int .i64 0) w_41 fun t44 w_42 =>
        vif t44 (
          vdraw w_42 fun w_43 =>
          vfaddr P T_impl_Cnf t6 1 w_43 fun t47 w_44 => w_44 = w_43 ∧
          vload P T_LLint t47 w_43 fun t48 w_45 => w_45 = w_43 ∧
          vfaddr P T_impl_Cnf t3 1 w_43 fun t49 w_46 => w_46 = w_43 ∧
          vload P T_LLint t49 w_43 fun t50 w_47 => w_47 = w_43 ∧
          viaddr P T_LLint t50 (sl 0 u_1) w_43 fun t52 w_48 => w_48 = w_43 ∧
          vload P T_Lint t52 w_43 fun t53 w_49 => w_49 = w_43 ∧
          vbuildS P T_LLint 1 [(0, t53)] w_43 fun t54 w_50 => (vload P T_LLint t47 w_50 fun v x => v = t48 ∧ x = w_50) ∧ (vfaddr P T_impl_Cnf t6 1 w_50 fun v x => v = t47 ∧ x = w_50) ∧
          vbi P .append [T_LLint, T_LLint] T_LLint [t48, t54] w_50 fun t55 w_51 =>
          vfaddr P T_impl_Cnf t6 1 w_51 fun t56 w_52 => w_52 = w_51 ∧
          vstore P T_LLint t56 t55 w_51 fun _ w_53 =>
          vbin P .sub T_int true (sl 0 u_1) (.int .i64 1) w_53 fun t46 w_54 =>
          C [t46] w_54) (
          vload P T_impl_Cnf t6 w_42 fun t57 w_55 =>
          vcall P n_impl_SatRun #[t57, t16] w_55 fun t59 w_56 =>
          valloc P T_impl_Sat w_56 fun t8 w_57 =>
          vstore P T_impl_Sat t8 t59 w_57 fun _ w_58 =>
          vjoin (fun J_1 =>
            vfaddr P T_impl_Sat t5 3 w_58 fun t60 w_60 =>
            vload P T_int t60 w_60 fun t61 w_61 =>
            vbin P .eql T_int true t61 (.int .i64 0) w_61 fun t62 w_62 =>
            vif t62 (
              R (.bool true) w_62) (
              vfaddr P T_impl_Sat t8 3 w_62 fun t64 w_63 =>
              vload P T_int t64 w_63 fun t65 w_64 =>
              vbin P .eql T_int true t65 (.int .i64 0) w_64 fun t66 w_65 =>
              vif t66 (
                R (.bool true) w_65) (
                vfaddr P T_impl_Sat t5 3 w_65 fun t69 w_66 =>
                vload P T_int t69 w_66 fun t70 w_67 =>
                vbin P .eql T_int true t70 (.int .i64 3) w_67 fun t71 w_68 =>
                vif t71 (
                  R (.bool true) w_68) (
                  vfaddr P T_impl_Sat t8 3 w_68 fun t74 w_69 =>
                  vload P T_int t74 w_69 fun t75 w_70 =>
                  vbin P .eql T_int true t75 (.int .i64 3) w_70 fun t76 w_71 =>
                  vif t76 (
                    R (.bool true) w_71) (
                    J_1 [] w_71))))) (fun _ _ w_59 =>
            vdraw w_59 fun w_72 =>
            vfaddr P T_impl_Sat t5 3 w_72 fun t78 w_73 => w_73 = w_72 ∧
            vload P T_int t78 w_72 fun t79 w_74 => w_74 = w_72 ∧
            vfaddr P T_impl_Sat t8 3 w_72 fun t80 w_75 => w_75 = w_72 ∧
            vload P T_int t80 w_72 fun t81 w_76 => w_76 = w_72 ∧
            vbin P .eql T_int false t79 t81 w_72 fun t82 w_77 => w_77 = w_72 ∧
            vif t82 (
              vfaddr P T_impl_Sat t5 3 w_72 fun t84 w_78 => w_78 = w_72 ∧
              vload P T_int t84 w_72 fun t85 w_79 => w_79 = w_72 ∧
              vbin P .eql T_int true t85 (.int .i64 2) w_72 fun t86 w_80 => w_80 = w_72 ∧
              vif t86 (
                R (.bool true) w_72) (
                vload P T_impl_Cnf t3 w_72 fun t88 w_81 => w_81 = w_72 ∧
                vload P T_impl_Sat t5 w_72 fun t89 w_82 => w_82 = w_72 ∧
                vload P T_impl_Cnf t6 w_72 fun t91 w_83 => w_83 = w_72 ∧
                vload P T_impl_Sat t8 w_72 fun t92 w_84 => w_84 = w_72 ∧
                vcall P n_impl_SatVals #[t88, t89] w_72 fun t90 w_85 => (vload P T_impl_Sat t8 w_85 fun v x => v = t92 ∧ x = w_85) ∧ (vload P T_impl_Cnf t6 w_85 fun v x => v = t91 ∧ x = w_85) ∧
                vcall P n_impl_SatVals #[t91, t92] w_85 fun t93 w_86 =>
                vcall P n_laws_wpBools #[t90, t93] w_86 fun t94 w_87 =>
                R t94 w_87)) (
              R (.bool false) w_72)))))
def A_laws_FnSatTurn : Ann := { ord := [(5, [0, 1, 2, 3, 4, 5, 6, 7, 8, 9, 10], [(0, [4, 5, 6, 7, 8, 9, 10]), (1, [3, 4, 5, 6, 7, 8, 9, 10]), (2, [3, 4, 5, 6, 7, 8, 9, 10]), (3, [4, 5, 6, 7, 8, 9, 10]), (4, [5, 6, 7, 8, 9, 10]), (5, [6, 7, 8, 9, 10]), (6, [7, 8, 9, 10]), (7, [8, 9, 10]), (8, [9, 10]), (9, [10])]), (6, [0, 1, 2, 3, 4, 5], [(0, [4, 5]), (1, [3, 4, 5]), (2, [3, 4, 5]), (3, [4, 5]), (4, [5])]), (11, [0, 1, 2, 3, 4, 5, 6, 7, 8, 9, 10], [(0, [1, 8, 9, 10]), (1, [8, 9, 10]), (2, [3, 5, 6, 7, 8, 9, 10]), (3, [5, 6, 7, 8, 9, 10]), (4, [5, 6, 7, 8, 9, 10]), (5, [6, 7, 8, 9, 10]), (6, [7, 8, 9, 10]), (7, [8, 9, 10]), (8, [9, 10]), (9, [10])]), (15, [0, 1, 2, 3, 4, 5, 6, 7, 8, 9, 10, 11, 13, 14, 12, 15, 16, 17, 18, 19], [(0, [1, 4, 5, 6, 7, 8, 9, 10, 11, 13, 14, 12, 15, 16, 17, 18, 19]), (1, [4, 5, 6, 7, 8, 9, 10, 11, 13, 14, 12, 15, 16, 17, 18, 19]), (2, [3, 4, 5, 6, 7, 8, 9, 10, 11, 13, 14, 12, 15, 16, 17, 18, 19]), (3, [4, 5, 6, 7, 8, 9, 10, 11, 13, 14, 12, 15, 16, 17, 18, 19]), (4, [5, 6, 7, 8, 9, 10, 11, 13, 14, 12, 15, 16, 17, 18, 19]), (5, [6, 7, 8, 9, 10, 11, 13, 14, 12, 15, 16, 17, 18, 19]), (6, [7, 8, 9, 10, 11, 13, 14, 12, 15, 16, 17, 18, 19]), (7, [8, 9, 10, 11, 13, 14, 12, 15, 16, 17, 18, 19]), (8, [9, 10, 11, 13, 14, 12, 15, 16, 17, 18, 19]), (9, [10, 11, 13, 14, 12, 15, 16, 17, 18, 19]), (10, [12, 15, 16, 17, 18, 19]), (11, [12, 15, 16, 17, 18, 19]), (13, [15, 16, 17, 18, 19]), (14, [15, 16, 17, 18, 19]), (12, [15, 16, 17, 18, 19]), (15, [16, 17, 18, 19]), (16, [17, 18, 19]), (17, [18, 19]), (18, [19])])], loops := [(9, [7])], cuts := [(24583, []), (57359, [])] }
theorem k_laws_FnSatTurn (v0 : Value) (w : World) (R : Value → World → Prop) : vc PP A_laws_FnSatTurn ((Try.f5.body).getD .skip) (retF PP Try.f5.results.toList R) (nthV [v0]) w = F_laws_FnSatTurn PP v0 w R := by kernel_rfl
theorem c_laws_FnSatTurn {v0 : Value} {w : World} {R : Value → World → Prop} (h : F_laws_FnSatTurn PP v0 w R) : vcall PP n_laws_FnSatTurn #[v0] w R :=
  call_of_vc (T := A_laws_FnSatTurn) (c := (Try.f5.body).getD .skip) (n := 97) mixed Try.func5 rfl rfl (by kernel_rfl) (by kernel_rfl) rfl (by rw [k_laws_FnSatTurn]; exact h)

/-- laws.FnSatLess -/
def F_laws_FnSatLess (P : Program) (v0 v1 : Value) (w : World) (R : Value → World → Prop) : Prop :=
  vjoin (fun J =>
    vbi P .len [T_Luint8] T_int [v0] w fun t14 w_2 =>
    vbin P .gtr T_int true t14 (.int .i64 1048576) w_2 fun t15 w_3 =>
    vif t15 (
      R (.bool true) w_3) (
      vbi P .len [T_Luint8] T_int [v1] w_3 fun t18 w_4 =>
      vbin P .gtr T_int true t18 (.int .i64 1048576) w_4 fun t19 w_5 =>
      vif t19 (
        R (.bool true) w_5) (
        J [] w_5))) (fun _ _ w_1 =>
    vcall P n_spec_DrawSatRun #[v0] w_1 fun t23 w_6 =>
    vextract P t23 0 w_6 fun t24 w_7 =>
    vextract P t23 1 w_7 fun t25 w_8 =>
    valloc P T_impl_Cnf w_8 fun t5 w_9 =>
    vstore P T_impl_Cnf t5 t24 w_9 fun _ w_10 =>
    vload P T_impl_Cnf t5 w_10 fun t26 w_11 =>
    vcall P n_impl_SatRun #[t26, t25] w_11 fun t28 w_12 =>
    valloc P T_impl_Sat w_12 fun t7 w_13 =>
    vstore P T_impl_Sat t7 t28 w_13 fun _ w_14 =>
    vjoin (fun J_1 =>
      vdraw w_14 fun w_16 =>
      vload P T_impl_Sat t7 w_16 fun t29 w_17 => w_17 = w_16 ∧
      vload P T_impl_Cnf t5 w_16 fun t30 w_18 => w_18 = w_16 ∧
      vcall P n_spec_SatRun #[t30, t25] w_16 fun t32 w_19 => (vload P T_impl_Sat t7 w_19 fun v x => v = t29 ∧ x = w_19) ∧
      vcall P n_impl_SatSame #[t29, t32] w_19 fun t33 w_20 =>
      vun P .not t33 w_20 fun t34 w_21 => w_21 = w_20 ∧
      vif t34 (
        vdraw w_20 fun w_22 =>
        vload P T_impl_Sat t7 w_22 fun t46 w_23 => w_23 = w_22 ∧
        vload P T_impl_Cnf t5 w_22 fun t47 w_24 => w_24 = w_22 ∧
        vcall P n_spec_SatRun #[t47, t25] w_22 fun t49 w_25 => (vload P T_impl_Sat t7 w_25 fun v x => v = t46 ∧ x = w_25) ∧
        vcall P n_impl_SatSame #[t46, t49] w_25 fun t50 w_26 =>
        R t50 w_26) (
        vfaddr P T_impl_Sat t7 3 w_20 fun t36 w_27 => w_27 = w_20 ∧
        vload P T_int t36 w_20 fun t37 w_28 => w_28 = w_20 ∧
        vbin P .neq T_int true t37 (.int .i64 1) w_20 fun t38 w_29 => w_29 = w_20 ∧
        vif t38 (
          vdraw w_20 fun w_30 =>
          vload P T_impl_Sat t7 w_30 fun t46_1 w_31 => w_31 = w_30 ∧
          vload P T_impl_Cnf t5 w_30 fun t47_1 w_32 => w_32 = w_30 ∧
          vcall P n_spec_SatRun #[t47_1, t25] w_30 fun t49_1 w_33 => (vload P T_impl_Sat t7 w_33 fun v x => v = t46_1 ∧ x = w_33) ∧
          vcall P n_impl_SatSame #[t46_1, t49_1] w_33 fun t50_1 w_34 =>
          R t50_1 w_34) (
          vfaddr P T_impl_Cnf t5 1 w_20 fun t41 w_35 => w_35 = w_20 ∧
          vload P T_LLint t41 w_20 fun t42 w_36 => w_36 = w_20 ∧
          vbi P .len [T_LLint] T_int [t42] w_20 fun t43 w_37 => w_37 = w_20 ∧
          vbin P .eql T_int true t43 (.int .i64 0) w_20 fun t44 w_38 => w_38 = w_20 ∧
          vif t44 (
            vdraw w_20 fun w_39 =>
            vload P T_impl_Sat t7 w_39 fun t46_2 w_40 => w_40 = w_39 ∧
            vload P T_impl_Cnf t5 w_39 fun t47_2 w_41 => w_41 = w_39 ∧
            vcall P n_spec_SatRun #[t47_2, t25] w_39 fun t49_2 w_42 => (vload P T_impl_Sat t7 w_42 fun v x => v = t46_2 ∧ x = w_42) ∧
            vcall P n_impl_SatSame #[t46_2, t49_2] w_42 fun t50_2 w_43 =>
            R t50_2 w_43) (
            J_1 [] w_20)))) (fun _ _ w_15 =>
      vbi P .len [T_Luint8] T_int [v1] w_15 fun t52 w_44 =>
      vfaddr P T_impl_Cnf t5 1 w_44 fun t53 w_45 =>
      vload P T_LLint t53 w_45 fun t54 w_46 =>
      vbi P .len [T_LLint] T_int [t54] w_46 fun t55 w_47 =>
      vbin P .rem T_int false t52 t55 w_47 fun t56 w_48 =>
      vjoin (fun J_2 =>
        vdraw w_48 fun w_50 =>
        vfaddr P T_impl_Cnf t5 0 w_50 fun t57 w_51 => w_51 = w_50 ∧
        vload P T_int t57 w_50 fun t58 w_52 => w_52 = w_50 ∧
        vfaddr P T_impl_Cnf t5 1 w_50 fun t60 w_53 => w_53 = w_50 ∧
        vload P T_LLint t60 w_50 fun t61 w_54 => w_54 = w_50 ∧
        vslice P T_LLint t61 none (some t56) none w_50 fun t63 w_55 => w_55 = w_50 ∧
        vfaddr P T_impl_Cnf t5 1 w_50 fun t65 w_56 => w_56 = w_50 ∧
        vload P T_LLint t65 w_50 fun t66 w_57 => w_57 = w_50 ∧
        vbin P .add T_int true t56 (.int .i64 1) w_50 fun t68 w_58 => w_58 = w_50 ∧
        vslice P T_LLint t66 (some t68) none none w_50 fun t69 w_59 => w_59 = w_50 ∧
        (vbuildS P T_LLint 0 [] w_50 fun t59 w_60 => (vslice P T_LLint t66 (some t68) none none w_60 fun v x => v = t69 ∧ x = w_60) ∧ (vbin P .add T_int true t56 (.int .i64 1) w_60 fun v x => v = t68 ∧ x = w_60) ∧ (vload P T_LLint t65 w_60 fun v x => v = t66 ∧ x = w_60) ∧ (vfaddr P T_impl_Cnf t5 1 w_60 fun v x => v = t65 ∧ x = w_60) ∧ (vslice P T_LLint t61 none (some t56) none w_60 fun v x => v = t63 ∧ x = w_60) ∧ (vload P T_LLint t60 w_60 fun v x => v = t61 ∧ x = w_60) ∧ (vfaddr P T_impl_Cnf t5 1 w_60 fun v x => v = t60 ∧ x = w_60) ∧ (vload P T_int t57 w_60 fun v x => v = t58 ∧ x = w_60) ∧ (vfaddr P T_impl_Cnf t5 0 w_60 fun v x => v = t57 ∧ x = w_60) ∧
          (vbi P .append [T_LLint, T_LLint] T_LLint [t59, t63] w_60 fun t64 w_61 => (vslice P T_LLint t66 (some t68) none none w_61 fun v x => v = t69 ∧ x = w_61) ∧ (vbin P .add T_int true t56 (.int .i64 1) w_61 fun v x => v = t68 ∧ x = w_61) ∧ (vload P T_LLint t65 w_61 fun v x => v = t66 ∧ x = w_61) ∧ (vfaddr P T_impl_Cnf t5 1 w_61 fun v x => v = t65 ∧ x = w_61) ∧ (vload P T_int t57 w_61 fun v x => v = t58 ∧ x = w_61) ∧ (vfaddr P T_impl_Cnf t5 0 w_61 fun v x => v = t57 ∧ x = w_61) ∧
            (vbi P .append [T_LLint, T_LLint] T_LLint [t64, t69] w_61 fun t70 w_62 => (vload P T_int t57 w_62 fun v x => v = t58 ∧ x = w_62) ∧ (vfaddr P T_impl_Cnf t5 0 w_62 fun v x => v = t57 ∧ x = w_62) ∧
              vbuild P T_impl_Cnf [(0, t58), (1, t70)] w_62 fun t71 w_63 => w_63 = w_62 ∧
              (valloc P T_impl_Cnf w_62 fun t9 w_64 => (vbuild P T_impl_Cnf [(0, t58), (1, t70)] w_64 fun v x => v = t71 ∧ x = w_64) ∧ (vload P T_int t57 w_64 fun v x => v = t58 ∧ x = w_64) ∧ (vfaddr P T_impl_Cnf t5 0 w_64 fun v x => v = t57 ∧ x = w_64) ∧
                (vstore P T_impl_Cnf t9 t71 w_64 fun _ w_65 =>
                  J_2 [t9] w_65) ∧
                True) ∧
              True) ∧
            (valloc P T_impl_Cnf w_61 fun t9_1 w_66 => (vslice P T_LLint t66 (some t68) none none w_66 fun v x => v = t69 ∧ x = w_66) ∧ (vbin P .add T_int true t56 (.int .i64 1) w_66 fun v x => v = t68 ∧ x = w_66) ∧ (vload P T_LLint t65 w_66 fun v x => v = t66 ∧ x = w_66) ∧ (vfaddr P T_impl_Cnf t5 1 w_66 fun v x => v = t65 ∧ x = w_66) ∧ (vload P T_int t57 w_66 fun v x => v = t58 ∧ x = w_66) ∧ (vfaddr P T_impl_Cnf t5 0 w_66 fun v x => v = t57 ∧ x = w_66) ∧
              (vbi P .append [T_LLint, T_LLint] T_LLint [t64, t69] w_66 fun t70_1 w_67 => (vload P T_int t57 w_67 fun v x => v = t58 ∧ x = w_67) ∧ (vfaddr P T_impl_Cnf t5 0 w_67 fun v x => v = t57 ∧ x = w_67) ∧
                vbuild P T_impl_Cnf [(0, t58), (1, t70_1)] w_67 fun t71_1 w_68 => w_68 = w_67 ∧
                (vstore P T_impl_Cnf t9_1 t71_1 w_67 fun _ w_69 =>
                  J_2 [t9_1] w_69) ∧
                True) ∧
              True) ∧
            True) ∧
          (valloc P T_impl_Cnf w_60 fun t9_2 w_70 => (vslice P T_LLint t66 (some t68) none none w_70 fun v x => v = t69 ∧ x = w_70) ∧ (vbin P .add T_int true t56 (.int .i64 1) w_70 fun v x => v = t68 ∧ x = w_70) ∧ (vload P T_LLint t65 w_70 fun v x => v = t66 ∧ x = w_70) ∧ (vfaddr P T_impl_Cnf t5 1 w_70 fun v x => v = t65 ∧ x = w_70) ∧ (vslice P T_LLint t61 none (some t56) none w_70 fun v x => v = t63 ∧ x = w_70) ∧ (vload P T_LLint t60 w_70 fun v x => v = t61 ∧ x = w_70) ∧ (vfaddr P T_impl_Cnf t5 1 w_70 fun v x => v = t60 ∧ x = w_70) ∧ (vload P T_int t57 w_70 fun v x => v = t58 ∧ x = w_70) ∧ (vfaddr P T_impl_Cnf t5 0 w_70 fun v x => v = t57 ∧ x = w_70) ∧
            (vbi P .append [T_LLint, T_LLint] T_LLint [t59, t63] w_70 fun t64_1 w_71 => (vslice P T_LLint t66 (some t68) none none w_71 fun v x => v = t69 ∧ x = w_71) ∧ (vbin P .add T_int true t56 (.int .i64 1) w_71 fun v x => v = t68 ∧ x = w_71) ∧ (vload P T_LLint t65 w_71 fun v x => v = t66 ∧ x = w_71) ∧ (vfaddr P T_impl_Cnf t5 1 w_71 fun v x => v = t65 ∧ x = w_71) ∧ (vload P T_int t57 w_71 fun v x => v = t58 ∧ x = w_71) ∧ (vfaddr P T_impl_Cnf t5 0 w_71 fun v x => v = t57 ∧ x = w_71) ∧
              (vbi P .append [T_LLint, T_LLint] T_LLint [t64_1, t69] w_71 fun t70_2 w_72 => (vload P T_int t57 w_72 fun v x => v = t58 ∧ x = w_72) ∧ (vfaddr P T_impl_Cnf t5 0 w_72 fun v x => v = t57 ∧ x = w_72) ∧
                vbuild P T_impl_Cnf [(0, t58), (1, t70_2)] w_72 fun t71_2 w_73 => w_73 = w_72 ∧
                (vstore P T_impl_Cnf t9_2 t71_2 w_72 fun _ w_74 =>
                  J_2 [t9_2] w_74) ∧
                True) ∧
              True) ∧
            True) ∧
          True) ∧
        (valloc P T_impl_Cnf w_50 fun t9_3 w_75 => (vslice P T_LLint t66 (some t68) none none w_75 fun v x => v = t69 ∧ x = w_75) ∧ (vbin P .add T_int true t56 (.int .i64 1) w_75 fun v x => v = t68 ∧ x = w_75) ∧ (vload P T_LLint t65 w_75 fun v x => v = t66 ∧ x = w_75) ∧ (vfaddr P T_impl_Cnf t5 1 w_75 fun v x => v = t65 ∧ x = w_75) ∧ (vslice P T_LLint t61 none (some t56) none w_75 fun v x => v = t63 ∧ x = w_75) ∧ (vload P T_LLint t60 w_75 fun v x => v = t61 ∧ x = w_75) ∧ (vfaddr P T_impl_Cnf t5 1 w_75 fun v x => v = t60 ∧ x = w_75) ∧ (vload P T_int t57 w_75 fun v x => v = t58 ∧ x = w_75) ∧ (vfaddr P T_impl_Cnf t5 0 w_75 fun v x => v = t57 ∧ x = w_75) ∧
          (vbuildS P T_LLint 0 [] w_75 fun t59_1 w_76 => (vslice P T_LLint t66 (some t68) none none w_76 fun v x => v = t69 ∧ x = w_76) ∧ (vbin P .add T_int true t56 (.int .i64 1) w_76 fun v x => v = t68 ∧ x = w_76) ∧ (vload P T_LLint t65 w_76 fun v x => v = t66 ∧ x = w_76) ∧ (vfaddr P T_impl_Cnf t5 1 w_76 fun v x => v = t65 ∧ x = w_76) ∧ (vslice P T_LLint t61 none (some t56) none w_76 fun v x => v = t63 ∧ x = w_76) ∧ (vload P T_LLint t60 w_76 fun v x => v = t61 ∧ x = w_76) ∧ (vfaddr P T_impl_Cnf t5 1 w_76 fun v x => v = t60 ∧ x = w_76) ∧ (vload P T_int t57 w_76 fun v x => v = t58 ∧ x = w_76) ∧ (vfaddr P T_impl_Cnf t5 0 w_76 fun v x => v = t57 ∧ x = w_76) ∧
            (vbi P .append [T_LLint, T_LLint] T_LLint [t59_1, t63] w_76 fun t64_2 w_77 => (vslice P T_LLint t66 (some t68) none none w_77 fun v x => v = t69 ∧ x = w_77) ∧ (vbin P .add T_int true t56 (.int .i64 1) w_77 fun v x => v = t68 ∧ x = w_77) ∧ (vload P T_LLint t65 w_77 fun v x => v = t66 ∧ x = w_77) ∧ (vfaddr P T_impl_Cnf t5 1 w_77 fun v x => v = t65 ∧ x = w_77) ∧ (vload P T_int t57 w_77 fun v x => v = t58 ∧ x = w_77) ∧ (vfaddr P T_impl_Cnf t5 0 w_77 fun v x => v = t57 ∧ x = w_77) ∧
              (vbi P .append [T_LLint, T_LLint] T_LLint [t64_2, t69] w_77 fun t70_3 w_78 => (vload P T_int t57 w_78 fun v x => v = t58 ∧ x = w_78) ∧ (vfaddr P T_impl_Cnf t5 0 w_78 fun v x => v = t57 ∧ x = w_78) ∧
                vbuild P T_impl_Cnf [(0, t58), (1, t70_3)] w_78 fun t71_3 w_79 => w_79 = w_78 ∧
                (vstore P T_impl_Cnf t9_3 t71_3 w_78 fun _ w_80 =>
                  J_2 [t9_3] w_80) ∧
                True) ∧
              True) ∧
            True) ∧
          True) ∧
        True) (fun u_2 _ w_49 =>
        vload P T_impl_Cnf (sl 0 u_2) w_49 fun t72 w_81 =>
        vcall P n_impl_SatRun #[t72, t25] w_81 fun t74 w_82 =>
        valloc P T_impl_Sat w_82 fun t10 w_83 =>
        vstore P T_impl_Sat t10 t74 w_83 fun _ w_84 =>
        vload P T_impl_Cnf t5 w_84 fun t75 w_85 =>
        vload P T_impl_Sat t7 w_85 fun t76 w_86 =>
        vcall P n_impl_SatVals #[t75, t76] w_86 fun t77 w_87 =>
        vload P T_impl_Cnf (sl 0 u_2) w_87 fun t78 w_88 =>
        vload P T_impl_Sat t10 w_88 fun t79 w_89 =>
        vcall P n_impl_SatVals #[t78, t79] w_89 fun t80 w_90 =>
        vfaddr P T_impl_Sat t10 3 w_90 fun t81 w_91 =>
        vload P T_int t81 w_91 fun t82 w_92 =>
        vbin P .neq T_int true t82 (.int .i64 2) w_92 fun t83 w_93 =>
        vif t83 (
          vfaddr P T_impl_Sat t10 3 w_93 fun t85 w_94 =>
          vload P T_int t85 w_94 fun t86 w_95 =>
          vbin P .neq T_int true t86 (.int .i64 1) w_95 fun t87 w_96 =>
          vif t87 (
            R (.bool true) w_96) (
            vcall P n_laws_wpBools #[t77, t80] w_96 fun t91 w_97 =>
            vif t91 (
              R (.bool true) w_97) (
              vcall P n_laws_wpAfter #[t80, t77] w_97 fun t96 w_98 =>
              R t96 w_98))) (
          R (.bool false) w_93))))
def A_laws_FnSatLess : Ann := { ord := [(5, [0, 1, 2, 3, 4, 5, 6, 7, 8, 9, 10, 11, 12, 13, 14, 15, 16], [(0, [4, 5, 6, 7, 8, 9, 10, 11, 12, 13, 14, 15, 16]), (1, [3, 4, 5, 6, 7, 8, 9, 10, 11, 12, 13, 14, 15, 16]), (2, [3, 4, 5, 6, 7, 8, 9, 10, 11, 12, 13, 14, 15, 16]), (3, [4, 5, 6, 7, 8, 9, 10, 11, 12, 13, 14, 15, 16]), (4, [5, 6, 7, 8, 9, 10, 11, 12, 13, 14, 15, 16]), (5, [6, 7, 8, 9, 10, 11, 12, 13, 14, 15, 16]), (6, [7, 8, 9, 10, 11, 12, 13, 14, 15, 16]), (7, [8, 9, 10, 11, 12, 13, 14, 15, 16]), (8, [9, 10, 11, 12, 13, 14, 15, 16]), (9, [10, 11, 12, 13, 14, 15, 16]), (10, [11, 12, 13, 14, 15, 16]), (11, [12, 13, 14, 15, 16]), (12, [13, 14, 15, 16]), (13, [14, 15, 16]), (14, [15, 16]), (15, [16])]), (6, [0, 1, 2, 3, 4, 5], [(0, [4, 5]), (1, [3, 4, 5]), (2, [3, 4, 5]), (3, [4, 5]), (4, [5])])], loops := [], cuts := [(8195, []), (24583, []), (36873, [9])], trees := [(8, (.st 0 (.st 1 (.st 3 (.st 4 (.st 5 (.st 6 (.st 8 (.st 9 (.st 10 (.st 11 (.st 12 (.alt 2 (.alt 7 (.alt 13 (.st 14 (.alt 15 (.alt 16 .nil .no) .no)) (.alt 15 (.alt 13 (.st 14 (.alt 16 .nil .no)) .no) .no)) (.alt 15 (.alt 7 (.alt 13 (.st 14 (.alt 16 .nil .no)) .no) .no) .no)) (.alt 15 (.alt 2 (.alt 7 (.alt 13 (.st 14 (.alt 16 .nil .no)) .no) .no) .no) .no))))))))))))), [(0, [1, 14, 16]), (1, [14, 16]), (2, [7, 13, 14, 16]), (3, [4, 6, 7, 13, 14, 16]), (4, [6, 7, 13, 14, 16]), (5, [6, 7, 13, 14, 16]), (6, [7, 13, 14, 16]), (7, [13, 14, 16]), (8, [9, 12, 13, 14, 16]), (9, [12, 13, 14, 16]), (10, [11, 12, 13, 14, 16]), (11, [12, 13, 14, 16]), (12, [13, 14, 16]), (13, [14, 16]), (14, [16]), (15, [16])])] }
theorem k_laws_FnSatLess (v0 v1 : Value) (w : World) (R : Value → World → Prop) : vc PP A_laws_FnSatLess ((Try.f6.body).getD .skip) (retF PP Try.f6.results.toList R) (nthV [v0, v1]) w = F_laws_FnSatLess PP v0 v1 w R := by kernel_rfl
theorem c_laws_FnSatLess {v0 v1 : Value} {w : World} {R : Value → World → Prop} (h : F_laws_FnSatLess PP v0 v1 w R) : vcall PP n_laws_FnSatLess #[v0, v1] w R :=
  call_of_vc (T := A_laws_FnSatLess) (c := (Try.f6.body).getD .skip) (n := 99) mixed Try.func6 rfl rfl (by kernel_rfl) (by kernel_rfl) rfl (by rw [k_laws_FnSatLess]; exact h)

/-- spec.DrawSatRun -/
def F_spec_DrawSatRun (P : Program) (v0 : Value) (w : World) (R : Value → World → Prop) : Prop :=
  valloc P T_impl_Cnf w fun t2 w_1 =>
  vcall P n_spec_l12Open #[v0] w_1 fun t7 w_2 =>
  vcall P n_spec_l4Cnf #[t7] w_2 fun t10 w_3 =>
  vcall P n_spec_l4Bent #[t7, t10] w_3 fun t11 w_4 =>
  valloc P T_impl_Cnf w_4 fun t5 w_5 =>
  vstore P T_impl_Cnf t5 t11 w_5 fun _ w_6 =>
  vdraw w_6 fun w_7 =>
  vload P T_impl_Cnf t5 w_7 fun t12 w_8 => w_8 = w_7 ∧
  vbuildS P T_Lint 10 [(0, (.int .i64 4000)), (1, (.int .i64 100)), (2, (.int .i64 40)), (3, (.int .i64 20)), (4, (.int .i64 8)), (5, (.int .i64 1)), (6, (.int .i64 0)), (7, (.int .i64 (-1))), (8, (.int .i64 4001)), (9, (.int .i64 300))] w_7 fun t14 w_9 => (vload P T_impl_Cnf t5 w_9 fun v x => v = t12 ∧ x = w_9) ∧
  vcall P n_spec_l12Rd_num #[t7, t14] w_9 fun t15 w_10 => (vload P T_impl_Cnf t5 w_10 fun v x => v = t12 ∧ x = w_10) ∧
  vstore P T_impl_Cnf t2 t12 w_10 fun _ w_11 =>
  vlv P T_impl_Cnf t2 w_11 fun r2 w_12 =>
  R (.tuple #[r2, t15]) w_12
def A_spec_DrawSatRun : Ann := { ord := [(3, [0, 1, 2, 3, 4, 5], [(0, [4, 5]), (1, [3, 4, 5]), (2, [3, 4, 5]), (3, [4, 5]), (4, [5])])], loops := [], cuts := [] }
theorem k_spec_DrawSatRun (v0 : Value) (w : World) (R : Value → World → Prop) : vc PP A_spec_DrawSatRun ((Try.f7.body).getD .skip) (retF PP Try.f7.results.toList R) (nthV [v0]) w = F_spec_DrawSatRun PP v0 w R := by kernel_rfl
theorem c_spec_DrawSatRun {v0 : Value} {w : World} {R : Value → World → Prop} (h : F_spec_DrawSatRun PP v0 w R) : vcall PP n_spec_DrawSatRun #[v0] w R :=
  call_of_vc (T := A_spec_DrawSatRun) (c := (Try.f7.body).getD .skip) (n := 16) mixed Try.func7 rfl rfl (by kernel_rfl) (by kernel_rfl) rfl (by rw [k_spec_DrawSatRun]; exact h)

/-- impl.SatRun -/
def F_impl_SatRun (P : Program) (v0 v1 : Value) (w : World) (R : Value → World → Prop) : Prop :=
  vbox P T_impl_Cnf v0 w fun t2 w_1 =>
  valloc P T_impl_Sat w_1 fun t4 w_2 =>
  vload P T_impl_Cnf t2 w_2 fun t5 w_3 =>
  vcall P n_impl_CnfOk #[t5] w_3 fun t6 w_4 =>
  vun P .not t6 w_4 fun t7 w_5 =>
  vif t7 (
    vbuild P T_impl_Sat [(3, (.int .i64 4))] w_5 fun t16 w_6 =>
    vstore P T_impl_Sat t4 t16 w_6 fun _ w_7 =>
    vlv P T_impl_Sat t4 w_7 fun r4 w_8 =>
    R r4 w_8) (
    vbin P .lss T_int true v1 (.int .i64 0) w_5 fun t10 w_9 =>
    vif t10 (
      vbuild P T_impl_Sat [(3, (.int .i64 4))] w_9 fun t16_1 w_10 =>
      vstore P T_impl_Sat t4 t16_1 w_10 fun _ w_11 =>
      vlv P T_impl_Sat t4 w_11 fun r4_1 w_12 =>
      R r4_1 w_12) (
      vbin P .gtr T_int true v1 (.int .i64 4000) w_9 fun t14 w_13 =>
      vif t14 (
        vbuild P T_impl_Sat [(3, (.int .i64 4))] w_13 fun t16_2 w_14 =>
        vstore P T_impl_Sat t4 t16_2 w_14 fun _ w_15 =>
        vlv P T_impl_Sat t4 w_15 fun r4_2 w_16 =>
        R r4_2 w_16) (
        vload P T_impl_Cnf t2 w_13 fun t17 w_17 =>
        vcall P n_impl_run #[t17, v1] w_17 fun t19 w_18 =>
        vcall P n_impl_search_sat #[t19] w_18 fun t20 w_19 =>
        vstore P T_impl_Sat t4 t20 w_19 fun _ w_20 =>
        vlv P T_impl_Sat t4 w_20 fun r4_3 w_21 =>
        R r4_3 w_21)))
def A_impl_SatRun : Ann := { ord := [], loops := [], cuts := [] }
theorem k_impl_SatRun (v0 v1 : Value) (w : World) (R : Value → World → Prop) : vc PP A_impl_SatRun ((Try.f8.body).getD .skip) (retF PP Try.f8.results.toList R) (nthV [v0, v1]) w = F_impl_SatRun PP v0 v1 w R := by kernel_rfl
theorem c_impl_SatRun {v0 v1 : Value} {w : World} {R : Value → World → Prop} (h : F_impl_SatRun PP v0 v1 w R) : vcall PP n_impl_SatRun #[v0, v1] w R :=
  call_of_vc (T := A_impl_SatRun) (c := (Try.f8.body).getD .skip) (n := 21) mixed Try.func8 rfl rfl (by kernel_rfl) (by kernel_rfl) rfl (by rw [k_impl_SatRun]; exact h)

/-- impl.SatSame -/
def F_impl_SatSame (P : Program) (v0 v1 : Value) (w : World) (R : Value → World → Prop) : Prop :=
  vbox P T_impl_Sat v0 w fun t2 w_1 =>
  vbox P T_impl_Sat v1 w_1 fun t3 w_2 =>
  vfaddr P T_impl_Sat t2 0 w_2 fun t5 w_3 =>
  vload P T_Lint t5 w_3 fun t6 w_4 =>
  vfaddr P T_impl_Sat t3 0 w_4 fun t7 w_5 =>
  vload P T_Lint t7 w_5 fun t8 w_6 =>
  vcall P n_slices_Equal_Lint_int #[t6, t8] w_6 fun t9 w_7 =>
  vif t9 (
    vfaddr P T_impl_Sat t2 1 w_7 fun t11 w_8 =>
    vload P T_Lint t11 w_8 fun t12 w_9 =>
    vfaddr P T_impl_Sat t3 1 w_9 fun t13 w_10 =>
    vload P T_Lint t13 w_10 fun t14 w_11 =>
    vcall P n_slices_Equal_Lint_int #[t12, t14] w_11 fun t15 w_12 =>
    vif t15 (
      vfaddr P T_impl_Sat t2 2 w_12 fun t18 w_13 =>
      vload P T_LLint t18 w_13 fun t19 w_14 =>
      vfaddr P T_impl_Sat t3 2 w_14 fun t20 w_15 =>
      vload P T_LLint t20 w_15 fun t21 w_16 =>
      vcall P n_impl_sameLists #[t19, t21] w_16 fun t22 w_17 =>
      vif t22 (
        vfaddr P T_impl_Sat t2 3 w_17 fun t25 w_18 =>
        vload P T_int t25 w_18 fun t26 w_19 =>
        vfaddr P T_impl_Sat t3 3 w_19 fun t27 w_20 =>
        vload P T_int t27 w_20 fun t28 w_21 =>
        vbin P .eql T_int false t26 t28 w_21 fun t29 w_22 =>
        R t29 w_22) (
        R (.bool false) w_17)) (
      R (.bool false) w_12)) (
    R (.bool false) w_7)
def A_impl_SatSame : Ann := { ord := [], loops := [], cuts := [] }
theorem k_impl_SatSame (v0 v1 : Value) (w : World) (R : Value → World → Prop) : vc PP A_impl_SatSame ((Try.f9.body).getD .skip) (retF PP Try.f9.results.toList R) (nthV [v0, v1]) w = F_impl_SatSame PP v0 v1 w R := by kernel_rfl
theorem c_impl_SatSame {v0 v1 : Value} {w : World} {R : Value → World → Prop} (h : F_impl_SatSame PP v0 v1 w R) : vcall PP n_impl_SatSame #[v0, v1] w R :=
  call_of_vc (T := A_impl_SatSame) (c := (Try.f9.body).getD .skip) (n := 31) mixed Try.func9 rfl rfl (by kernel_rfl) (by kernel_rfl) rfl (by rw [k_impl_SatSame]; exact h)

/-- spec.SatRun -/
def F_spec_SatRun (P : Program) (v0 v1 : Value) (w : World) (R : Value → World → Prop) : Prop :=
  vbox P T_impl_Cnf v0 w fun t2 w_1 =>
  valloc P T_impl_Sat w_1 fun t4 w_2 =>
  vload P T_impl_Cnf t2 w_2 fun t5 w_3 =>
  vcall P n_spec_CnfOk #[t5] w_3 fun t6 w_4 =>
  vun P .not t6 w_4 fun t7 w_5 =>
  vif t7 (
    vbuild P T_impl_Sat [(3, (.int .i64 4))] w_5 fun t16 w_6 =>
    vstore P T_impl_Sat t4 t16 w_6 fun _ w_7 =>
    vlv P T_impl_Sat t4 w_7 fun r4 w_8 =>
    R r4 w_8) (
    vbin P .lss T_int true v1 (.int .i64 0) w_5 fun t10 w_9 =>
    vif t10 (
      vbuild P T_impl_Sat [(3, (.int .i64 4))] w_9 fun t16_1 w_10 =>
      vstore P T_impl_Sat t4 t16_1 w_10 fun _ w_11 =>
      vlv P T_impl_Sat t4 w_11 fun r4_1 w_12 =>
      R r4_1 w_12) (
      vbin P .gtr T_int true v1 (.int .i64 4000) w_9 fun t14 w_13 =>
      vif t14 (
        vbuild P T_impl_Sat [(3, (.int .i64 4))] w_13 fun t16_2 w_14 =>
        vstore P T_impl_Sat t4 t16_2 w_14 fun _ w_15 =>
        vlv P T_impl_Sat t4 w_15 fun r4_2 w_16 =>
        R r4_2 w_16) (
        vload P T_impl_Cnf t2 w_13 fun t17 w_17 =>
        vcall P n_spec_l5Run #[t17, v1] w_17 fun t19 w_18 =>
        vcall P n_spec_l5Copy #[t19] w_18 fun t20 w_19 =>
        vstore P T_impl_Sat t4 t20 w_19 fun _ w_20 =>
        vlv P T_impl_Sat t4 w_20 fun r4_3 w_21 =>
        R r4_3 w_21)))
def A_spec_SatRun : Ann := { ord := [], loops := [], cuts := [] }
theorem k_spec_SatRun (v0 v1 : Value) (w : World) (R : Value → World → Prop) : vc PP A_spec_SatRun ((Try.f10.body).getD .skip) (retF PP Try.f10.results.toList R) (nthV [v0, v1]) w = F_spec_SatRun PP v0 v1 w R := by kernel_rfl
theorem c_spec_SatRun {v0 v1 : Value} {w : World} {R : Value → World → Prop} (h : F_spec_SatRun PP v0 v1 w R) : vcall PP n_spec_SatRun #[v0, v1] w R :=
  call_of_vc (T := A_spec_SatRun) (c := (Try.f10.body).getD .skip) (n := 21) mixed Try.func10 rfl rfl (by kernel_rfl) (by kernel_rfl) rfl (by rw [k_spec_SatRun]; exact h)

/-- impl.CnfOk -/
def F_impl_CnfOk (P : Program) (v0 : Value) (w : World) (R : Value → World → Prop) : Prop :=
  vbox P T_impl_Cnf v0 w fun t1 w_1 =>
  vfaddr P T_impl_Cnf t1 0 w_1 fun t3 w_2 =>
  vload P T_int t3 w_2 fun t4 w_3 =>
  vbin P .lss T_int true t4 (.int .i64 0) w_3 fun t5 w_4 =>
  vif t5 (
    R (.bool false) w_4) (
    vfaddr P T_impl_Cnf t1 0 w_4 fun t7 w_5 =>
    vload P T_int t7 w_5 fun t8 w_6 =>
    vbin P .gtr T_int true t8 (.int .i64 700) w_6 fun t9 w_7 =>
    vif t9 (
      R (.bool false) w_7) (
      vfaddr P T_impl_Cnf t1 1 w_7 fun t12 w_8 =>
      vload P T_LLint t12 w_8 fun t13 w_9 =>
      vbi P .len [T_LLint] T_int [t13] w_9 fun t14 w_10 =>
      vbin P .gtr T_int true t14 (.int .i64 2500) w_10 fun t15 w_11 =>
      vif t15 (
        R (.bool false) w_11) (
        vfaddr P T_impl_Cnf t1 1 w_11 fun t17 w_12 =>
        vload P T_LLint t17 w_12 fun t18 w_13 =>
        vmkF P (.func n_impl_CnfOk_1) [] [t1] w_13 fun t19 w_14 =>
        vcall P n_slices_ContainsFunc_LLint_Lint #[t18, t19] w_14 fun t20 w_15 =>
        vun P .not t20 w_15 fun t21 w_16 =>
        R t21 w_16)))
def A_impl_CnfOk : Ann := { ord := [], loops := [], cuts := [] }
theorem k_impl_CnfOk (v0 : Value) (w : World) (R : Value → World → Prop) : vc PP A_impl_CnfOk ((Try.f11.body).getD .skip) (retF PP Try.f11.results.toList R) (nthV [v0]) w = F_impl_CnfOk PP v0 w R := by kernel_rfl
theorem c_impl_CnfOk {v0 : Value} {w : World} {R : Value → World → Prop} (h : F_impl_CnfOk PP v0 w R) : vcall PP n_impl_CnfOk #[v0] w R :=
  call_of_vc (T := A_impl_CnfOk) (c := (Try.f11.body).getD .skip) (n := 22) mixed Try.func11 rfl rfl (by kernel_rfl) (by kernel_rfl) rfl (by rw [k_impl_CnfOk]; exact h)

/-- impl.SatStep -/
def F_impl_SatStep (P : Program) (v0 v1 : Value) (w : World) (R : Value → World → Prop) : Prop :=
  vbox P T_impl_Cnf v0 w fun t2 w_1 =>
  vbox P T_impl_Sat v1 w_1 fun t3 w_2 =>
  valloc P T_impl_Sat w_2 fun t4 w_3 =>
  vload P T_impl_Cnf t2 w_3 fun t8 w_4 =>
  vload P T_impl_Sat t3 w_4 fun t9 w_5 =>
  vcall P n_impl_readSat #[t8, t9] w_5 fun t10 w_6 =>
  vextract P t10 0 w_6 fun t11 w_7 =>
  vextract P t10 1 w_7 fun t12 w_8 =>
  vun P .not t12 w_8 fun t14 w_9 =>
  vif t14 (
    vbuild P T_impl_Sat [(3, (.int .i64 4))] w_9 fun t15 w_10 =>
    vstore P T_impl_Sat t4 t15 w_10 fun _ w_11 =>
    vlv P T_impl_Sat t4 w_11 fun r4 w_12 =>
    R r4 w_12) (
    vcall P n_impl_search_step #[t11] w_9 fun _ w_13 =>
    vcall P n_impl_search_sat #[t11] w_13 fun t19 w_14 =>
    vstore P T_impl_Sat t4 t19 w_14 fun _ w_15 =>
    vlv P T_impl_Sat t4 w_15 fun r4_1 w_16 =>
    R r4_1 w_16)
def A_impl_SatStep : Ann := { ord := [], loops := [], cuts := [] }
theorem k_impl_SatStep (v0 v1 : Value) (w : World) (R : Value → World → Prop) : vc PP A_impl_SatStep ((Try.f12.body).getD .skip) (retF PP Try.f12.results.toList R) (nthV [v0, v1]) w = F_impl_SatStep PP v0 v1 w R := by kernel_rfl
theorem c_impl_SatStep {v0 v1 : Value} {w : World} {R : Value → World → Prop} (h : F_impl_SatStep PP v0 v1 w R) : vcall PP n_impl_SatStep #[v0, v1] w R :=
  call_of_vc (T := A_impl_SatStep) (c := (Try.f12.body).getD .skip) (n := 20) mixed Try.func12 rfl rfl (by kernel_rfl) (by kernel_rfl) rfl (by rw [k_impl_SatStep]; exact h)

/-- laws.wpInts -/
def F_laws_wpInts (P : Program) (v0 v1 : Value) (w : World) (R : Value → World → Prop) : Prop :=
  vbi P .len [T_Lint] T_int [v0] w fun t7 w_1 =>
  vbi P .len [T_Lint] T_int [v1] w_1 fun t9 w_2 =>
  vbin P .neq T_int false t7 t9 w_2 fun t10 w_3 =>
  vif t10 (
    R (.bool false) w_3) (
    vloop [(.int .i64 0)] w_3 fun C u _ w_4 =>
      vbi P .len [T_Lint] T_int [v0] w_4 fun t13 w_5 =>
      vbin P .lss T_int false (sl 0 u) t13 w_5 fun t14 w_6 =>
      vif t14 (
        vdraw w_6 fun w_7 =>
        viaddr P T_Lint v0 (sl 0 u) w_7 fun t19 w_8 => w_8 = w_7 ∧
        vload P T_int t19 w_7 fun t20 w_9 => w_9 = w_7 ∧
        viaddr P T_Lint v1 (sl 0 u) w_7 fun t23 w_10 => w_10 = w_7 ∧
        vload P T_int t23 w_7 fun t24 w_11 => w_11 = w_7 ∧
        vbin P .neq T_int false t20 t24 w_7 fun t25 w_12 => w_12 = w_7 ∧
        vif t25 (
          R (.bool false) w_7) (
          vbin P .add T_int true (sl 0 u) (.int .i64 1) w_7 fun t16 w_13 =>
          C [t16] w_13)) (
        R (.bool true) w_6))
def A_laws_wpInts : Ann := { ord := [(6, [0, 1, 2, 3, 4, 5, 6, 7, 8], [(0, [2, 3, 8]), (1, [2, 3, 8]), (2, [3, 8]), (3, [8]), (4, [6, 7, 8]), (5, [6, 7, 8]), (6, [7, 8]), (7, [8])])], loops := [(4, [5])], cuts := [] }
theorem k_laws_wpInts (v0 v1 : Value) (w : World) (R : Value → World → Prop) : vc PP A_laws_wpInts ((Try.f13.body).getD .skip) (retF PP Try.f13.results.toList R) (nthV [v0, v1]) w = F_laws_wpInts PP v0 v1 w R := by kernel_rfl
theorem c_laws_wpInts {v0 v1 : Value} {w : World} {R : Value → World → Prop} (h : F_laws_wpInts PP v0 v1 w R) : vcall PP n_laws_wpInts #[v0, v1] w R :=
  call_of_vc (T := A_laws_wpInts) (c := (Try.f13.body).getD .skip) (n := 26) mixed Try.func13 rfl rfl (by kernel_rfl) (by kernel_rfl) rfl (by rw [k_laws_wpInts]; exact h)

/-- impl.SatOk -/
def F_impl_SatOk (P : Program) (v0 v1 : Value) (w : World) (R : Value → World → Prop) : Prop :=
  vbox P T_impl_Cnf v0 w fun t2 w_1 =>
  vbox P T_impl_Sat v1 w_1 fun t3 w_2 =>
  vload P T_impl_Cnf t2 w_2 fun t8 w_3 =>
  vload P T_impl_Sat t3 w_3 fun t9 w_4 =>
  vcall P n_impl_readSat #[t8, t9] w_4 fun t10 w_5 =>
  vextract P t10 0 w_5 fun _ w_6 =>
  vextract P t10 1 w_6 fun t12 w_7 =>
  R t12 w_7
def A_impl_SatOk : Ann := { ord := [], loops := [], cuts := [] }
theorem k_impl_SatOk (v0 v1 : Value) (w : World) (R : Value → World → Prop) : vc PP A_impl_SatOk ((Try.f14.body).getD .skip) (retF PP Try.f14.results.toList R) (nthV [v0, v1]) w = F_impl_SatOk PP v0 v1 w R := by kernel_rfl
theorem c_impl_SatOk {v0 v1 : Value} {w : World} {R : Value → World → Prop} (h : F_impl_SatOk PP v0 v1 w R) : vcall PP n_impl_SatOk #[v0, v1] w R :=
  call_of_vc (T := A_impl_SatOk) (c := (Try.f14.body).getD .skip) (n := 14) mixed Try.func14 rfl rfl (by kernel_rfl) (by kernel_rfl) rfl (by rw [k_impl_SatOk]; exact h)

/-- laws.wpBools -/
def F_laws_wpBools (P : Program) (v0 v1 : Value) (w : World) (R : Value → World → Prop) : Prop :=
  vbi P .len [T_Lbool] T_int [v0] w fun t7 w_1 =>
  vbi P .len [T_Lbool] T_int [v1] w_1 fun t9 w_2 =>
  vbin P .neq T_int false t7 t9 w_2 fun t10 w_3 =>
  vif t10 (
    R (.bool false) w_3) (
    vloop [(.int .i64 0)] w_3 fun C u _ w_4 =>
      vbi P .len [T_Lbool] T_int [v0] w_4 fun t13 w_5 =>
      vbin P .lss T_int false (sl 0 u) t13 w_5 fun t14 w_6 =>
      vif t14 (
        vdraw w_6 fun w_7 =>
        viaddr P T_Lbool v0 (sl 0 u) w_7 fun t19 w_8 => w_8 = w_7 ∧
        vload P T_bool t19 w_7 fun t20 w_9 => w_9 = w_7 ∧
        viaddr P T_Lbool v1 (sl 0 u) w_7 fun t23 w_10 => w_10 = w_7 ∧
        vload P T_bool t23 w_7 fun t24 w_11 => w_11 = w_7 ∧
        vbin P .neq T_bool false t20 t24 w_7 fun t25 w_12 => w_12 = w_7 ∧
        vif t25 (
          R (.bool false) w_7) (
          vbin P .add T_int true (sl 0 u) (.int .i64 1) w_7 fun t16 w_13 =>
          C [t16] w_13)) (
        R (.bool true) w_6))
def A_laws_wpBools : Ann := { ord := [(6, [0, 1, 2, 3, 4, 5, 6, 7, 8], [(0, [2, 3, 8]), (1, [2, 3, 8]), (2, [3, 8]), (3, [8]), (4, [6, 7, 8]), (5, [6, 7, 8]), (6, [7, 8]), (7, [8])])], loops := [(4, [5])], cuts := [] }
theorem k_laws_wpBools (v0 v1 : Value) (w : World) (R : Value → World → Prop) : vc PP A_laws_wpBools ((Try.f15.body).getD .skip) (retF PP Try.f15.results.toList R) (nthV [v0, v1]) w = F_laws_wpBools PP v0 v1 w R := by kernel_rfl
theorem c_laws_wpBools {v0 v1 : Value} {w : World} {R : Value → World → Prop} (h : F_laws_wpBools PP v0 v1 w R) : vcall PP n_laws_wpBools #[v0, v1] w R :=
  call_of_vc (T := A_laws_wpBools) (c := (Try.f15.body).getD .skip) (n := 26) mixed Try.func15 rfl rfl (by kernel_rfl) (by kernel_rfl) rfl (by rw [k_laws_wpBools]; exact h)

/-- impl.SatVals -/
def F_impl_SatVals (P : Program) (v0 v1 : Value) (w : World) (R : Value → World → Prop) : Prop :=
  vbox P T_impl_Cnf v0 w fun t2 w_1 =>
  vbox P T_impl_Sat v1 w_1 fun t3 w_2 =>
  vload P T_impl_Cnf t2 w_2 fun t8 w_3 =>
  vload P T_impl_Sat t3 w_3 fun t9 w_4 =>
  vcall P n_impl_readSat #[t8, t9] w_4 fun t10 w_5 =>
  vextract P t10 0 w_5 fun t11 w_6 =>
  vextract P t10 1 w_6 fun t12 w_7 =>
  vun P .not t12 w_7 fun t14 w_8 =>
  vif t14 (
    R (.slice none 0 0) w_8) (
    vcall P n_impl_search_vals #[t11] w_8 fun t16 w_9 =>
    R t16 w_9)
def A_impl_SatVals : Ann := { ord := [], loops := [], cuts := [] }
theorem k_impl_SatVals (v0 v1 : Value) (w : World) (R : Value → World → Prop) : vc PP A_impl_SatVals ((Try.f16.body).getD .skip) (retF PP Try.f16.results.toList R) (nthV [v0, v1]) w = F_impl_SatVals PP v0 v1 w R := by kernel_rfl
theorem c_impl_SatVals {v0 v1 : Value} {w : World} {R : Value → World → Prop} (h : F_impl_SatVals PP v0 v1 w R) : vcall PP n_impl_SatVals #[v0, v1] w R :=
  call_of_vc (T := A_impl_SatVals) (c := (Try.f16.body).getD .skip) (n := 17) mixed Try.func16 rfl rfl (by kernel_rfl) (by kernel_rfl) rfl (by rw [k_impl_SatVals]; exact h)

/-- laws.wpAfter -/
def F_laws_wpAfter (P : Program) (v0 v1 : Value) (w : World) (R : Value → World → Prop) : Prop :=
  vloop [(.int .i64 0)] w fun C u _ w_1 =>
    vbi P .len [T_Lbool] T_int [v0] w_1 fun t8 w_2 =>
    vbin P .lss T_int false (sl 0 u) t8 w_2 fun t9 w_3 =>
    vif t9 (
      vdraw w_3 fun w_4 =>
      viaddr P T_Lbool v0 (sl 0 u) w_4 fun t14 w_5 => w_5 = w_4 ∧
      vload P T_bool t14 w_4 fun t15 w_6 => w_6 = w_4 ∧
      viaddr P T_Lbool v1 (sl 0 u) w_4 fun t18 w_7 => w_7 = w_4 ∧
      vload P T_bool t18 w_4 fun t19 w_8 => w_8 = w_4 ∧
      vbin P .neq T_bool false t15 t19 w_4 fun t20 w_9 => w_9 = w_4 ∧
      vif t20 (
        viaddr P T_Lbool v1 (sl 0 u) w_4 fun t23 w_10 =>
        vload P T_bool t23 w_10 fun t24 w_11 =>
        R t24 w_11) (
        vbin P .add T_int true (sl 0 u) (.int .i64 1) w_4 fun t11 w_12 =>
        C [t11] w_12)) (
      R (.bool false) w_3)
def A_laws_wpAfter : Ann := { ord := [(4, [0, 1, 2, 3, 4, 5, 6, 7, 8], [(0, [2, 3, 8]), (1, [2, 3, 8]), (2, [3, 8]), (3, [8]), (4, [6, 7, 8]), (5, [6, 7, 8]), (6, [7, 8]), (7, [8])])], loops := [(2, [5])], cuts := [] }
theorem k_laws_wpAfter (v0 v1 : Value) (w : World) (R : Value → World → Prop) : vc PP A_laws_wpAfter ((Try.f17.body).getD .skip) (retF PP Try.f17.results.toList R) (nthV [v0, v1]) w = F_laws_wpAfter PP v0 v1 w R := by kernel_rfl
theorem c_laws_wpAfter {v0 v1 : Value} {w : World} {R : Value → World → Prop} (h : F_laws_wpAfter PP v0 v1 w R) : vcall PP n_laws_wpAfter #[v0, v1] w R :=
  call_of_vc (T := A_laws_wpAfter) (c := (Try.f17.body).getD .skip) (n := 25) mixed Try.func17 rfl rfl (by kernel_rfl) (by kernel_rfl) rfl (by rw [k_laws_wpAfter]; exact h)

/-- spec.l12Open -/
def F_spec_l12Open (P : Program) (v0 : Value) (w : World) (R : Value → World → Prop) : Prop :=
  vbi P .len [T_Luint8] T_int [v0] w fun t4 w_1 =>
  vbin P .gtr T_int true t4 (.int .i64 2000) w_1 fun t5 w_2 =>
  vif t5 (
    vslice P T_Luint8 v0 none (some (.int .i64 2000)) none w_2 fun t7 w_3 =>
    vbuild P T_spec_l12Rd [(0, t7)] w_3 fun t9 w_4 =>
    vbox P T_spec_l12Rd t9 w_4 fun t10 w_5 =>
    R t10 w_5) (
    vbuild P T_spec_l12Rd [(0, v0)] w_2 fun t9_1 w_6 =>
    vbox P T_spec_l12Rd t9_1 w_6 fun t10_1 w_7 =>
    R t10_1 w_7)
def A_spec_l12Open : Ann := { ord := [], loops := [], cuts := [] }
theorem k_spec_l12Open (v0 : Value) (w : World) (R : Value → World → Prop) : vc PP A_spec_l12Open ((Try.f18.body).getD .skip) (retF PP Try.f18.results.toList R) (nthV [v0]) w = F_spec_l12Open PP v0 w R := by kernel_rfl
theorem c_spec_l12Open {v0 : Value} {w : World} {R : Value → World → Prop} (h : F_spec_l12Open PP v0 w R) : vcall PP n_spec_l12Open #[v0] w R :=
  call_of_vc (T := A_spec_l12Open) (c := (Try.f18.body).getD .skip) (n := 11) mixed Try.func18 rfl rfl (by kernel_rfl) (by kernel_rfl) rfl (by rw [k_spec_l12Open]; exact h)

/-- spec.l4Bent -/
def F_spec_l4Bent (P : Program) (v0 v1 : Value) (w : World) (R : Value → World → Prop) : Prop :=
  vbox P T_impl_Cnf v1 w fun t3 w_1 =>
  valloc P T_impl_Cnf w_1 fun t4 w_2 =>
  vbuildS P T_LLint 0 [] w_2 fun t6 w_3 =>
  vfaddr P T_impl_Cnf t3 1 w_3 fun t7 w_4 =>
  vload P T_LLint t7 w_4 fun t8 w_5 =>
  vbi P .append [T_LLint, T_LLint] T_LLint [t6, t8] w_5 fun t9 w_6 =>
  vcall P n_spec_l12Rd_pick #[v0, (.int .i64 60)] w_6 fun t11 w_7 =>
  vbin P .eql T_int true t11 (.int .i64 0) w_7 fun t13 w_8 =>
  vif t13 (
    vfaddr P T_impl_Cnf t3 0 w_8 fun t15 w_9 =>
    vload P T_int t15 w_9 fun t16 w_10 =>
    vbin P .add T_int true t16 (.int .i64 1) w_10 fun t17 w_11 =>
    vbuildS P T_Lint 1 [(0, t17)] w_11 fun t18 w_12 =>
    vbuildS P T_LLint 1 [(0, t18)] w_12 fun t19 w_13 =>
    vbi P .append [T_LLint, T_LLint] T_LLint [t9, t19] w_13 fun t20 w_14 =>
    vfaddr P T_impl_Cnf t3 1 w_14 fun t21 w_15 =>
    vstore P T_LLint t21 t20 w_15 fun _ w_16 =>
    vload P T_impl_Cnf t3 w_16 fun t59 w_17 =>
    vstore P T_impl_Cnf t4 t59 w_17 fun _ w_18 =>
    vlv P T_impl_Cnf t4 w_18 fun r4 w_19 =>
    R r4 w_19) (
    vbin P .eql T_int true t11 (.int .i64 1) w_8 fun t23 w_20 =>
    vif t23 (
      vbuildS P T_Lint 2 [(0, (.int .i64 1)), (1, (.int .i64 (-1)))] w_20 fun t25 w_21 =>
      vbuildS P T_LLint 1 [(0, t25)] w_21 fun t26 w_22 =>
      vbi P .append [T_LLint, T_LLint] T_LLint [t9, t26] w_22 fun t27 w_23 =>
      vfaddr P T_impl_Cnf t3 1 w_23 fun t28 w_24 =>
      vstore P T_LLint t28 t27 w_24 fun _ w_25 =>
      vload P T_impl_Cnf t3 w_25 fun t59_1 w_26 =>
      vstore P T_impl_Cnf t4 t59_1 w_26 fun _ w_27 =>
      vlv P T_impl_Cnf t4 w_27 fun r4_1 w_28 =>
      R r4_1 w_28) (
      vbin P .eql T_int true t11 (.int .i64 2) w_20 fun t30 w_29 =>
      vif t30 (
        vbuildS P T_Lint 1 [(0, (.int .i64 0))] w_29 fun t32 w_30 =>
        vbuildS P T_LLint 1 [(0, t32)] w_30 fun t33 w_31 =>
        vbi P .append [T_LLint, T_LLint] T_LLint [t9, t33] w_31 fun t34 w_32 =>
        vfaddr P T_impl_Cnf t3 1 w_32 fun t35 w_33 =>
        vstore P T_LLint t35 t34 w_33 fun _ w_34 =>
        vload P T_impl_Cnf t3 w_34 fun t59_2 w_35 =>
        vstore P T_impl_Cnf t4 t59_2 w_35 fun _ w_36 =>
        vlv P T_impl_Cnf t4 w_36 fun r4_2 w_37 =>
        R r4_2 w_37) (
        vbin P .eql T_int true t11 (.int .i64 3) w_29 fun t37 w_38 =>
        vif t37 (
          vfaddr P T_impl_Cnf t3 0 w_38 fun t39 w_39 =>
          vload P T_int t39 w_39 fun t40 w_40 =>
          vbin P .add T_int true t40 (.int .i64 3) w_40 fun t41 w_41 =>
          vbuildS P T_Lint 5 [(0, (.int .i64 (-1))), (1, (.int .i64 0)), (2, (.int .i64 701)), (3, (.int .i64 9223372036854775807)), (4, t41)] w_41 fun t42 w_42 =>
          vcall P n_spec_l12Rd_num #[v0, t42] w_42 fun t43 w_43 =>
          vfaddr P T_impl_Cnf t3 0 w_43 fun t44 w_44 =>
          vstore P T_int t44 t43 w_44 fun _ w_45 =>
          vload P T_impl_Cnf t3 w_45 fun t59_3 w_46 =>
          vstore P T_impl_Cnf t4 t59_3 w_46 fun _ w_47 =>
          vlv P T_impl_Cnf t4 w_47 fun r4_3 w_48 =>
          R r4_3 w_48) (
          vbin P .eql T_int true t11 (.int .i64 4) w_38 fun t46 w_49 =>
          vif t46 (
            vbuildS P T_Lint 1 [(0, (.int .i64 (-9223372036854775808)))] w_49 fun t48 w_50 =>
            vbuildS P T_LLint 1 [(0, t48)] w_50 fun t49 w_51 =>
            vbi P .append [T_LLint, T_LLint] T_LLint [t9, t49] w_51 fun t50 w_52 =>
            vfaddr P T_impl_Cnf t3 1 w_52 fun t51 w_53 =>
            vstore P T_LLint t51 t50 w_53 fun _ w_54 =>
            vload P T_impl_Cnf t3 w_54 fun t59_4 w_55 =>
            vstore P T_impl_Cnf t4 t59_4 w_55 fun _ w_56 =>
            vlv P T_impl_Cnf t4 w_56 fun r4_4 w_57 =>
            R r4_4 w_57) (
            vbin P .eql T_int true t11 (.int .i64 5) w_49 fun t53 w_58 =>
            vif t53 (
              vbuildS P T_Lint 2 [(0, (.int .i64 2)), (1, (.int .i64 1))] w_58 fun t55 w_59 =>
              vbuildS P T_LLint 1 [(0, t55)] w_59 fun t56 w_60 =>
              vbi P .append [T_LLint, T_LLint] T_LLint [t9, t56] w_60 fun t57 w_61 =>
              vfaddr P T_impl_Cnf t3 1 w_61 fun t58 w_62 =>
              vstore P T_LLint t58 t57 w_62 fun _ w_63 =>
              vload P T_impl_Cnf t3 w_63 fun t59_5 w_64 =>
              vstore P T_impl_Cnf t4 t59_5 w_64 fun _ w_65 =>
              vlv P T_impl_Cnf t4 w_65 fun r4_5 w_66 =>
              R r4_5 w_66) (
              vload P T_impl_Cnf t3 w_58 fun t59_6 w_67 =>
              vstore P T_impl_Cnf t4 t59_6 w_67 fun _ w_68 =>
              vlv P T_impl_Cnf t4 w_68 fun r4_6 w_69 =>
              R r4_6 w_69))))))
def A_spec_l4Bent : Ann := { ord := [], loops := [], cuts := [] }
theorem k_spec_l4Bent (v0 v1 : Value) (w : World) (R : Value → World → Prop) : vc PP A_spec_l4Bent ((Try.f19.body).getD .skip) (retF PP Try.f19.results.toList R) (nthV [v0, v1]) w = F_spec_l4Bent PP v0 v1 w R := by kernel_rfl
theorem c_spec_l4Bent {v0 v1 : Value} {w : World} {R : Value → World → Prop} (h : F_spec_l4Bent PP v0 v1 w R) : vcall PP n_spec_l4Bent #[v0, v1] w R :=
  call_of_vc (T := A_spec_l4Bent) (c := (Try.f19.body).getD .skip) (n := 60) mixed Try.func19 rfl rfl (by kernel_rfl) (by kernel_rfl) rfl (by rw [k_spec_l4Bent]; exact h)

/-- spec.l4Cnf -/
def F_spec_l4Cnf (P : Program) (v0 : Value) (w : World) (R : Value → World → Prop) : Prop :=
  valloc P T_impl_Cnf w fun t2 w_1 =>
  vcall P n_spec_l12Rd_pick #[v0, (.int .i64 7)] w_1 fun t9 w_2 =>
  vbin P .add T_int true (.int .i64 1) t9 w_2 fun t10 w_3 =>
  vbuild P T_impl_Cnf [(0, t10)] w_3 fun t11 w_4 =>
  valloc P T_impl_Cnf w_4 fun t3 w_5 =>
  vstore P T_impl_Cnf t3 t11 w_5 fun _ w_6 =>
  vbuildS P T_Lint 7 [(0, (.int .i64 3)), (1, (.int .i64 6)), (2, (.int .i64 10)), (3, (.int .i64 16)), (4, (.int .i64 24)), (5, (.int .i64 30)), (6, (.int .i64 20))] w_6 fun t13 w_7 =>
  vcall P n_spec_l12Rd_num #[v0, t13] w_7 fun t14 w_8 =>
  vcall P n_spec_l12Rd_pick #[v0, (.int .i64 2)] w_8 fun t16 w_9 =>
  vbin P .add T_int true (.int .i64 2) t16 w_9 fun t17 w_10 =>
  vloop [(.int .i64 0)] w_10 fun C u _ w_11 =>
    vbin P .lss T_int false (sl 0 u) t14 w_11 fun t20 w_12 =>
    vif t20 (
      vfaddr P T_impl_Cnf t3 0 w_12 fun t24 w_13 =>
      vload P T_int t24 w_13 fun t25 w_14 =>
      vcall P n_spec_l4Draw #[v0, t25, t17] w_14 fun t27 w_15 =>
      vjoin (fun J =>
        vbi P .len [T_Lint] T_int [t27] w_15 fun t29 w_17 =>
        vbin P .gtr T_int true t29 (.int .i64 0) w_17 fun t30 w_18 =>
        vif t30 (
          J [(.bool true)] w_18) (
          vcall P n_spec_l12Rd_pick #[v0, (.int .i64 40)] w_18 fun t33 w_19 =>
          vbin P .eql T_int true t33 (.int .i64 0) w_19 fun t34 w_20 =>
          J [t34] w_20)) (fun u_1 _ w_16 =>
        vif (sl 0 u_1) (
          vfaddr P T_impl_Cnf t3 1 w_16 fun t36 w_21 =>
          vload P T_LLint t36 w_21 fun t37 w_22 =>
          vbuildS P T_LLint 1 [(0, t27)] w_22 fun t39 w_23 =>
          vbi P .append [T_LLint, T_LLint] T_LLint [t37, t39] w_23 fun t40 w_24 =>
          vfaddr P T_impl_Cnf t3 1 w_24 fun t41 w_25 =>
          vstore P T_LLint t41 t40 w_25 fun _ w_26 =>
          vbin P .add T_int true (sl 0 u) (.int .i64 1) w_26 fun t22 w_27 =>
          C [t22] w_27) (
          vbin P .add T_int true (sl 0 u) (.int .i64 1) w_16 fun t22_1 w_28 =>
          C [t22_1] w_28))) (
      vload P T_impl_Cnf t3 w_12 fun t42 w_29 =>
      vstore P T_impl_Cnf t2 t42 w_29 fun _ w_30 =>
      vlv P T_impl_Cnf t2 w_30 fun r2 w_31 =>
      R r2 w_31)
def A_spec_l4Cnf : Ann := { ord := [], loops := [(5, [6])], cuts := [(36873, [35])] }
theorem k_spec_l4Cnf (v0 : Value) (w : World) (R : Value → World → Prop) : vc PP A_spec_l4Cnf ((Try.f20.body).getD .skip) (retF PP Try.f20.results.toList R) (nthV [v0]) w = F_spec_l4Cnf PP v0 w R := by kernel_rfl
theorem c_spec_l4Cnf {v0 : Value} {w : World} {R : Value → World → Prop} (h : F_spec_l4Cnf PP v0 w R) : vcall PP n_spec_l4Cnf #[v0] w R :=
  call_of_vc (T := A_spec_l4Cnf) (c := (Try.f20.body).getD .skip) (n := 43) mixed Try.func20 rfl rfl (by kernel_rfl) (by kernel_rfl) rfl (by rw [k_spec_l4Cnf]; exact h)

/-- (*spec.l12Rd).num -/
def F_spec_l12Rd_num (P : Program) (v0 v1 : Value) (w : World) (R : Value → World → Prop) : Prop :=
  vbi P .len [T_Lint] T_int [v1] w fun t8 w_1 =>
  vcall P n_spec_l12Rd_pick #[v0, t8] w_1 fun t9 w_2 =>
  viaddr P T_Lint v1 t9 w_2 fun t10 w_3 =>
  vload P T_int t10 w_3 fun t11 w_4 =>
  R t11 w_4
def A_spec_l12Rd_num : Ann := { ord := [], loops := [], cuts := [] }
theorem k_spec_l12Rd_num (v0 v1 : Value) (w : World) (R : Value → World → Prop) : vc PP A_spec_l12Rd_num ((Try.f21.body).getD .skip) (retF PP Try.f21.results.toList R) (nthV [v0, v1]) w = F_spec_l12Rd_num PP v0 v1 w R := by kernel_rfl
theorem c_spec_l12Rd_num {v0 v1 : Value} {w : World} {R : Value → World → Prop} (h : F_spec_l12Rd_num PP v0 v1 w R) : vcall PP n_spec_l12Rd_num #[v0, v1] w R :=
  call_of_vc (T := A_spec_l12Rd_num) (c := (Try.f21.body).getD .skip) (n := 12) mixed Try.func21 rfl rfl (by kernel_rfl) (by kernel_rfl) rfl (by rw [k_spec_l12Rd_num]; exact h)

/-- impl.run -/
def F_impl_run (P : Program) (v0 v1 : Value) (w : World) (R : Value → World → Prop) : Prop :=
  vbox P T_impl_Cnf v0 w fun t2 w_1 =>
  vdraw w_1 fun w_2 =>
  vload P T_impl_Cnf t2 w_2 fun t6 w_3 => w_3 = w_2 ∧
  vfaddr P T_impl_Cnf t2 0 w_2 fun t7 w_4 => w_4 = w_2 ∧
  vload P T_int t7 w_2 fun t8 w_5 => w_5 = w_2 ∧
  vcall P n_impl_newTrail #[t8] w_2 fun t9 w_6 => (vload P T_impl_Cnf t2 w_6 fun v x => v = t6 ∧ x = w_6) ∧
  vbuild P T_impl_search [(0, t6), (1, t9)] w_6 fun t10 w_7 => w_7 = w_6 ∧
  vbox P T_impl_search t10 w_6 fun t11 w_8 =>
  vloop [(.int .i64 0)] w_8 fun C u _ w_9 =>
    vbin P .lss T_int false (sl 0 u) v1 w_9 fun t14 w_10 =>
    vif t14 (
      vnil P t11 w_10 fun t16 w_11 =>
      vfaddr P T_impl_search t16 4 w_11 fun t17 w_12 =>
      vload P T_int t17 w_12 fun t18 w_13 =>
      vbin P .neq T_int true t18 (.int .i64 0) w_13 fun t19 w_14 =>
      vif t19 (
        R t11 w_14) (
        vcall P n_impl_search_step #[t11] w_14 fun _ w_15 =>
        vbin P .add T_int true (sl 0 u) (.int .i64 1) w_15 fun t22 w_16 =>
        C [t22] w_16)) (
      R t11 w_10)
def A_impl_run : Ann := { ord := [(1, [0, 1, 2, 3, 4, 5, 6], [(0, [4, 5, 6]), (1, [2, 3, 4, 5, 6]), (2, [3, 4, 5, 6]), (3, [4, 5, 6]), (4, [5, 6]), (5, [6])])], loops := [(3, [13])], cuts := [] }
theorem k_impl_run (v0 v1 : Value) (w : World) (R : Value → World → Prop) : vc PP A_impl_run ((Try.f22.body).getD .skip) (retF PP Try.f22.results.toList R) (nthV [v0, v1]) w = F_impl_run PP v0 v1 w R := by kernel_rfl
theorem c_impl_run {v0 v1 : Value} {w : World} {R : Value → World → Prop} (h : F_impl_run PP v0 v1 w R) : vcall PP n_impl_run #[v0, v1] w R :=
  call_of_vc (T := A_impl_run) (c := (Try.f22.body).getD .skip) (n := 24) mixed Try.func22 rfl rfl (by kernel_rfl) (by kernel_rfl) rfl (by rw [k_impl_run]; exact h)

/-- (*impl.search).sat -/
def F_impl_search_sat (P : Program) (v0 : Value) (w : World) (R : Value → World → Prop) : Prop :=
  valloc P T_impl_Sat w fun t2 w_1 =>
  vdraw w_1 fun w_2 =>
  vnil P v0 w_2 fun t4 w_3 => w_3 = w_2 ∧
  vfaddr P T_impl_search t4 1 w_2 fun t5 w_4 => w_4 = w_2 ∧
  vload P T_P_impl_trail t5 w_2 fun t6 w_5 => w_5 = w_2 ∧
  vnil P t6 w_2 fun t7 w_6 => w_6 = w_2 ∧
  vfaddr P T_impl_trail t7 0 w_2 fun t8 w_7 => w_7 = w_2 ∧
  vload P T_Lint t8 w_2 fun t9 w_8 => w_8 = w_2 ∧
  vnil P v0 w_2 fun t12 w_9 => w_9 = w_2 ∧
  vfaddr P T_impl_search t12 2 w_2 fun t13 w_10 => w_10 = w_2 ∧
  vload P T_Lint t13 w_2 fun t14 w_11 => w_11 = w_2 ∧
  vnil P v0 w_2 fun t17 w_12 => w_12 = w_2 ∧
  vfaddr P T_impl_search t17 3 w_2 fun t18 w_13 => w_13 = w_2 ∧
  vload P T_LLint t18 w_2 fun t19 w_14 => w_14 = w_2 ∧
  vnil P v0 w_2 fun t21 w_15 => w_15 = w_2 ∧
  vfaddr P T_impl_search t21 4 w_2 fun t22 w_16 => w_16 = w_2 ∧
  vload P T_int t22 w_2 fun t23 w_17 => w_17 = w_2 ∧
  vcall P n_slices_Clone_Lint_int #[t9] w_2 fun t10 w_18 => (vload P T_int t22 w_18 fun v x => v = t23 ∧ x = w_18) ∧ (vfaddr P T_impl_search t21 4 w_18 fun v x => v = t22 ∧ x = w_18) ∧ (vnil P v0 w_18 fun v x => v = t21 ∧ x = w_18) ∧ (vload P T_LLint t18 w_18 fun v x => v = t19 ∧ x = w_18) ∧ (vfaddr P T_impl_search t17 3 w_18 fun v x => v = t18 ∧ x = w_18) ∧ (vnil P v0 w_18 fun v x => v = t17 ∧ x = w_18) ∧ (vload P T_Lint t13 w_18 fun v x => v = t14 ∧ x = w_18) ∧ (vfaddr P T_impl_search t12 2 w_18 fun v x => v = t13 ∧ x = w_18) ∧ (vnil P v0 w_18 fun v x => v = t12 ∧ x = w_18) ∧
  vcall P n_slices_Clone_Lint_int #[t14] w_18 fun t15 w_19 => (vload P T_int t22 w_19 fun v x => v = t23 ∧ x = w_19) ∧ (vfaddr P T_impl_search t21 4 w_19 fun v x => v = t22 ∧ x = w_19) ∧ (vnil P v0 w_19 fun v x => v = t21 ∧ x = w_19) ∧ (vload P T_LLint t18 w_19 fun v x => v = t19 ∧ x = w_19) ∧ (vfaddr P T_impl_search t17 3 w_19 fun v x => v = t18 ∧ x = w_19) ∧ (vnil P v0 w_19 fun v x => v = t17 ∧ x = w_19) ∧
  vbuild P T_impl_Sat [(0, t10), (1, t15), (2, t19), (3, t23)] w_19 fun t24 w_20 => w_20 = w_19 ∧
  vstore P T_impl_Sat t2 t24 w_19 fun _ w_21 =>
  vlv P T_impl_Sat t2 w_21 fun r2 w_22 =>
  R r2 w_22
def A_impl_search_sat : Ann := { ord := [(1, [0, 1, 2, 3, 4, 5, 6, 8, 9, 10, 11, 13, 14, 15, 16, 17, 18, 19, 20, 7, 12, 21, 22], [(0, [1, 2, 3, 4, 5, 6, 7, 12, 21, 22]), (1, [2, 3, 4, 5, 6, 7, 12, 21, 22]), (2, [3, 4, 5, 6, 7, 12, 21, 22]), (3, [4, 5, 6, 7, 12, 21, 22]), (4, [5, 6, 7, 12, 21, 22]), (5, [6, 7, 12, 21, 22]), (6, [7, 12, 21, 22]), (8, [9, 10, 11, 12, 21, 22]), (9, [10, 11, 12, 21, 22]), (10, [11, 12, 21, 22]), (11, [12, 21, 22]), (13, [14, 15, 16, 21, 22]), (14, [15, 16, 21, 22]), (15, [16, 21, 22]), (16, [21, 22]), (17, [18, 19, 20, 21, 22]), (18, [19, 20, 21, 22]), (19, [20, 21, 22]), (20, [21, 22]), (7, [12, 21, 22]), (12, [21, 22]), (21, [22])])], loops := [], cuts := [] }
theorem k_impl_search_sat (v0 : Value) (w : World) (R : Value → World → Prop) : vc PP A_impl_search_sat ((Try.f23.body).getD .skip) (retF PP Try.f23.results.toList R) (nthV [v0]) w = F_impl_search_sat PP v0 w R := by kernel_rfl
theorem c_impl_search_sat {v0 : Value} {w : World} {R : Value → World → Prop} (h : F_impl_search_sat PP v0 w R) : vcall PP n_impl_search_sat #[v0] w R :=
  call_of_vc (T := A_impl_search_sat) (c := (Try.f23.body).getD .skip) (n := 25) mixed Try.func23 rfl rfl (by kernel_rfl) (by kernel_rfl) rfl (by rw [k_impl_search_sat]; exact h)

/-- slices.Equal[[]int,int] -/
def F_slices_Equal_Lint_int (P : Program) (v0 v1 : Value) (w : World) (R : Value → World → Prop) : Prop :=
  vbi P .len [T_Lint] T_int [v0] w fun t7 w_1 =>
  vbi P .len [T_Lint] T_int [v1] w_1 fun t9 w_2 =>
  vbin P .neq T_int false t7 t9 w_2 fun t10 w_3 =>
  vif t10 (
    R (.bool false) w_3) (
    vbi P .len [T_Lint] T_int [v0] w_3 fun t12 w_4 =>
    vloop [(.int .i64 0)] w_4 fun C u _ w_5 =>
      vbin P .lss T_int false (sl 0 u) t12 w_5 fun t14 w_6 =>
      vif t14 (
        vdraw w_6 fun w_7 =>
        viaddr P T_Lint v0 (sl 0 u) w_7 fun t18 w_8 => w_8 = w_7 ∧
        vload P T_int t18 w_7 fun t19 w_9 => w_9 = w_7 ∧
        viaddr P T_Lint v1 (sl 0 u) w_7 fun t22 w_10 => w_10 = w_7 ∧
        vload P T_int t22 w_7 fun t23 w_11 => w_11 = w_7 ∧
        vbin P .neq T_int false t19 t23 w_7 fun t24 w_12 => w_12 = w_7 ∧
        vif t24 (
          R (.bool false) w_7) (
          vbin P .add T_int true (sl 0 u) (.int .i64 1) w_7 fun t25 w_13 =>
          C [t25] w_13)) (
        R (.bool true) w_6))
def A_slices_Equal_Lint_int : Ann := { ord := [(6, [0, 1, 2, 3, 4, 5, 6, 7, 8], [(0, [2, 3, 8]), (1, [2, 3, 8]), (2, [3, 8]), (3, [8]), (4, [6, 7, 8]), (5, [6, 7, 8]), (6, [7, 8]), (7, [8])])], loops := [(4, [13])], cuts := [] }
theorem k_slices_Equal_Lint_int (v0 v1 : Value) (w : World) (R : Value → World → Prop) : vc PP A_slices_Equal_Lint_int ((Try.f24.body).getD .skip) (retF PP Try.f24.results.toList R) (nthV [v0, v1]) w = F_slices_Equal_Lint_int PP v0 v1 w R := by kernel_rfl
theorem c_slices_Equal_Lint_int {v0 v1 : Value} {w : World} {R : Value → World → Prop} (h : F_slices_Equal_Lint_int PP v0 v1 w R) : vcall PP n_slices_Equal_Lint_int #[v0, v1] w R :=
  call_of_vc (T := A_slices_Equal_Lint_int) (c := (Try.f24.body).getD .skip) (n := 26) mixed Try.func24 rfl rfl (by kernel_rfl) (by kernel_rfl) rfl (by rw [k_slices_Equal_Lint_int]; exact h)

/-- impl.sameLists -/
def F_impl_sameLists (P : Program) (v0 v1 : Value) (w : World) (R : Value → World → Prop) : Prop :=
  vcall P n_slices_EqualFunc_LLint_LLint_Lint_Lint #[v0, v1, (.func (.func n_slices_Equal_Lint_int) #[] #[])] w fun t7 w_1 =>
  R t7 w_1
def A_impl_sameLists : Ann := { ord := [], loops := [], cuts := [] }
theorem k_impl_sameLists (v0 v1 : Value) (w : World) (R : Value → World → Prop) : vc PP A_impl_sameLists ((Try.f25.body).getD .skip) (retF PP Try.f25.results.toList R) (nthV [v0, v1]) w = F_impl_sameLists PP v0 v1 w R := by kernel_rfl
theorem c_impl_sameLists {v0 v1 : Value} {w : World} {R : Value → World → Prop} (h : F_impl_sameLists PP v0 v1 w R) : vcall PP n_impl_sameLists #[v0, v1] w R :=
  call_of_vc (T := A_impl_sameLists) (c := (Try.f25.body).getD .skip) (n := 8) mixed Try.func25 rfl rfl (by kernel_rfl) (by kernel_rfl) rfl (by rw [k_impl_sameLists]; exact h)

/-- spec.CnfOk -/
def F_spec_CnfOk (P : Program) (v0 : Value) (w : World) (R : Value → World → Prop) : Prop :=
  vbox P T_impl_Cnf v0 w fun t1 w_1 =>
  vjoin (fun J =>
    vfaddr P T_impl_Cnf t1 0 w_1 fun t4 w_3 =>
    vload P T_int t4 w_3 fun t5 w_4 =>
    vbin P .lss T_int true t5 (.int .i64 0) w_4 fun t6 w_5 =>
    vif t6 (
      R (.bool false) w_5) (
      vfaddr P T_impl_Cnf t1 0 w_5 fun t8 w_6 =>
      vload P T_int t8 w_6 fun t9 w_7 =>
      vbin P .gtr T_int true t9 (.int .i64 700) w_7 fun t10 w_8 =>
      vif t10 (
        R (.bool false) w_8) (
        vfaddr P T_impl_Cnf t1 1 w_8 fun t13 w_9 =>
        vload P T_LLint t13 w_9 fun t14 w_10 =>
        vbi P .len [T_LLint] T_int [t14] w_10 fun t15 w_11 =>
        vbin P .gtr T_int true t15 (.int .i64 2500) w_11 fun t16 w_12 =>
        vif t16 (
          R (.bool false) w_12) (
          J [] w_12)))) (fun _ _ w_2 =>
    vloop [(.int .i64 0)] w_2 fun C u_1 _ w_13 =>
      vfaddr P T_impl_Cnf t1 1 w_13 fun t19 w_14 =>
      vload P T_LLint t19 w_14 fun t20 w_15 =>
      vbi P .len [T_LLint] T_int [t20] w_15 fun t21 w_16 =>
      vbin P .lss T_int false (sl 0 u_1) t21 w_16 fun t22 w_17 =>
      vif t22 (
        vdraw w_17 fun w_18 =>
        vfaddr P T_impl_Cnf t1 1 w_18 fun t25 w_19 => w_19 = w_18 ∧
        vload P T_LLint t25 w_18 fun t26 w_20 => w_20 = w_18 ∧
        viaddr P T_LLint t26 (sl 0 u_1) w_18 fun t28 w_21 => w_21 = w_18 ∧
        vload P T_Lint t28 w_18 fun t29 w_22 => w_22 = w_18 ∧
        vfaddr P T_impl_Cnf t1 0 w_18 fun t30 w_23 => w_23 = w_18 ∧
        vload P T_int t30 w_18 fun t31 w_24 => w_24 = w_18 ∧
        vcall P n_spec_l4Clause #[t29, t31] w_18 fun t32 w_25 =>
        vun P .not t32 w_25 fun t33 w_26 => w_26 = w_25 ∧
        vif t33 (
          R (.bool false) w_25) (
          vbin P .add T_int true (sl 0 u_1) (.int .i64 1) w_25 fun t24 w_27 =>
          C [t24] w_27)) (
        R (.bool true) w_17))
def A_spec_CnfOk : Ann := { ord := [(6, [0, 1, 2, 3, 4, 5, 6, 7, 8], [(0, [1, 3, 4, 7, 8]), (1, [3, 4, 7, 8]), (2, [3, 4, 7, 8]), (3, [4, 7, 8]), (4, [7, 8]), (5, [6, 7, 8]), (6, [7, 8]), (7, [8])])], loops := [(4, [3])], cuts := [(8195, [])] }
theorem k_spec_CnfOk (v0 : Value) (w : World) (R : Value → World → Prop) : vc PP A_spec_CnfOk ((Try.f26.body).getD .skip) (retF PP Try.f26.results.toList R) (nthV [v0]) w = F_spec_CnfOk PP v0 w R := by kernel_rfl
theorem c_spec_CnfOk {v0 : Value} {w : World} {R : Value → World → Prop} (h : F_spec_CnfOk PP v0 w R) : vcall PP n_spec_CnfOk #[v0] w R :=
  call_of_vc (T := A_spec_CnfOk) (c := (Try.f26.body).getD .skip) (n := 34) mixed Try.func26 rfl rfl (by kernel_rfl) (by kernel_rfl) rfl (by rw [k_spec_CnfOk]; exact h)

/-- spec.l5Copy -/
def F_spec_l5Copy (P : Program) (v0 : Value) (w : World) (R : Value → World → Prop) : Prop :=
  vbox P T_impl_Sat v0 w fun t1 w_1 =>
  valloc P T_impl_Sat w_1 fun t2 w_2 =>
  vdraw w_2 fun w_3 =>
  vfaddr P T_impl_Sat t1 0 w_3 fun t6 w_4 => w_4 = w_3 ∧
  vload P T_Lint t6 w_3 fun t7 w_5 => w_5 = w_3 ∧
  vfaddr P T_impl_Sat t1 1 w_3 fun t10 w_6 => w_6 = w_3 ∧
  vload P T_Lint t10 w_3 fun t11 w_7 => w_7 = w_3 ∧
  vfaddr P T_impl_Sat t1 3 w_3 fun t13 w_8 => w_8 = w_3 ∧
  vload P T_int t13 w_3 fun t14 w_9 => w_9 = w_3 ∧
  ∃ I : (Nat → Prop) → List Value → World → Prop, I (fun _ => False) [undef, undef, undef, undef, undef, undef] w_3 ∧
  ∀ (d : Nat → Prop) (u : List Value) (g : Fr) (w_10 : World), I d u w_10 → (vload P T_int t13 w_10 fun v x => v = t14 ∧ x = w_10) ∧ (vfaddr P T_impl_Sat t1 3 w_10 fun v x => v = t13 ∧ x = w_10) ∧ (vload P T_Lint t10 w_10 fun v x => v = t11 ∧ x = w_10) ∧ (vfaddr P T_impl_Sat t1 1 w_10 fun v x => v = t10 ∧ x = w_10) ∧ (vload P T_Lint t6 w_10 fun v x => v = t7 ∧ x = w_10) ∧ (vfaddr P T_impl_Sat t1 0 w_10 fun v x => v = t6 ∧ x = w_10) ∧ 
    (((d 0 → False) → vbuildS P T_Lint 0 [] w_10 fun t5 w_11 => I (fun x => x = 0 ∨ d x) [(sl 0 u), t5, (sl 2 u), (sl 3 u), (sl 4 u), (sl 5 u)] w_11) ∧
    ((d 3 → False) → d 0 → vbi P .append [T_Lint, T_Lint] T_Lint [(sl 1 u), t7] w_10 fun t8 w_12 => I (fun x => x = 3 ∨ d x) [(sl 0 u), (sl 1 u), t8, (sl 3 u), (sl 4 u), (sl 5 u)] w_12) ∧
    ((d 4 → False) → vbuildS P T_Lint 0 [] w_10 fun t9 w_13 => I (fun x => x = 4 ∨ d x) [(sl 0 u), (sl 1 u), (sl 2 u), t9, (sl 4 u), (sl 5 u)] w_13) ∧
    ((d 7 → False) → d 4 → d 3 → vbi P .append [T_Lint, T_Lint] T_Lint [(sl 3 u), t11] w_10 fun t12 w_14 => I (fun x => x = 7 ∨ d x) [(sl 0 u), (sl 1 u), (sl 2 u), (sl 3 u), t12, (sl 5 u)] w_14) ∧
    ((d 10 → False) → d 3 → d 7 → vbuild P T_impl_Sat [(0, (sl 2 u)), (1, (sl 4 u)), (3, t14)] w_10 fun t15 w_15 => w_15 = w_10 ∧ I (fun x => x = 10 ∨ d x) [(sl 0 u), (sl 1 u), (sl 2 u), (sl 3 u), (sl 4 u), t15] w_10) ∧
    ((d 11 → False) → valloc P T_impl_Sat w_10 fun t3 w_16 => I (fun x => x = 11 ∨ d x) [t3, (sl 1 u), (sl 2 u), (sl 3 u), (sl 4 u), (sl 5 u)] w_16) ∧
    ((d 12 → False) → d 11 → d 10 → d 7 → d 0 → d 3 → d 4 → d 7 → d 10 → d 11 → vstore P T_impl_Sat (sl 0 u) (sl 5 u) w_10 fun _ w_17 => I (fun x => x = 12 ∨ d x) [(sl 0 u), (sl 1 u), (sl 2 u), (sl 3 u), (sl 4 u), (sl 5 u)] w_17) ∧
    True) ∧
    (d 0 → d 3 → d 4 → d 7 → d 10 → d 11 → d 12 →
      vloop [(.int .i64 0)] w_10 fun C u_1 _ w_18 =>
        vfaddr P T_impl_Sat t1 2 w_18 fun t17 w_19 =>
        vload P T_LLint t17 w_19 fun t18 w_20 =>
        vbi P .len [T_LLint] T_int [t18] w_20 fun t19 w_21 =>
        vbin P .lss T_int false (sl 0 u_1) t19 w_21 fun t20 w_22 =>
        vif t20 (
          vdraw w_22 fun w_23 =>
          vfaddr P T_impl_Sat (sl 0 u) 2 w_23 fun t23 w_24 => w_24 = w_23 ∧
          vload P T_LLint t23 w_23 fun t24 w_25 => w_25 = w_23 ∧
          vfaddr P T_impl_Sat t1 2 w_23 fun t26 w_26 => w_26 = w_23 ∧
          vload P T_LLint t26 w_23 fun t27 w_27 => w_27 = w_23 ∧
          viaddr P T_LLint t27 (sl 0 u_1) w_23 fun t29 w_28 => w_28 = w_23 ∧
          vload P T_Lint t29 w_23 fun t30 w_29 => w_29 = w_23 ∧
          vbuildS P T_Lint 0 [] w_23 fun t25 w_30 => (vload P T_Lint t29 w_30 fun v x => v = t30 ∧ x = w_30) ∧ (viaddr P T_LLint t27 (sl 0 u_1) w_30 fun v x => v = t29 ∧ x = w_30) ∧ (vload P T_LLint t26 w_30 fun v x => v = t27 ∧ x = w_30) ∧ (vfaddr P T_impl_Sat t1 2 w_30 fun v x => v = t26 ∧ x = w_30) ∧ (vload P T_LLint t23 w_30 fun v x => v = t24 ∧ x = w_30) ∧ (vfaddr P T_impl_Sat (sl 0 u) 2 w_30 fun v x => v = t23 ∧ x = w_30) ∧
          vbi P .append [T_Lint, T_Lint] T_Lint [t25, t30] w_30 fun t31 w_31 => (vload P T_LLint t23 w_31 fun v x => v = t24 ∧ x = w_31) ∧ (vfaddr P T_impl_Sat (sl 0 u) 2 w_31 fun v x => v = t23 ∧ x = w_31) ∧
          vbuildS P T_LLint 1 [(0, t31)] w_31 fun t32 w_32 => (vload P T_LLint t23 w_32 fun v x => v = t24 ∧ x = w_32) ∧ (vfaddr P T_impl_Sat (sl 0 u) 2 w_32 fun v x => v = t23 ∧ x = w_32) ∧
          vbi P .append [T_LLint, T_LLint] T_LLint [t24, t32] w_32 fun t33 w_33 =>
          vfaddr P T_impl_Sat (sl 0 u) 2 w_33 fun t34 w_34 => w_34 = w_33 ∧
          vstore P T_LLint t34 t33 w_33 fun _ w_35 =>
          vbin P .add T_int true (sl 0 u_1) (.int .i64 1) w_35 fun t22 w_36 =>
          C [t22] w_36) (
          vload P T_impl_Sat (sl 0 u) w_22 fun t35 w_37 =>
          vstore P T_impl_Sat t2 t35 w_37 fun _ w_38 =>
          vlv P T_impl_Sat t2 w_38 fun r2 w_39 =>
          R r2 w_39))
def A_spec_l5Copy : Ann := { ord := [(5, [0, 1, 3, 4, 5, 6, 7, 2, 8, 9, 10, 11, 12], [(0, [1, 10, 11, 12]), (1, [10, 11, 12]), (3, [4, 6, 7, 8, 9, 10, 11, 12]), (4, [6, 7, 8, 9, 10, 11, 12]), (5, [6, 7, 8, 9, 10, 11, 12]), (6, [7, 8, 9, 10, 11, 12]), (7, [8, 9, 10, 11, 12]), (2, [8, 9, 10, 11, 12]), (8, [9, 10, 11, 12]), (9, [10, 11, 12]), (10, [11, 12]), (11, [12])])], loops := [(3, [4])], cuts := [], pars := [(1, [1, 2, 5, 6, 8, 9], [0, 3, 4, 7, 10, 11, 12], [3, 5, 8, 9, 12, 15], [(1, [2, 3, 7, 10, 12]), (2, [3, 7, 10, 12]), (5, [6, 7, 10, 12]), (6, [7, 10, 12]), (8, [9, 10, 12]), (9, [10, 12])])] }
theorem k_spec_l5Copy (v0 : Value) (w : World) (R : Value → World → Prop) : vc PP A_spec_l5Copy ((Try.f27.body).getD .skip) (retF PP Try.f27.results.toList R) (nthV [v0]) w = F_spec_l5Copy PP v0 w R := by kernel_rfl
theorem c_spec_l5Copy {v0 : Value} {w : World} {R : Value → World → Prop} (h : F_spec_l5Copy PP v0 w R) : vcall PP n_spec_l5Copy #[v0] w R :=
  call_of_vc (T := A_spec_l5Copy) (c := (Try.f27.body).getD .skip) (n := 36) mixed Try.func27 rfl rfl (by kernel_rfl) (by kernel_rfl) rfl (by rw [k_spec_l5Copy]; exact h)

/-- spec.l5Run -/
def F_spec_l5Run (P : Program) (v0 v1 : Value) (w : World) (R : Value → World → Prop) : Prop :=
  vbox P T_impl_Cnf v0 w fun t2 w_1 =>
  valloc P T_impl_Sat w_1 fun t4 w_2 =>
  vbuild P T_impl_Sat [] w_2 fun t7 w_3 =>
  valloc P T_impl_Sat w_3 fun t5 w_4 =>
  vstore P T_impl_Sat t5 t7 w_4 fun _ w_5 =>
  vloop [(.int .i64 0)] w_5 fun C u _ w_6 =>
    vbin P .lss T_int false (sl 0 u) v1 w_6 fun t10 w_7 =>
    vif t10 (
      vfaddr P T_impl_Sat t5 3 w_7 fun t12 w_8 =>
      vload P T_int t12 w_8 fun t13 w_9 =>
      vbin P .eql T_int true t13 (.int .i64 0) w_9 fun t14 w_10 =>
      vif t14 (
        vload P T_impl_Cnf t2 w_10 fun t18 w_11 =>
        vload P T_impl_Sat t5 w_11 fun t19 w_12 =>
        vcall P n_spec_l5Do #[t18, t19] w_12 fun t20 w_13 =>
        vstore P T_impl_Sat t5 t20 w_13 fun _ w_14 =>
        vbin P .add T_int true (sl 0 u) (.int .i64 1) w_14 fun t17 w_15 =>
        C [t17] w_15) (
        vload P T_impl_Sat t5 w_10 fun t21 w_16 =>
        vstore P T_impl_Sat t4 t21 w_16 fun _ w_17 =>
        vlv P T_impl_Sat t4 w_17 fun r4 w_18 =>
        R r4 w_18)) (
      vload P T_impl_Sat t5 w_7 fun t21_1 w_19 =>
      vstore P T_impl_Sat t4 t21_1 w_19 fun _ w_20 =>
      vlv P T_impl_Sat t4 w_20 fun r4_1 w_21 =>
      R r4_1 w_21)
def A_spec_l5Run : Ann := { ord := [], loops := [(3, [6])], cuts := [] }
theorem k_spec_l5Run (v0 v1 : Value) (w : World) (R : Value → World → Prop) : vc PP A_spec_l5Run ((Try.f28.body).getD .skip) (retF PP Try.f28.results.toList R) (nthV [v0, v1]) w = F_spec_l5Run PP v0 v1 w R := by kernel_rfl
theorem c_spec_l5Run {v0 v1 : Value} {w : World} {R : Value → World → Prop} (h : F_spec_l5Run PP v0 v1 w R) : vcall PP n_spec_l5Run #[v0, v1] w R :=
  call_of_vc (T := A_spec_l5Run) (c := (Try.f28.body).getD .skip) (n := 22) mixed Try.func28 rfl rfl (by kernel_rfl) (by kernel_rfl) rfl (by rw [k_spec_l5Run]; exact h)

/-- slices.ContainsFunc[[][]int,[]int] -/
def F_slices_ContainsFunc_LLint_Lint (P : Program) (v0 v1 : Value) (w : World) (R : Value → World → Prop) : Prop :=
  vcall P n_slices_IndexFunc_LLint_Lint #[v0, v1] w fun t7 w_1 =>
  vbin P .geq T_int true t7 (.int .i64 0) w_1 fun t8 w_2 =>
  R t8 w_2
def A_slices_ContainsFunc_LLint_Lint : Ann := { ord := [], loops := [], cuts := [] }
theorem k_slices_ContainsFunc_LLint_Lint (v0 v1 : Value) (w : World) (R : Value → World → Prop) : vc PP A_slices_ContainsFunc_LLint_Lint ((Try.f29.body).getD .skip) (retF PP Try.f29.results.toList R) (nthV [v0, v1]) w = F_slices_ContainsFunc_LLint_Lint PP v0 v1 w R := by kernel_rfl
theorem c_slices_ContainsFunc_LLint_Lint {v0 v1 : Value} {w : World} {R : Value → World → Prop} (h : F_slices_ContainsFunc_LLint_Lint PP v0 v1 w R) : vcall PP n_slices_ContainsFunc_LLint_Lint #[v0, v1] w R :=
  call_of_vc (T := A_slices_ContainsFunc_LLint_Lint) (c := (Try.f29.body).getD .skip) (n := 9) mixed Try.func29 rfl rfl (by kernel_rfl) (by kernel_rfl) rfl (by rw [k_slices_ContainsFunc_LLint_Lint]; exact h)

/-- impl.CnfOk$1 -/
def F_impl_CnfOk_1 (P : Program) (v0 v1 : Value) (w : World) (R : Value → World → Prop) : Prop :=
  vfaddr P T_impl_Cnf v1 0 w fun t5 w_1 =>
  vload P T_int t5 w_1 fun t6 w_2 =>
  vcall P n_impl_clauseOk #[v0, t6] w_2 fun t7 w_3 =>
  vun P .not t7 w_3 fun t8 w_4 =>
  R t8 w_4
def A_impl_CnfOk_1 : Ann := { ord := [], loops := [], cuts := [] }
theorem k_impl_CnfOk_1 (v0 v1 : Value) (w : World) (R : Value → World → Prop) : vc PP A_impl_CnfOk_1 ((Try.f30.body).getD .skip) (retF PP Try.f30.results.toList R) (nthV [v0, v1]) w = F_impl_CnfOk_1 PP v0 v1 w R := by kernel_rfl
theorem c_impl_CnfOk_1 {v0 v1 : Value} {w : World} {R : Value → World → Prop} (h : F_impl_CnfOk_1 PP v0 v1 w R) : vcall PP n_impl_CnfOk_1 #[v0, v1] w R :=
  call_of_vc (T := A_impl_CnfOk_1) (c := (Try.f30.body).getD .skip) (n := 9) mixed Try.func30 rfl rfl (by kernel_rfl) (by kernel_rfl) rfl (by rw [k_impl_CnfOk_1]; exact h)

/-- impl.clauseOk -/
def F_impl_clauseOk (P : Program) (v0 v1 : Value) (w : World) (R : Value → World → Prop) : Prop :=
  vbi P .len [T_Lint] T_int [v0] w fun t8 w_1 =>
  vloop [(.int .i64 0)] w_1 fun C u _ w_2 =>
    vbin P .lss T_int false (sl 0 u) t8 w_2 fun t10 w_3 =>
    vif t10 (
      viaddr P T_Lint v0 (sl 0 u) w_3 fun t12 w_4 =>
      vload P T_int t12 w_4 fun t13 w_5 =>
      vcall P n_impl_literal_of #[t13, v1] w_5 fun t16 w_6 =>
      vun P .not t16 w_6 fun t17 w_7 =>
      vif t17 (
        R (.bool false) w_7) (
        vbin P .gtr T_int true (sl 0 u) (.int .i64 0) w_7 fun t20 w_8 =>
        vif t20 (
          vbin P .sub T_int true (sl 0 u) (.int .i64 1) w_8 fun t24 w_9 =>
          viaddr P T_Lint v0 t24 w_9 fun t25 w_10 =>
          vload P T_int t25 w_10 fun t26 w_11 =>
          vcall P n_impl_literal_variable #[t26] w_11 fun t27 w_12 =>
          vcall P n_impl_literal_variable #[t13] w_12 fun t29 w_13 =>
          vbin P .geq T_int false t27 t29 w_13 fun t30 w_14 =>
          vif t30 (
            R (.bool false) w_14) (
            vbin P .add T_int true (sl 0 u) (.int .i64 1) w_14 fun t33 w_15 =>
            C [t33] w_15)) (
          vbin P .add T_int true (sl 0 u) (.int .i64 1) w_8 fun t33_1 w_16 =>
          C [t33_1] w_16))) (
      R (.bool true) w_3)
def A_impl_clauseOk : Ann := { ord := [], loops := [(2, [9])], cuts := [] }
theorem k_impl_clauseOk (v0 v1 : Value) (w : World) (R : Value → World → Prop) : vc PP A_impl_clauseOk ((Try.f31.body).getD .skip) (retF PP Try.f31.results.toList R) (nthV [v0, v1]) w = F_impl_clauseOk PP v0 v1 w R := by kernel_rfl
theorem c_impl_clauseOk {v0 v1 : Value} {w : World} {R : Value → World → Prop} (h : F_impl_clauseOk PP v0 v1 w R) : vcall PP n_impl_clauseOk #[v0, v1] w R :=
  call_of_vc (T := A_impl_clauseOk) (c := (Try.f31.body).getD .skip) (n := 34) mixed Try.func31 rfl rfl (by kernel_rfl) (by kernel_rfl) rfl (by rw [k_impl_clauseOk]; exact h)

end Go.Proofs.Ytpihgpfebhegmaa
