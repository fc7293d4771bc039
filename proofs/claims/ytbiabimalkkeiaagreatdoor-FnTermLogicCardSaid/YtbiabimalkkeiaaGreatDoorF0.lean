import Derived.Test.YtbiabimalkkeiaaGreatDoorNm
set_option linter.unusedVariables false
set_option linter.unusedSimpArgs false
set_option linter.unnecessarySimpa false
set_option linter.unusedSectionVars false
namespace Go.Proofs.YtbiabimalkkeiaaGreatDoor
open Go Go.Vc Go.Proofs
/-- laws.FnExactTermEval -/
def F_laws_FnExactTermEval (P : Program) (v0 v1 v2 : Value) (w : World) (R : Value → World → Prop) : Prop :=
  vbox P T_laws_Term v1 w fun t4 w_1 =>
  vbi P .len [T_Lint] T_int [v2] w_1 fun t16 w_2 =>
  vbin P .gtr T_int true t16 (.int .i64 1048576) w_2 fun t17 w_3 =>
  vif t17 (
    R (.bool true) w_3) (
    vcall P n_laws_szDeclS #[v0, (.int .i64 1048576)] w_3 fun t20 w_4 =>
    vbin P .lss T_int true t20 (.int .i64 0) w_4 fun t22 w_5 =>
    vif t22 (
      R (.bool true) w_5) (
      vload P T_laws_Term t4 w_5 fun t23 w_6 =>
      vcall P n_laws_szTerm #[t23, t20] w_6 fun t25 w_7 =>
      vbin P .lss T_int true t25 (.int .i64 0) w_7 fun t27 w_8 =>
      vif t27 (
        R (.bool true) w_8) (
        vdraw w_8 fun w_9 =>
        vload P T_laws_Term t4 w_9 fun t31 w_10 => w_10 = w_9 ∧
        vcall P n_laws_toDeclS #[v0] w_9 fun t30 w_11 => (vload P T_laws_Term t4 w_11 fun v x => v = t31 ∧ x = w_11) ∧
        vcall P n_laws_toTerm #[t31] w_11 fun t32 w_12 =>
        vcall P n_laws_toIntS #[v2] w_12 fun t34 w_13 =>
        vcall P n_spec_TermEval #[t30, t32, t34] w_13 fun t35 w_14 =>
        vextract P t35 0 w_14 fun t36 w_15 => w_15 = w_14 ∧
        vextract P t35 1 w_14 fun t37 w_16 => w_16 = w_14 ∧
        vcall P n_laws_toDeclS #[v0] w_14 fun t39 w_17 =>
        vload P T_laws_Term t4 w_17 fun t40 w_18 =>
        vcall P n_laws_toTerm #[t40] w_18 fun t41 w_19 =>
        valloc P T_impl_Term w_19 fun t11 w_20 =>
        vstore P T_impl_Term t11 t41 w_20 fun _ w_21 =>
        vcall P n_laws_toIntS #[v2] w_21 fun t43 w_22 =>
        vload P T_impl_Term t11 w_22 fun t46 w_23 =>
        vcall P n_impl_TermEval #[t39, t46, t43] w_23 fun t48 w_24 =>
        vextract P t48 0 w_24 fun t49 w_25 =>
        vextract P t48 1 w_25 fun t50 w_26 =>
        vjoin (fun J =>
          vbin P .neq T_int false t49 t36 w_26 fun t53 w_28 =>
          vif t53 (
            R (.bool false) w_28) (
            vbin P .neq T_bool false t50 t37 w_28 fun t57 w_29 =>
            vif t57 (
              R (.bool false) w_29) (
              J [] w_29))) (fun _ _ w_27 =>
          vcall P n_laws_toDeclS #[v0] w_27 fun t61 w_30 =>
          vcall P n_laws_eqDeclS #[t39, t61] w_30 fun t62 w_31 =>
          vun P .not t62 w_31 fun t63 w_32 =>
          vif t63 (
            R (.bool false) w_32) (
            vdraw w_32 fun w_33 =>
            vload P T_impl_Term t11 w_33 fun t64 w_34 => w_34 = w_33 ∧
            vload P T_laws_Term t4 w_33 fun t65 w_35 => w_35 = w_33 ∧
            vcall P n_laws_toTerm #[t65] w_33 fun t66 w_36 => (vload P T_impl_Term t11 w_36 fun v x => v = t64 ∧ x = w_36) ∧
            vcall P n_laws_eqTerm #[t64, t66] w_36 fun t67 w_37 =>
            vun P .not t67 w_37 fun t68 w_38 => w_38 = w_37 ∧
            vif t68 (
              R (.bool false) w_37) (
              vcall P n_laws_toIntS #[v2] w_37 fun t71 w_39 =>
              vcall P n_laws_eqIntS #[t43, t71] w_39 fun t72 w_40 =>
              vun P .not t72 w_40 fun t73 w_41 =>
              vif t73 (
                R (.bool false) w_41) (
                R (.bool true) w_41)))))))
def A_laws_FnExactTermEval : Ann := { ord := [(10, [0, 2, 4, 1, 3, 5, 6, 7, 8, 9, 10, 11], [(0, [1, 3, 5, 6, 7, 8, 9, 10, 11]), (2, [3, 5, 6, 7, 8, 9, 10, 11]), (4, [5, 6, 7, 8, 9, 10, 11]), (1, [3, 5, 6, 7, 8, 9, 10, 11]), (3, [5, 6, 7, 8, 9, 10, 11]), (5, [6, 7, 8, 9, 10, 11]), (6, [7, 8, 9, 10, 11]), (7, [8, 9, 10, 11]), (8, [10, 11]), (9, [11]), (10, [11])]), (19, [0, 1, 2, 3, 4], [(0, [3, 4]), (1, [2, 3, 4]), (2, [3, 4]), (3, [4])])], loops := [], cuts := [(65553, [])] }
theorem k_laws_FnExactTermEval (v0 v1 v2 : Value) (w : World) (R : Value → World → Prop) : vc PP A_laws_FnExactTermEval ((Tryz.f3.body).getD .skip) (retF PP Tryz.f3.results.toList R) (nthV [v0, v1, v2]) w = F_laws_FnExactTermEval PP v0 v1 v2 w R := by kernel_rfl
theorem c_laws_FnExactTermEval {v0 v1 v2 : Value} {w : World} {R : Value → World → Prop} (h : F_laws_FnExactTermEval PP v0 v1 v2 w R) : vcall PP n_laws_FnExactTermEval #[v0, v1, v2] w R :=
  call_of_vc (T := A_laws_FnExactTermEval) (c := (Tryz.f3.body).getD .skip) (n := 74) mixed Tryz.func3 rfl rfl (by kernel_rfl) (by kernel_rfl) rfl (by rw [k_laws_FnExactTermEval]; exact h)

/-- laws.FnTermPut -/
def F_laws_FnTermPut (P : Program) (v0 v1 : Value) (w : World) (R : Value → World → Prop) : Prop :=
  vjoin (fun J =>
    vbi P .len [T_Luint8] T_int [v0] w fun t23 w_2 =>
    vbin P .gtr T_int true t23 (.int .i64 1048576) w_2 fun t24 w_3 =>
    vif t24 (
      R (.bool true) w_3) (
      vbi P .len [T_Luint8] T_int [v1] w_3 fun t27 w_4 =>
      vbin P .gtr T_int true t27 (.int .i64 1048576) w_4 fun t28 w_5 =>
      vif t28 (
        R (.bool true) w_5) (
        J [] w_5))) (fun _ _ w_1 =>
    vcall P n_spec_DrawTermEval #[v0] w_1 fun t32 w_6 =>
    vextract P t32 0 w_6 fun t33 w_7 =>
    vextract P t32 1 w_7 fun t34 w_8 =>
    vextract P t32 2 w_8 fun t35 w_9 =>
    valloc P T_impl_Term w_9 fun t6 w_10 =>
    vstore P T_impl_Term t6 t34 w_10 fun _ w_11 =>
    vload P T_impl_Term t6 w_11 fun t38 w_12 =>
    vcall P n_impl_TermEval #[t33, t38, t35] w_12 fun t40 w_13 =>
    vextract P t40 0 w_13 fun t41 w_14 =>
    vextract P t40 1 w_14 fun t42 w_15 =>
    vload P T_impl_Term t6 w_15 fun t45 w_16 =>
    vcall P n_spec_TermEval #[t33, t45, t35] w_16 fun t47 w_17 =>
    vextract P t47 0 w_17 fun _ w_18 =>
    vextract P t47 1 w_18 fun t49 w_19 =>
    vjoin (fun J_1 =>
      vbin P .neq T_bool false t42 t49 w_19 fun t52 w_21 =>
      vif t52 (
        vbin P .eql T_bool false t42 t49 w_21 fun t65 w_22 =>
        R t65 w_22) (
        vun P .not t42 w_21 fun t55 w_23 =>
        vif t55 (
          vbin P .eql T_bool false t42 t49 w_23 fun t65_1 w_24 =>
          R t65_1 w_24) (
          vfaddr P T_impl_Term t6 4 w_23 fun t58 w_25 =>
          vload P T_Limpl_Term t58 w_25 fun t59 w_26 =>
          vbi P .len [T_Limpl_Term] T_int [t59] w_26 fun t60 w_27 =>
          vbin P .eql T_int true t60 (.int .i64 0) w_27 fun t61 w_28 =>
          vif t61 (
            vbin P .eql T_bool false t42 t49 w_28 fun t65_2 w_29 =>
            R t65_2 w_29) (
            J_1 [] w_28)))) (fun _ _ w_20 =>
      vbi P .len [T_Luint8] T_int [v1] w_20 fun t67 w_30 =>
      vfaddr P T_impl_Term t6 4 w_30 fun t68 w_31 =>
      vload P T_Limpl_Term t68 w_31 fun t69 w_32 =>
      vbi P .len [T_Limpl_Term] T_int [t69] w_32 fun t70 w_33 =>
      vbin P .rem T_int false t67 t70 w_33 fun t71 w_34 =>
      vfaddr P T_impl_Term t6 4 w_34 fun t73 w_35 =>
      vload P T_Limpl_Term t73 w_35 fun t74 w_36 =>
      viaddr P T_Limpl_Term t74 t71 w_36 fun t76 w_37 =>
      vload P T_impl_Term t76 w_37 fun t77 w_38 =>
      vcall P n_impl_TermSort #[t33, t77] w_38 fun t78 w_39 =>
      vfaddr P T_impl_Term t6 4 w_39 fun t81 w_40 =>
      vload P T_Limpl_Term t81 w_40 fun t82 w_41 =>
      viaddr P T_Limpl_Term t82 t71 w_41 fun t84 w_42 =>
      vload P T_impl_Term t84 w_42 fun t85 w_43 =>
      vcall P n_impl_TermEval #[t33, t85, t35] w_43 fun t87 w_44 =>
      vextract P t87 0 w_44 fun t88 w_45 =>
      vextract P t87 1 w_45 fun t89 w_46 =>
      vbuild P T_impl_Term [(0, (.int .i64 20)), (1, t78), (2, t88)] w_46 fun t92 w_47 =>
      valloc P T_impl_Term w_47 fun t16 w_48 =>
      vstore P T_impl_Term t16 t92 w_48 fun _ w_49 =>
      vjoin (fun J_2 =>
        vbin P .eql T_int true t78 (.int .i64 0) w_49 fun t94 w_51 =>
        vif t94 (
          vbuild P T_impl_Term [(0, (.int .i64 24))] w_51 fun t95 w_52 =>
          vstore P T_impl_Term t16 t95 w_52 fun _ w_53 =>
          J_2 [] w_53) (
          J_2 [] w_51)) (fun _ _ w_50 =>
        vjoin (fun J_3 =>
          vbin P .eql T_int true t78 (.int .i64 0) w_50 fun t97 w_55 =>
          vif t97 (
            vbin P .eql T_int true t88 (.int .i64 0) w_55 fun t100 w_56 =>
            vif t100 (
              vbuild P T_impl_Term [(0, (.int .i64 24))] w_56 fun t102 w_57 =>
              vbuildS P T_Limpl_Term 1 [(0, t102)] w_57 fun t103 w_58 =>
              vbuild P T_impl_Term [(0, (.int .i64 25)), (4, t103)] w_58 fun t104 w_59 =>
              vstore P T_impl_Term t16 t104 w_59 fun _ w_60 =>
              J_3 [] w_60) (
              J_3 [] w_56)) (
            J_3 [] w_55)) (fun _ _ w_54 =>
          vload P T_impl_Term t6 w_54 fun t105 w_61 =>
          valloc P T_impl_Term w_61 fun t17 w_62 =>
          vstore P T_impl_Term t17 t105 w_62 fun _ w_63 =>
          vbuildS P T_Limpl_Term 0 [] w_63 fun t106 w_64 =>
          vfaddr P T_impl_Term t6 4 w_64 fun t107 w_65 =>
          vload P T_Limpl_Term t107 w_65 fun t108 w_66 =>
          vbi P .append [T_Limpl_Term, T_Limpl_Term] T_Limpl_Term [t106, t108] w_66 fun t109 w_67 =>
          vfaddr P T_impl_Term t17 4 w_67 fun t110 w_68 =>
          vstore P T_Limpl_Term t110 t109 w_68 fun _ w_69 =>
          vfaddr P T_impl_Term t17 4 w_69 fun t111 w_70 =>
          vload P T_Limpl_Term t111 w_70 fun t112 w_71 =>
          vload P T_impl_Term t16 w_71 fun t114 w_72 =>
          viaddr P T_Limpl_Term t112 t71 w_72 fun t115 w_73 =>
          vstore P T_impl_Term t115 t114 w_73 fun _ w_74 =>
          vload P T_impl_Term t17 w_74 fun t118 w_75 =>
          vcall P n_impl_TermEval #[t33, t118, t35] w_75 fun t120 w_76 =>
          vextract P t120 0 w_76 fun t121 w_77 =>
          vextract P t120 1 w_77 fun t122 w_78 =>
          vload P T_impl_Term t17 w_78 fun t124 w_79 =>
          vcall P n_impl_TermMany #[t124] w_79 fun t125 w_80 =>
          vextract P t125 0 w_80 fun t126 w_81 =>
          vextract P t125 1 w_81 fun t127 w_82 =>
          vif t89 (
            vbin P .gtr T_int true t126 (.int .i64 20) w_82 fun t131 w_83 =>
            vif t131 (
              R (.bool true) w_83) (
              vbin P .gtr T_int true t127 (.int .i64 7) w_83 fun t134 w_84 =>
              vif t134 (
                R (.bool true) w_84) (
                vif t122 (
                  vbin P .eql T_int false t121 t41 w_84 fun t141 w_85 =>
                  R t141 w_85) (
                  R (.bool false) w_84)))) (
            R (.bool false) w_82)))))
def A_laws_FnTermPut : Ann := { ord := [], loops := [], cuts := [(8195, []), (28680, []), (53262, []), (61456, [])] }
theorem k_laws_FnTermPut (v0 v1 : Value) (w : World) (R : Value → World → Prop) : vc PP A_laws_FnTermPut ((Tryz.f4.body).getD .skip) (retF PP Tryz.f4.results.toList R) (nthV [v0, v1]) w = F_laws_FnTermPut PP v0 v1 w R := by kernel_rfl
theorem c_laws_FnTermPut {v0 v1 : Value} {w : World} {R : Value → World → Prop} (h : F_laws_FnTermPut PP v0 v1 w R) : vcall PP n_laws_FnTermPut #[v0, v1] w R :=
  call_of_vc (T := A_laws_FnTermPut) (c := (Tryz.f4.body).getD .skip) (n := 145) mixed Tryz.func4 rfl rfl (by kernel_rfl) (by kernel_rfl) rfl (by rw [k_laws_FnTermPut]; exact h)

/-- laws.FnTermSort -/
def F_laws_FnTermSort (P : Program) (v0 : Value) (w : World) (R : Value → World → Prop) : Prop :=
  vbi P .len [T_Luint8] T_int [v0] w fun t12 w_1 =>
  vbin P .gtr T_int true t12 (.int .i64 1048576) w_1 fun t13 w_2 =>
  vif t13 (
    R (.bool true) w_2) (
    vcall P n_spec_DrawTermEval #[v0] w_2 fun t16 w_3 =>
    vextract P t16 0 w_3 fun t17 w_4 =>
    vextract P t16 1 w_4 fun t18 w_5 =>
    vextract P t16 2 w_5 fun t19 w_6 =>
    valloc P T_impl_Term w_6 fun t4 w_7 =>
    vstore P T_impl_Term t4 t18 w_7 fun _ w_8 =>
    vload P T_impl_Term t4 w_8 fun t21 w_9 =>
    vcall P n_impl_TermSort #[t17, t21] w_9 fun t22 w_10 =>
    vload P T_impl_Term t4 w_10 fun t25 w_11 =>
    vcall P n_impl_TermEval #[t17, t25, t19] w_11 fun t27 w_12 =>
    vextract P t27 0 w_12 fun t28 w_13 =>
    vextract P t27 1 w_13 fun t29 w_14 =>
    vload P T_impl_Term t4 w_14 fun t32 w_15 =>
    vcall P n_spec_TermEval #[t17, t32, t19] w_15 fun t34 w_16 =>
    vextract P t34 0 w_16 fun t35 w_17 =>
    vextract P t34 1 w_17 fun t36 w_18 =>
    vjoin (fun J =>
      vload P T_impl_Term t4 w_18 fun t39 w_20 =>
      vcall P n_spec_TermSort #[t17, t39] w_20 fun t40 w_21 =>
      vbin P .neq T_int false t22 t40 w_21 fun t41 w_22 =>
      vif t41 (
        R (.bool false) w_22) (
        vbin P .neq T_int false t28 t35 w_22 fun t45 w_23 =>
        vif t45 (
          R (.bool false) w_23) (
          vbin P .neq T_bool false t29 t36 w_23 fun t50 w_24 =>
          vif t50 (
            R (.bool false) w_24) (
            vbin P .geq T_int true t22 (.int .i64 0) w_24 fun t55 w_25 =>
            vif t55 (
              vcall P n_impl_EnvOk #[t17, t19] w_25 fun t59 w_26 =>
              vbin P .neq T_bool false t29 t59 w_26 fun t61 w_27 =>
              vif t61 (
                R (.bool false) w_27) (
                J [] w_27)) (
              vbin P .neq T_bool false t29 (.bool false) w_25 fun t61_1 w_28 =>
              vif t61_1 (
                R (.bool false) w_28) (
                J [] w_28)))))) (fun _ _ w_19 =>
      vun P .not t29 w_19 fun t64 w_29 =>
      vif t64 (
        vbin P .eql T_int true t28 (.int .i64 0) w_29 fun t66 w_30 =>
        R t66 w_30) (
        vbin P .eql T_int true t22 (.int .i64 0) w_29 fun t68 w_31 =>
        vif t68 (
          vbin P .eql T_int true t28 (.int .i64 0) w_31 fun t70 w_32 =>
          vif t70 (
            R (.bool true) w_32) (
            vbin P .eql T_int true t28 (.int .i64 1) w_32 fun t73 w_33 =>
            R t73 w_33)) (
          vbuild P T_impl_Vec [(0, t22), (1, t28)] w_31 fun t77 w_34 =>
          vcall P n_impl_VecOk #[t77] w_34 fun t78 w_35 =>
          R t78 w_35))))
def A_laws_FnTermSort : Ann := { ord := [], loops := [], cuts := [(32777, [])] }
theorem k_laws_FnTermSort (v0 : Value) (w : World) (R : Value → World → Prop) : vc PP A_laws_FnTermSort ((Tryz.f5.body).getD .skip) (retF PP Tryz.f5.results.toList R) (nthV [v0]) w = F_laws_FnTermSort PP v0 w R := by kernel_rfl
theorem c_laws_FnTermSort {v0 : Value} {w : World} {R : Value → World → Prop} (h : F_laws_FnTermSort PP v0 w R) : vcall PP n_laws_FnTermSort #[v0] w R :=
  call_of_vc (T := A_laws_FnTermSort) (c := (Tryz.f5.body).getD .skip) (n := 79) mixed Tryz.func5 rfl rfl (by kernel_rfl) (by kernel_rfl) rfl (by rw [k_laws_FnTermSort]; exact h)

/-- laws.FnTermLogic -/
def F_laws_FnTermLogic (P : Program) (v0 v1 : Value) (w : World) (R : Value → World → Prop) : Prop :=
  vjoin (fun J =>
    vbi P .len [T_Luint8] T_int [v0] w fun t22 w_2 =>
    vbin P .gtr T_int true t22 (.int .i64 1048576) w_2 fun t23 w_3 =>
    vif t23 (
      R (.bool true) w_3) (
      vbi P .len [T_Luint8] T_int [v1] w_3 fun t26 w_4 =>
      vbin P .gtr T_int true t26 (.int .i64 1048576) w_4 fun t27 w_5 =>
      vif t27 (
        R (.bool true) w_5) (
        J [] w_5))) (fun _ _ w_1 =>
    vcall P n_spec_DrawTermEval #[v0] w_1 fun t31 w_6 =>
    vextract P t31 0 w_6 fun t32 w_7 =>
    vextract P t31 1 w_7 fun t33 w_8 =>
    vextract P t31 2 w_8 fun t34 w_9 =>
    valloc P T_impl_Term w_9 fun t6 w_10 =>
    vstore P T_impl_Term t6 t33 w_10 fun _ w_11 =>
    vcall P n_spec_DrawTermSort #[v1] w_11 fun t37 w_12 =>
    vextract P t37 0 w_12 fun _ w_13 =>
    vextract P t37 1 w_13 fun t39 w_14 =>
    valloc P T_impl_Term w_14 fun t9 w_15 =>
    vstore P T_impl_Term t9 t39 w_15 fun _ w_16 =>
    vload P T_impl_Term t6 w_16 fun t42 w_17 =>
    vcall P n_impl_TermEval #[t32, t42, t34] w_17 fun t44 w_18 =>
    vextract P t44 0 w_18 fun t45 w_19 =>
    vextract P t44 1 w_19 fun t46 w_20 =>
    vload P T_impl_Term t6 w_20 fun t49 w_21 =>
    vcall P n_spec_TermEval #[t32, t49, t34] w_21 fun t51 w_22 =>
    vextract P t51 0 w_22 fun _ w_23 =>
    vextract P t51 1 w_23 fun t53 w_24 =>
    vjoin (fun J_1 =>
      vbin P .neq T_bool false t46 t53 w_24 fun t56 w_26 =>
      vif t56 (
        vbin P .eql T_bool false t46 t53 w_26 fun t75 w_27 =>
        R t75 w_27) (
        vun P .not t46 w_26 fun t59 w_28 =>
        vif t59 (
          vbin P .eql T_bool false t46 t53 w_28 fun t75_1 w_29 =>
          R t75_1 w_29) (
          vload P T_impl_Term t6 w_28 fun t63 w_30 =>
          vcall P n_impl_TermSort #[t32, t63] w_30 fun t64 w_31 =>
          vbin P .neq T_int true t64 (.int .i64 0) w_31 fun t65 w_32 =>
          vif t65 (
            vbin P .eql T_bool false t46 t53 w_32 fun t75_2 w_33 =>
            R t75_2 w_33) (
            vload P T_impl_Term t9 w_32 fun t69 w_34 =>
            vcall P n_impl_TermSort #[t32, t69] w_34 fun t70 w_35 =>
            vbin P .neq T_int true t70 (.int .i64 0) w_35 fun t71 w_36 =>
            vif t71 (
              vbin P .eql T_bool false t46 t53 w_36 fun t75_3 w_37 =>
              R t75_3 w_37) (
              J_1 [] w_36))))) (fun _ _ w_25 =>
      vload P T_impl_Term t6 w_25 fun t76 w_38 =>
      vbuildS P T_Limpl_Term 1 [(0, t76)] w_38 fun t77 w_39 =>
      vbuild P T_impl_Term [(0, (.int .i64 25)), (4, t77)] w_39 fun t78 w_40 =>
      valloc P T_impl_Term w_40 fun t14 w_41 =>
      vstore P T_impl_Term t14 t78 w_41 fun _ w_42 =>
      vload P T_impl_Term t6 w_42 fun t81 w_43 =>
      vload P T_impl_Term t9 w_43 fun t82 w_44 =>
      vbuildS P T_Limpl_Term 2 [(0, t81), (1, t82)] w_44 fun t83 w_45 =>
      vbuild P T_impl_Term [(0, (.int .i64 26)), (4, t83)] w_45 fun t84 w_46 =>
      vbuildS P T_Limpl_Term 1 [(0, t84)] w_46 fun t85 w_47 =>
      vbuild P T_impl_Term [(0, (.int .i64 25)), (4, t85)] w_47 fun t86 w_48 =>
      vcall P n_impl_TermEval #[t32, t86, t34] w_48 fun t88 w_49 =>
      vextract P t88 0 w_49 fun t89 w_50 =>
      vextract P t88 1 w_50 fun t90 w_51 =>
      vload P T_impl_Term t14 w_51 fun t93 w_52 =>
      vload P T_impl_Term t9 w_52 fun t94 w_53 =>
      vbuildS P T_Limpl_Term 1 [(0, t94)] w_53 fun t95 w_54 =>
      vbuild P T_impl_Term [(0, (.int .i64 25)), (4, t95)] w_54 fun t96 w_55 =>
      vbuildS P T_Limpl_Term 2 [(0, t93), (1, t96)] w_55 fun t97 w_56 =>
      vbuild P T_impl_Term [(0, (.int .i64 27)), (4, t97)] w_56 fun t98 w_57 =>
      vcall P n_impl_TermEval #[t32, t98, t34] w_57 fun t100 w_58 =>
      vextract P t100 0 w_58 fun t101 w_59 =>
      vextract P t100 1 w_59 fun t102 w_60 =>
      vload P T_impl_Term t6 w_60 fun t105 w_61 =>
      vbuild P T_impl_Term [(0, (.int .i64 24))] w_61 fun t106 w_62 =>
      vbuild P T_impl_Term [(0, (.int .i64 24))] w_62 fun t107 w_63 =>
      vbuildS P T_Limpl_Term 1 [(0, t107)] w_63 fun t108 w_64 =>
      vbuild P T_impl_Term [(0, (.int .i64 25)), (4, t108)] w_64 fun t109 w_65 =>
      vbuildS P T_Limpl_Term 3 [(0, t105), (1, t106), (2, t109)] w_65 fun t110 w_66 =>
      vbuild P T_impl_Term [(0, (.int .i64 23)), (4, t110)] w_66 fun t111 w_67 =>
      vcall P n_impl_TermEval #[t32, t111, t34] w_67 fun t113 w_68 =>
      vextract P t113 0 w_68 fun t114 w_69 =>
      vextract P t113 1 w_69 fun t115 w_70 =>
      vun P .not t90 w_70 fun t117 w_71 =>
      vif t117 (
        vun P .not t115 w_71 fun t129 w_72 =>
        vif t129 (
          R (.bool true) w_72) (
          vbin P .eql T_int false t114 t45 w_72 fun t133 w_73 =>
          R t133 w_73)) (
        vun P .not t102 w_71 fun t120 w_74 =>
        vif t120 (
          vun P .not t115 w_74 fun t129_1 w_75 =>
          vif t129_1 (
            R (.bool true) w_75) (
            vbin P .eql T_int false t114 t45 w_75 fun t133_1 w_76 =>
            R t133_1 w_76)) (
          vbin P .eql T_int false t89 t101 w_74 fun t125 w_77 =>
          vif t125 (
            vun P .not t115 w_77 fun t129_2 w_78 =>
            vif t129_2 (
              R (.bool true) w_78) (
              vbin P .eql T_int false t114 t45 w_78 fun t133_2 w_79 =>
              R t133_2 w_79)) (
            R (.bool false) w_77)))))
def A_laws_FnTermLogic : Ann := { ord := [], loops := [], cuts := [(8195, []), (32777, [])] }
theorem k_laws_FnTermLogic (v0 v1 : Value) (w : World) (R : Value → World → Prop) : vc PP A_laws_FnTermLogic ((Tryz.f6.body).getD .skip) (retF PP Tryz.f6.results.toList R) (nthV [v0, v1]) w = F_laws_FnTermLogic PP v0 v1 w R := by kernel_rfl
theorem c_laws_FnTermLogic {v0 v1 : Value} {w : World} {R : Value → World → Prop} (h : F_laws_FnTermLogic PP v0 v1 w R) : vcall PP n_laws_FnTermLogic #[v0, v1] w R :=
  call_of_vc (T := A_laws_FnTermLogic) (c := (Tryz.f6.body).getD .skip) (n := 136) mixed Tryz.func6 rfl rfl (by kernel_rfl) (by kernel_rfl) rfl (by rw [k_laws_FnTermLogic]; exact h)

/-- laws.FnTermEval -/
def F_laws_FnTermEval (P : Program) (v0 : Value) (w : World) (R : Value → World → Prop) : Prop :=
  vbi P .len [T_Luint8] T_int [v0] w fun t20 w_1 =>
  vbin P .gtr T_int true t20 (.int .i64 1048576) w_1 fun t21 w_2 =>
  vif t21 (
    R (.bool true) w_2) (
    vcall P n_spec_DrawTermEval #[v0] w_2 fun t24 w_3 =>
    vextract P t24 0 w_3 fun t25 w_4 =>
    vextract P t24 1 w_4 fun t26 w_5 =>
    vextract P t24 2 w_5 fun t27 w_6 =>
    valloc P T_impl_Term w_6 fun t4 w_7 =>
    vstore P T_impl_Term t4 t26 w_7 fun _ w_8 =>
    vload P T_impl_Term t4 w_8 fun t30 w_9 =>
    vcall P n_impl_TermEval #[t25, t30, t27] w_9 fun t32 w_10 =>
    vextract P t32 0 w_10 fun t33 w_11 =>
    vextract P t32 1 w_11 fun t34 w_12 =>
    vload P T_impl_Term t4 w_12 fun t37 w_13 =>
    vcall P n_spec_TermEval #[t25, t37, t27] w_13 fun t39 w_14 =>
    vextract P t39 0 w_14 fun t40 w_15 =>
    vextract P t39 1 w_15 fun t41 w_16 =>
    vjoin (fun J =>
      vbin P .neq T_int false t33 t40 w_16 fun t44 w_18 =>
      vif t44 (
        vbin P .eql T_int false t33 t40 w_18 fun t56 w_19 =>
        vif t56 (
          vbin P .eql T_bool false t34 t41 w_19 fun t60 w_20 =>
          R t60 w_20) (
          R (.bool false) w_19)) (
        vbin P .neq T_bool false t34 t41 w_18 fun t48 w_21 =>
        vif t48 (
          vbin P .eql T_int false t33 t40 w_21 fun t56_1 w_22 =>
          vif t56_1 (
            vbin P .eql T_bool false t34 t41 w_22 fun t60_1 w_23 =>
            R t60_1 w_23) (
            R (.bool false) w_22)) (
          vun P .not t34 w_21 fun t52 w_24 =>
          vif t52 (
            vbin P .eql T_int false t33 t40 w_24 fun t56_2 w_25 =>
            vif t56_2 (
              vbin P .eql T_bool false t34 t41 w_25 fun t60_2 w_26 =>
              R t60_2 w_26) (
              R (.bool false) w_25)) (
            J [] w_24)))) (fun _ _ w_17 =>
      vbuildS P T_Lint 0 [] w_17 fun t62 w_27 =>
      vbuildS P T_Limpl_Vec 0 [] w_27 fun t63 w_28 =>
      vloop [t62, t63, (.int .i64 0)] w_28 fun C u_1 _ w_29 =>
        vfaddr P T_impl_Term t4 4 w_29 fun t65 w_30 =>
        vload P T_Limpl_Term t65 w_30 fun t66 w_31 =>
        vbi P .len [T_Limpl_Term] T_int [t66] w_31 fun t67 w_32 =>
        vbin P .lss T_int false (sl 2 u_1) t67 w_32 fun t68 w_33 =>
        vif t68 (
          vfaddr P T_impl_Term t4 4 w_33 fun t73 w_34 =>
          vload P T_Limpl_Term t73 w_34 fun t74 w_35 =>
          viaddr P T_Limpl_Term t74 (sl 2 u_1) w_35 fun t76 w_36 =>
          vload P T_impl_Term t76 w_36 fun t77 w_37 =>
          vcall P n_impl_TermEval #[t25, t77, t27] w_37 fun t79 w_38 =>
          vextract P t79 0 w_38 fun t80 w_39 =>
          vextract P t79 1 w_39 fun t81 w_40 =>
          vun P .not t81 w_40 fun t83 w_41 =>
          vif t83 (
            R (.bool false) w_41) (
            vbuildS P T_Lint 1 [(0, t80)] w_41 fun t86 w_42 =>
            vbi P .append [T_Lint, T_Lint] T_Lint [(sl 0 u_1), t86] w_42 fun t87 w_43 =>
            vfaddr P T_impl_Term t4 4 w_43 fun t90 w_44 =>
            vload P T_Limpl_Term t90 w_44 fun t91 w_45 =>
            viaddr P T_Limpl_Term t91 (sl 2 u_1) w_45 fun t93 w_46 =>
            vload P T_impl_Term t93 w_46 fun t94 w_47 =>
            vcall P n_impl_TermSort #[t25, t94] w_47 fun t95 w_48 =>
            vbuild P T_impl_Vec [(0, t95), (1, t80)] w_48 fun t97 w_49 =>
            vbuildS P T_Limpl_Vec 1 [(0, t97)] w_49 fun t98 w_50 =>
            vbi P .append [T_Limpl_Vec, T_Limpl_Vec] T_Limpl_Vec [(sl 1 u_1), t98] w_50 fun t99 w_51 =>
            vbin P .add T_int true (sl 2 u_1) (.int .i64 1) w_51 fun t70 w_52 =>
            C [t87, t99, t70] w_52)) (
          vjoin (fun J_1 =>
            vfaddr P T_impl_Term t4 0 w_33 fun t101 w_54 =>
            vload P T_int t101 w_54 fun t102 w_55 =>
            vbin P .eql T_int true t102 (.int .i64 20) w_55 fun t103 w_56 =>
            vif t103 (
              vfaddr P T_impl_Term t4 2 w_56 fun t105 w_57 =>
              vload P T_int t105 w_57 fun t106 w_58 =>
              vbin P .eql T_int false t33 t106 w_58 fun t107 w_59 =>
              R t107 w_59) (
              vfaddr P T_impl_Term t4 0 w_56 fun t109 w_60 =>
              vload P T_int t109 w_60 fun t110 w_61 =>
              vbin P .eql T_int true t110 (.int .i64 24) w_61 fun t111 w_62 =>
              vif t111 (
                vbin P .eql T_int true t33 (.int .i64 1) w_62 fun t113 w_63 =>
                R t113 w_63) (
                vfaddr P T_impl_Term t4 0 w_62 fun t115 w_64 =>
                vload P T_int t115 w_64 fun t116 w_65 =>
                vbin P .eql T_int true t116 (.int .i64 25) w_65 fun t117 w_66 =>
                vif t117 (
                  viaddr P T_Lint (sl 0 u_1) (.int .i64 0) w_66 fun t120 w_67 =>
                  vload P T_int t120 w_67 fun t121 w_68 =>
                  vbin P .sub T_int true (.int .i64 1) t121 w_68 fun t122 w_69 =>
                  vbin P .eql T_int false t33 t122 w_69 fun t123 w_70 =>
                  R t123 w_70) (
                  vfaddr P T_impl_Term t4 0 w_66 fun t125 w_71 =>
                  vload P T_int t125 w_71 fun t126 w_72 =>
                  vbin P .eql T_int true t126 (.int .i64 26) w_72 fun t127 w_73 =>
                  vif t127 (
                    vdraw w_73 fun w_74 =>
                    viaddr P T_Lint (sl 0 u_1) (.int .i64 0) w_74 fun t130 w_75 => w_75 = w_74 ∧
                    vload P T_int t130 w_74 fun t131 w_76 => w_76 = w_74 ∧
                    viaddr P T_Lint (sl 0 u_1) (.int .i64 1) w_74 fun t133 w_77 => w_77 = w_74 ∧
                    vload P T_int t133 w_74 fun t134 w_78 => w_78 = w_74 ∧
                    vbin P .mul T_int false t131 t134 w_74 fun t135 w_79 => w_79 = w_74 ∧
                    vbin P .eql T_int false t33 t135 w_74 fun t136 w_80 => w_80 = w_74 ∧
                    R t136 w_74) (
                    vfaddr P T_impl_Term t4 0 w_73 fun t138 w_81 =>
                    vload P T_int t138 w_81 fun t139 w_82 =>
                    vbin P .eql T_int true t139 (.int .i64 27) w_82 fun t140 w_83 =>
                    vif t140 (
                      vdraw w_83 fun w_84 =>
                      viaddr P T_Lint (sl 0 u_1) (.int .i64 0) w_84 fun t143 w_85 => w_85 = w_84 ∧
                      vload P T_int t143 w_84 fun t144 w_86 => w_86 = w_84 ∧
                      viaddr P T_Lint (sl 0 u_1) (.int .i64 1) w_84 fun t146 w_87 => w_87 = w_84 ∧
                      vload P T_int t146 w_84 fun t147 w_88 => w_88 = w_84 ∧
                      vbin P .add T_int false t144 t147 w_84 fun t148 w_89 => w_89 = w_84 ∧
                      viaddr P T_Lint (sl 0 u_1) (.int .i64 0) w_84 fun t150 w_90 => w_90 = w_84 ∧
                      vload P T_int t150 w_84 fun t151 w_91 => w_91 = w_84 ∧
                      viaddr P T_Lint (sl 0 u_1) (.int .i64 1) w_84 fun t153 w_92 => w_92 = w_84 ∧
                      vload P T_int t153 w_84 fun t154 w_93 => w_93 = w_84 ∧
                      vbin P .mul T_int false t151 t154 w_84 fun t155 w_94 => w_94 = w_84 ∧
                      vbin P .sub T_int false t148 t155 w_84 fun t156 w_95 => w_95 = w_84 ∧
                      vbin P .eql T_int false t33 t156 w_84 fun t157 w_96 => w_96 = w_84 ∧
                      R t157 w_84) (
                      vfaddr P T_impl_Term t4 0 w_83 fun t159 w_97 =>
                      vload P T_int t159 w_97 fun t160 w_98 =>
                      vbin P .eql T_int true t160 (.int .i64 23) w_98 fun t161 w_99 =>
                      vif t161 (
                        viaddr P T_Lint (sl 0 u_1) (.int .i64 0) w_99 fun t165 w_100 =>
                        vload P T_int t165 w_100 fun t166 w_101 =>
                        vbin P .sub T_int true (.int .i64 2) t166 w_101 fun t167 w_102 =>
                        viaddr P T_Lint (sl 0 u_1) t167 w_102 fun t168 w_103 =>
                        vload P T_int t168 w_103 fun t169 w_104 =>
                        vbin P .eql T_int false t33 t169 w_104 fun t170 w_105 =>
                        R t170 w_105) (
                        vfaddr P T_impl_Term t4 0 w_99 fun t172 w_106 =>
                        vload P T_int t172 w_106 fun t173 w_107 =>
                        vbin P .eql T_int true t173 (.int .i64 22) w_107 fun t174 w_108 =>
                        vif t174 (
                          vjoin (fun J_2 =>
                            vdraw w_108 fun w_110 =>
                            viaddr P T_Limpl_Vec (sl 1 u_1) (.int .i64 0) w_110 fun t177 w_111 => w_111 = w_110 ∧
                            vload P T_impl_Vec t177 w_110 fun t178 w_112 => w_112 = w_110 ∧
                            vfaddr P T_impl_Term t4 1 w_110 fun t179 w_113 => w_113 = w_110 ∧
                            vload P T_int t179 w_110 fun t180 w_114 => w_114 = w_110 ∧
                            vfaddr P T_impl_Term t4 2 w_110 fun t181 w_115 => w_115 = w_110 ∧
                            vload P T_int t181 w_110 fun t182 w_116 => w_116 = w_110 ∧
                            (vcall P n_impl_VecCut #[t178, t180, t182] w_110 fun t183 w_117 =>
                              vextract P t183 0 w_117 fun t184 w_118 => w_118 = w_117 ∧
                              vextract P t183 1 w_117 fun t185 w_119 => w_119 = w_117 ∧
                              (valloc P T_impl_Vec w_117 fun t15 w_120 => (vextract P t183 1 w_120 fun v x => v = t185 ∧ x = w_120) ∧ (vextract P t183 0 w_120 fun v x => v = t184 ∧ x = w_120) ∧
                                (vstore P T_impl_Vec t15 t184 w_120 fun _ w_121 => (vextract P t183 1 w_121 fun v x => v = t185 ∧ x = w_121) ∧
                                  J_2 [t15] w_121) ∧
                                True) ∧
                              True) ∧
                            (valloc P T_impl_Vec w_110 fun t15_1 w_122 => (vload P T_int t181 w_122 fun v x => v = t182 ∧ x = w_122) ∧ (vfaddr P T_impl_Term t4 2 w_122 fun v x => v = t181 ∧ x = w_122) ∧ (vload P T_int t179 w_122 fun v x => v = t180 ∧ x = w_122) ∧ (vfaddr P T_impl_Term t4 1 w_122 fun v x => v = t179 ∧ x = w_122) ∧ (vload P T_impl_Vec t177 w_122 fun v x => v = t178 ∧ x = w_122) ∧ (viaddr P T_Limpl_Vec (sl 1 u_1) (.int .i64 0) w_122 fun v x => v = t177 ∧ x = w_122) ∧
                              (vcall P n_impl_VecCut #[t178, t180, t182] w_122 fun t183_1 w_123 =>
                                vextract P t183_1 0 w_123 fun t184_1 w_124 => w_124 = w_123 ∧
                                vextract P t183_1 1 w_123 fun t185_1 w_125 => w_125 = w_123 ∧
                                (vstore P T_impl_Vec t15_1 t184_1 w_123 fun _ w_126 => (vextract P t183_1 1 w_126 fun v x => v = t185_1 ∧ x = w_126) ∧
                                  J_2 [t15_1] w_126) ∧
                                True) ∧
                              True) ∧
                            True) (fun u_3 _ w_109 =>
                            vfaddr P T_impl_Vec (sl 0 u_3) 1 w_109 fun t187 w_127 =>
                            vload P T_int t187 w_127 fun t188 w_128 =>
                            vbin P .eql T_int false t33 t188 w_128 fun t189 w_129 =>
                            R t189 w_129)) (
                          vfaddr P T_impl_Term t4 4 w_108 fun t191 w_130 =>
                          vload P T_Limpl_Term t191 w_130 fun t192 w_131 =>
                          vbi P .len [T_Limpl_Term] T_int [t192] w_131 fun t193 w_132 =>
                          vbin P .eql T_int true t193 (.int .i64 1) w_132 fun t194 w_133 =>
                          vif t194 (
                            vdraw w_133 fun w_134 =>
                            vfaddr P T_impl_Term t4 0 w_134 fun t196 w_135 => w_135 = w_134 ∧
                            vload P T_int t196 w_134 fun t197 w_136 => w_136 = w_134 ∧
                            viaddr P T_Limpl_Vec (sl 1 u_1) (.int .i64 0) w_134 fun t199 w_137 => w_137 = w_134 ∧
                            vload P T_impl_Vec t199 w_134 fun t200 w_138 => w_138 = w_134 ∧
                            vcall P n_laws_wpUn #[t197, t200] w_134 fun t201 w_139 =>
                            vfield P T_impl_Vec t201 1 w_139 fun t202 w_140 => w_140 = w_139 ∧
                            vbin P .eql T_int false t33 t202 w_139 fun t203 w_141 => w_141 = w_139 ∧
                            R t203 w_139) (
                            vjoin (fun J_3 =>
                              vfaddr P T_impl_Term t4 4 w_133 fun t205 w_143 =>
                              vload P T_Limpl_Term t205 w_143 fun t206 w_144 =>
                              vbi P .len [T_Limpl_Term] T_int [t206] w_144 fun t207 w_145 =>
                              vbin P .eql T_int true t207 (.int .i64 2) w_145 fun t208 w_146 =>
                              vif t208 (
                                vfaddr P T_impl_Term t4 0 w_146 fun t210 w_147 =>
                                vload P T_int t210 w_147 fun t211 w_148 =>
                                vbin P .geq T_int true t211 (.int .i64 15) w_148 fun t212 w_149 =>
                                J_3 [t212] w_149) (
                                J_3 [(.bool false)] w_146)) (fun u_4 _ w_142 =>
                              vif (sl 0 u_4) (
                                vdraw w_142 fun w_150 =>
                                vfaddr P T_impl_Term t4 0 w_150 fun t215 w_151 => w_151 = w_150 ∧
                                vload P T_int t215 w_150 fun t216 w_152 => w_152 = w_150 ∧
                                viaddr P T_Limpl_Vec (sl 1 u_1) (.int .i64 0) w_150 fun t218 w_153 => w_153 = w_150 ∧
                                vload P T_impl_Vec t218 w_150 fun t219 w_154 => w_154 = w_150 ∧
                                viaddr P T_Limpl_Vec (sl 1 u_1) (.int .i64 1) w_150 fun t221 w_155 => w_155 = w_150 ∧
                                vload P T_impl_Vec t221 w_150 fun t222 w_156 => w_156 = w_150 ∧
                                vcall P n_impl_VecCmp #[t216, t219, t222] w_150 fun t223 w_157 =>
                                vextract P t223 0 w_157 fun t224 w_158 => w_158 = w_157 ∧
                                vextract P t223 1 w_157 fun _ w_159 => w_159 = w_157 ∧
                                vbin P .eql T_int true t33 (.int .i64 1) w_157 fun t228 w_160 =>
                                vbin P .eql T_bool false t224 t228 w_160 fun t229 w_161 =>
                                R t229 w_161) (
                                vfaddr P T_impl_Term t4 4 w_142 fun t231 w_162 =>
                                vload P T_Limpl_Term t231 w_162 fun t232 w_163 =>
                                vbi P .len [T_Limpl_Term] T_int [t232] w_163 fun t233 w_164 =>
                                vbin P .eql T_int true t233 (.int .i64 2) w_164 fun t234 w_165 =>
                                vif t234 (
                                  vdraw w_165 fun w_166 =>
                                  vfaddr P T_impl_Term t4 0 w_166 fun t236 w_167 => w_167 = w_166 ∧
                                  vload P T_int t236 w_166 fun t237 w_168 => w_168 = w_166 ∧
                                  viaddr P T_Limpl_Vec (sl 1 u_1) (.int .i64 0) w_166 fun t239 w_169 => w_169 = w_166 ∧
                                  vload P T_impl_Vec t239 w_166 fun t240 w_170 => w_170 = w_166 ∧
                                  viaddr P T_Limpl_Vec (sl 1 u_1) (.int .i64 1) w_166 fun t242 w_171 => w_171 = w_166 ∧
                                  vload P T_impl_Vec t242 w_166 fun t243 w_172 => w_172 = w_166 ∧
                                  vcall P n_laws_wpBin #[t237, t240, t243] w_166 fun t244 w_173 =>
                                  vfield P T_impl_Vec t244 1 w_173 fun t245 w_174 => w_174 = w_173 ∧
                                  vbin P .eql T_int false t33 t245 w_173 fun t246 w_175 => w_175 = w_173 ∧
                                  R t246 w_173) (
                                  J_1 [] w_165)))))))))))) (fun _ _ w_53 =>
            vfaddr P T_impl_Term t4 0 w_53 fun t247 w_176 =>
            vload P T_int t247 w_176 fun t248 w_177 =>
            vbin P .eql T_int true t248 (.int .i64 21) w_177 fun t249 w_178 =>
            R t249 w_178))))
def A_laws_FnTermEval : Ann := { ord := [(25, [0, 1, 2, 3, 4, 5, 6, 7, 8, 9], [(0, [8, 9]), (1, [2, 3, 7, 8, 9]), (2, [3, 7, 8, 9]), (3, [7, 8, 9]), (4, [5, 6, 7, 8, 9]), (5, [6, 7, 8, 9]), (6, [7, 8, 9]), (7, [8, 9]), (8, [9])]), (27, [0, 1, 2, 3, 4, 5, 6, 7, 8, 9, 10, 11, 12, 13, 14, 15, 16, 17], [(0, [16, 17]), (1, [2, 3, 7, 15, 16, 17]), (2, [3, 7, 15, 16, 17]), (3, [7, 15, 16, 17]), (4, [5, 6, 7, 15, 16, 17]), (5, [6, 7, 15, 16, 17]), (6, [7, 15, 16, 17]), (7, [15, 16, 17]), (8, [9, 10, 14, 15, 16, 17]), (9, [10, 14, 15, 16, 17]), (10, [14, 15, 16, 17]), (11, [12, 13, 14, 15, 16, 17]), (12, [13, 14, 15, 16, 17]), (13, [14, 15, 16, 17]), (14, [15, 16, 17]), (15, [16, 17]), (16, [17])]), (34, [0, 1, 2, 3, 4, 5, 6, 7, 8, 9], [(0, [8, 9]), (1, [2, 6, 7, 8, 9]), (2, [6, 7, 8, 9]), (3, [4, 5, 6, 7, 8, 9]), (4, [5, 6, 7, 8, 9]), (5, [6, 7, 8, 9]), (6, [7, 8, 9]), (7, [8, 9]), (8, [9])]), (36, [0, 1, 2, 3, 4, 5, 6, 7, 8, 9, 10, 11, 12, 13], [(0, [1, 8, 9, 10, 11, 12, 13]), (1, [8, 9, 10, 11, 12, 13]), (2, [3, 4, 8, 9, 10, 11, 12, 13]), (3, [4, 8, 9, 10, 11, 12, 13]), (4, [8, 9, 10, 11, 12, 13]), (5, [6, 7, 8, 9, 10, 11, 12, 13]), (6, [7, 8, 9, 10, 11, 12, 13]), (7, [8, 9, 10, 11, 12, 13]), (8, [9, 10, 11, 12, 13]), (9, [10, 11, 12, 13]), (10, [12, 13]), (11, [13]), (12, [13])]), (39, [0, 1, 2, 3, 4, 5, 6, 7, 8, 9, 10, 11, 12], [(0, [11, 12]), (1, [2, 9, 10, 11, 12]), (2, [9, 10, 11, 12]), (3, [4, 5, 9, 10, 11, 12]), (4, [5, 9, 10, 11, 12]), (5, [9, 10, 11, 12]), (6, [7, 8, 9, 10, 11, 12]), (7, [8, 9, 10, 11, 12]), (8, [9, 10, 11, 12]), (9, [10, 11, 12]), (10, [11, 12]), (11, [12])])], loops := [(11, [10, 11, 12])], cuts := [(28680, []), (77864, []), (131104, [15]), (147492, [204])], trees := [(31, (.st 0 (.st 1 (.st 2 (.st 3 (.st 4 (.st 5 (.st 6 (.alt 7 (.st 8 (.st 9 (.st 10 (.alt 11 (.alt 12 (.st 13 .nil) .no) .no)))) (.alt 11 (.alt 7 (.st 8 (.st 9 (.st 10 (.alt 12 (.st 13 .nil) .no)))) .no) .no))))))))), [(0, [1, 2, 7, 8, 9, 10, 12, 13]), (1, [2, 7, 8, 9, 10, 12, 13]), (2, [7, 8, 9, 10, 12, 13]), (3, [4, 7, 8, 9, 10, 12, 13]), (4, [7, 8, 9, 10, 12, 13]), (5, [6, 7, 8, 9, 10, 12, 13]), (6, [7, 8, 9, 10, 12, 13]), (7, [8, 9, 10, 12, 13]), (8, [9, 10, 12, 13]), (9, [12, 13]), (10, [13]), (11, [12, 13]), (12, [13])])] }
theorem k_laws_FnTermEval (v0 : Value) (w : World) (R : Value → World → Prop) : vc PP A_laws_FnTermEval ((Tryz.f7.body).getD .skip) (retF PP Tryz.f7.results.toList R) (nthV [v0]) w = F_laws_FnTermEval PP v0 w R := by kernel_rfl
theorem c_laws_FnTermEval {v0 : Value} {w : World} {R : Value → World → Prop} (h : F_laws_FnTermEval PP v0 w R) : vcall PP n_laws_FnTermEval #[v0] w R :=
  call_of_vc (T := A_laws_FnTermEval) (c := (Tryz.f7.body).getD .skip) (n := 250) mixed Tryz.func7 rfl rfl (by kernel_rfl) (by kernel_rfl) rfl (by rw [k_laws_FnTermEval]; exact h)

/-- laws.FnTermName -/
def F_laws_FnTermName (P : Program) (v0 v1 : Value) (w : World) (R : Value → World → Prop) : Prop :=
  vjoin (fun J =>
    vbi P .len [T_Luint8] T_int [v0] w fun t19 w_2 =>
    vbin P .gtr T_int true t19 (.int .i64 1048576) w_2 fun t20 w_3 =>
    vif t20 (
      R (.bool true) w_3) (
      vbi P .len [T_Luint8] T_int [v1] w_3 fun t23 w_4 =>
      vbin P .gtr T_int true t23 (.int .i64 1048576) w_4 fun t24 w_5 =>
      vif t24 (
        R (.bool true) w_5) (
        J [] w_5))) (fun _ _ w_1 =>
    vcall P n_spec_DrawTermEval #[v0] w_1 fun t28 w_6 =>
    vextract P t28 0 w_6 fun t29 w_7 =>
    vextract P t28 1 w_7 fun t30 w_8 =>
    vextract P t28 2 w_8 fun t31 w_9 =>
    valloc P T_impl_Term w_9 fun t6 w_10 =>
    vstore P T_impl_Term t6 t30 w_10 fun _ w_11 =>
    vload P T_impl_Term t6 w_11 fun t34 w_12 =>
    vcall P n_impl_TermEval #[t29, t34, t31] w_12 fun t36 w_13 =>
    vextract P t36 0 w_13 fun t37 w_14 =>
    vextract P t36 1 w_14 fun t38 w_15 =>
    vload P T_impl_Term t6 w_15 fun t41 w_16 =>
    vcall P n_spec_TermEval #[t29, t41, t31] w_16 fun t43 w_17 =>
    vextract P t43 0 w_17 fun _ w_18 =>
    vextract P t43 1 w_18 fun t45 w_19 =>
    vjoin (fun J_1 =>
      vbin P .neq T_bool false t38 t45 w_19 fun t48 w_21 =>
      vif t48 (
        vbin P .eql T_bool false t38 t45 w_21 fun t60 w_22 =>
        R t60 w_22) (
        vun P .not t38 w_21 fun t51 w_23 =>
        vif t51 (
          vbin P .eql T_bool false t38 t45 w_23 fun t60_1 w_24 =>
          R t60_1 w_24) (
          vbi P .len [T_Limpl_Decl] T_int [t29] w_23 fun t55 w_25 =>
          vbin P .eql T_int true t55 (.int .i64 0) w_25 fun t56 w_26 =>
          vif t56 (
            vbin P .eql T_bool false t38 t45 w_26 fun t60_2 w_27 =>
            R t60_2 w_27) (
            J_1 [] w_26)))) (fun _ _ w_20 =>
      vbi P .len [T_Luint8] T_int [v1] w_20 fun t62 w_28 =>
      vbi P .len [T_Limpl_Decl] T_int [t29] w_28 fun t64 w_29 =>
      vbin P .rem T_int false t62 t64 w_29 fun t65 w_30 =>
      viaddr P T_Limpl_Decl t29 t65 w_30 fun t70 w_31 =>
      vfaddr P T_impl_Decl t70 0 w_31 fun t71 w_32 =>
      vload P T_string t71 w_32 fun t72 w_33 =>
      vbuild P T_impl_Term [(0, (.int .i64 21)), (3, t72)] w_33 fun t73 w_34 =>
      vcall P n_impl_TermEval #[t29, t73, t31] w_34 fun t75 w_35 =>
      vextract P t75 0 w_35 fun t76 w_36 =>
      vextract P t75 1 w_36 fun t77 w_37 =>
      vbuildS P T_Lint 0 [] w_37 fun t78 w_38 =>
      vbi P .append [T_Lint, T_Lint] T_Lint [t78, t31] w_38 fun t80 w_39 =>
      viaddr P T_Lint t31 t65 w_39 fun t85 w_40 =>
      vload P T_int t85 w_40 fun t86 w_41 =>
      vbin P .rem T_int true t86 (.int .i64 2) w_41 fun t87 w_42 =>
      vbin P .sub T_int true (.int .i64 1) t87 w_42 fun t88 w_43 =>
      viaddr P T_Lint t80 t65 w_43 fun t89 w_44 =>
      vstore P T_int t89 t88 w_44 fun _ w_45 =>
      vload P T_impl_Term t6 w_45 fun t92 w_46 =>
      vcall P n_impl_TermEval #[t29, t92, t80] w_46 fun t94 w_47 =>
      vextract P t94 0 w_47 fun t95 w_48 =>
      vextract P t94 1 w_48 fun t96 w_49 =>
      vdraw w_49 fun w_50 =>
      vif t77 (
        vif t96 (
          viaddr P T_Lint t31 t65 w_50 fun t105 w_51 => w_51 = w_50 ∧
          vload P T_int t105 w_50 fun t106 w_52 => w_52 = w_50 ∧
          vbin P .eql T_int false t76 t106 w_50 fun t107 w_53 => w_53 = w_50 ∧
          vif t107 (
            vbin P .eql T_int false t95 t37 w_50 fun t112 w_54 => w_54 = w_50 ∧
            vif t112 (
              R (.bool true) w_50) (
              vload P T_impl_Term t6 w_50 fun t114 w_55 => w_55 = w_50 ∧
              viaddr P T_Limpl_Decl t29 t65 w_50 fun t117 w_56 => w_56 = w_50 ∧
              vfaddr P T_impl_Decl t117 0 w_50 fun t118 w_57 => w_57 = w_50 ∧
              vload P T_string t118 w_50 fun t119 w_58 => w_58 = w_50 ∧
              vcall P n_laws_wpNames #[t114, t119] w_50 fun t120 w_59 =>
              R t120 w_59)) (
            R (.bool false) w_50)) (
          R (.bool false) w_50)) (
        R (.bool false) w_50)))
def A_laws_FnTermName : Ann := { ord := [(13, [0, 1, 2, 3, 4, 5, 6, 7, 8, 9, 10, 11, 12, 13, 14, 15, 16, 17, 18, 19, 20, 21, 22, 23, 24, 25, 26], [(0, [1, 2, 3, 4, 5, 6, 7, 8, 9, 10, 11, 12, 13, 14, 15, 16, 17, 18, 19, 20, 21, 22, 23, 24, 25, 26]), (1, [2, 3, 4, 5, 6, 7, 8, 9, 10, 11, 12, 13, 14, 15, 16, 17, 18, 19, 20, 21, 22, 23, 24, 25, 26]), (2, [3, 4, 5, 6, 7, 8, 9, 10, 11, 12, 13, 14, 15, 16, 17, 18, 19, 20, 21, 22, 23, 24, 25, 26]), (3, [4, 5, 6, 7, 8, 9, 10, 11, 12, 13, 14, 15, 16, 17, 18, 19, 20, 21, 22, 23, 24, 25, 26]), (4, [5, 6, 7, 8, 9, 10, 11, 12, 13, 14, 15, 16, 17, 18, 19, 20, 21, 22, 23, 24, 25, 26]), (5, [10, 11, 12, 13, 14, 15, 16, 17, 18, 19, 20, 21, 22, 23, 24, 25, 26]), (6, [8, 9, 10, 11, 12, 13, 14, 15, 16, 17, 18, 19, 20, 21, 22, 23, 24, 25, 26]), (7, [8, 9, 10, 11, 12, 13, 14, 15, 16, 17, 18, 19, 20, 21, 22, 23, 24, 25, 26]), (8, [9, 10, 11, 12, 13, 14, 15, 16, 17, 18, 19, 20, 21, 22, 23, 24, 25, 26]), (9, [10, 11, 12, 13, 14, 15, 16, 17, 18, 19, 20, 21, 22, 23, 24, 25, 26]), (10, [11, 12, 13, 14, 15, 16, 17, 18, 19, 20, 21, 22, 23, 24, 25, 26]), (11, [12, 13, 14, 15, 16, 17, 18, 19, 20, 21, 22, 23, 24, 25, 26]), (12, [13, 14, 15, 16, 17, 18, 19, 20, 21, 22, 23, 24, 25, 26]), (13, [15, 16, 17, 18, 19, 20, 21, 22, 23, 24, 25, 26]), (14, [15, 16, 17, 18, 19, 20, 21, 22, 23, 24, 25, 26]), (15, [16, 17, 18, 19, 20, 21, 22, 23, 24, 25, 26]), (16, [17, 18, 19, 20, 21, 22, 23, 24, 25, 26]), (17, [23, 24, 25, 26]), (18, [20, 21, 22, 23, 24, 25, 26]), (19, [20, 21, 22, 23, 24, 25, 26]), (20, [21, 22, 23, 24, 25, 26]), (21, [22, 23, 24, 25, 26]), (22, [23, 24, 25, 26]), (23, [24, 25, 26]), (24, [25, 26]), (25, [26])])], loops := [], cuts := [(8195, []), (28680, [])] }
theorem k_laws_FnTermName (v0 v1 : Value) (w : World) (R : Value → World → Prop) : vc PP A_laws_FnTermName ((Tryz.f8.body).getD .skip) (retF PP Tryz.f8.results.toList R) (nthV [v0, v1]) w = F_laws_FnTermName PP v0 v1 w R := by kernel_rfl
theorem c_laws_FnTermName {v0 v1 : Value} {w : World} {R : Value → World → Prop} (h : F_laws_FnTermName PP v0 v1 w R) : vcall PP n_laws_FnTermName #[v0, v1] w R :=
  call_of_vc (T := A_laws_FnTermName) (c := (Tryz.f8.body).getD .skip) (n := 123) mixed Tryz.func8 rfl rfl (by kernel_rfl) (by kernel_rfl) rfl (by rw [k_laws_FnTermName]; exact h)

/-- laws.FnExactTermRead -/
def F_laws_FnExactTermRead (P : Program) (v0 v1 : Value) (w : World) (R : Value → World → Prop) : Prop :=
  vbi P .len [T_string] T_int [v1] w fun t17 w_1 =>
  vbin P .gtr T_int true t17 (.int .i64 1048576) w_1 fun t18 w_2 =>
  vif t18 (
    R (.bool true) w_2) (
    vcall P n_laws_szDeclS #[v0, (.int .i64 1048576)] w_2 fun t21 w_3 =>
    vbin P .lss T_int true t21 (.int .i64 0) w_3 fun t23 w_4 =>
    vif t23 (
      R (.bool true) w_4) (
      vcall P n_laws_toDeclS #[v0] w_4 fun t26 w_5 =>
      vcall P n_spec_TermRead #[t26, v1] w_5 fun t28 w_6 =>
      vextract P t28 0 w_6 fun t29 w_7 =>
      vextract P t28 1 w_7 fun t30 w_8 =>
      valloc P T_impl_Term w_8 fun t6 w_9 =>
      vstore P T_impl_Term t6 t29 w_9 fun _ w_10 =>
      vcall P n_laws_toDeclS #[v0] w_10 fun t32 w_11 =>
      vcall P n_impl_TermRead #[t32, v1] w_11 fun t36 w_12 =>
      vextract P t36 0 w_12 fun t37 w_13 =>
      vextract P t36 1 w_13 fun t38 w_14 =>
      valloc P T_impl_Term w_14 fun t9 w_15 =>
      vstore P T_impl_Term t9 t37 w_15 fun _ w_16 =>
      vjoin (fun J =>
        vload P T_impl_Term t9 w_16 fun t39 w_18 =>
        vload P T_impl_Term t6 w_18 fun t40 w_19 =>
        vcall P n_laws_eqTerm #[t39, t40] w_19 fun t41 w_20 =>
        vun P .not t41 w_20 fun t42 w_21 =>
        vif t42 (
          R (.bool false) w_21) (
          vbin P .neq T_bool false t38 t30 w_21 fun t46 w_22 =>
          vif t46 (
            R (.bool false) w_22) (
            J [] w_22))) (fun _ _ w_17 =>
        vcall P n_laws_toDeclS #[v0] w_17 fun t50 w_23 =>
        vcall P n_laws_eqDeclS #[t32, t50] w_23 fun t51 w_24 =>
        vun P .not t51 w_24 fun t52 w_25 =>
        vif t52 (
          R (.bool false) w_25) (
          vcall P n_laws_markDeclS #[t32, (.int .i64 1)] w_25 fun t55 w_26 =>
          vjoin (fun J_1 =>
            vbin P .lss T_int true t55 (.int .i64 0) w_26 fun t57 w_28 =>
            vif t57 (
              R (.bool false) w_28) (
              vload P T_impl_Term t9 w_28 fun t59 w_29 =>
              vload P T_impl_Term t6 w_29 fun t60 w_30 =>
              vcall P n_laws_eqTerm #[t59, t60] w_30 fun t61 w_31 =>
              vun P .not t61 w_31 fun t62 w_32 =>
              vif t62 (
                R (.bool false) w_32) (
                vbin P .neq T_bool false t38 t30 w_32 fun t67 w_33 =>
                vif t67 (
                  R (.bool false) w_33) (
                  J_1 [] w_33)))) (fun _ _ w_27 =>
            vload P T_impl_Term t9 w_27 fun t69 w_34 =>
            vcall P n_laws_markTerm #[t69, (.int .i64 1)] w_34 fun t71 w_35 =>
            vload P T_impl_Term t9 w_35 fun t72 w_36 =>
            vcall P n_laws_heldTerm #[t72, (.int .i64 1)] w_36 fun t74 w_37 =>
            vbin P .lss T_int true t74 (.int .i64 0) w_37 fun t76 w_38 =>
            vif t76 (
              R (.bool false) w_38) (
              vbin P .neq T_int false t74 t71 w_38 fun t79 w_39 =>
              vif t79 (
                R (.bool false) w_39) (
                vcall P n_laws_toDeclS #[v0] w_39 fun t82 w_40 =>
                vcall P n_impl_TermRead #[t82, v1] w_40 fun t84 w_41 =>
                vextract P t84 0 w_41 fun t85 w_42 =>
                vextract P t84 1 w_42 fun t86 w_43 =>
                valloc P T_impl_Term w_43 fun t14 w_44 =>
                vstore P T_impl_Term t14 t85 w_44 fun _ w_45 =>
                vload P T_impl_Term t14 w_45 fun t87 w_46 =>
                vload P T_impl_Term t6 w_46 fun t88 w_47 =>
                vcall P n_laws_eqTerm #[t87, t88] w_47 fun t89 w_48 =>
                vun P .not t89 w_48 fun t90 w_49 =>
                vif t90 (
                  R (.bool false) w_49) (
                  vbin P .neq T_bool false t86 t30 w_49 fun t94 w_50 =>
                  vif t94 (
                    R (.bool false) w_50) (
                    vload P T_impl_Term t9 w_50 fun t96 w_51 =>
                    vcall P n_laws_heldTerm #[t96, (.int .i64 1)] w_51 fun t98 w_52 =>
                    vbin P .lss T_int true t98 (.int .i64 0) w_52 fun t100 w_53 =>
                    vif t100 (
                      R (.bool false) w_53) (
                      vbin P .neq T_int false t98 t71 w_53 fun t103 w_54 =>
                      vif t103 (
                        R (.bool false) w_54) (
                        R (.bool true) w_54)))))))))))
def A_laws_FnExactTermRead : Ann := { ord := [], loops := [], cuts := [(45068, []), (69650, [])] }
theorem k_laws_FnExactTermRead (v0 v1 : Value) (w : World) (R : Value → World → Prop) : vc PP A_laws_FnExactTermRead ((Tryz.f9.body).getD .skip) (retF PP Tryz.f9.results.toList R) (nthV [v0, v1]) w = F_laws_FnExactTermRead PP v0 v1 w R := by kernel_rfl
theorem c_laws_FnExactTermRead {v0 v1 : Value} {w : World} {R : Value → World → Prop} (h : F_laws_FnExactTermRead PP v0 v1 w R) : vcall PP n_laws_FnExactTermRead #[v0, v1] w R :=
  call_of_vc (T := A_laws_FnExactTermRead) (c := (Tryz.f9.body).getD .skip) (n := 104) mixed Tryz.func9 rfl rfl (by kernel_rfl) (by kernel_rfl) rfl (by rw [k_laws_FnExactTermRead]; exact h)

/-- laws.FnTerm -/
def F_laws_FnTerm (P : Program) (v0 v1 : Value) (w : World) (R : Value → World → Prop) : Prop :=
  vjoin (fun J =>
    vbi P .len [T_Luint8] T_int [v0] w fun t18 w_2 =>
    vbin P .gtr T_int true t18 (.int .i64 1048576) w_2 fun t19 w_3 =>
    vif t19 (
      R (.bool true) w_3) (
      vbi P .len [T_Luint8] T_int [v1] w_3 fun t22 w_4 =>
      vbin P .gtr T_int true t22 (.int .i64 1048576) w_4 fun t23 w_5 =>
      vif t23 (
        R (.bool true) w_5) (
        J [] w_5))) (fun _ _ w_1 =>
    vcall P n_spec_DrawTermText #[v0] w_1 fun t27 w_6 =>
    vextract P t27 0 w_6 fun t28 w_7 =>
    vextract P t27 1 w_7 fun t29 w_8 =>
    valloc P T_impl_Term w_8 fun t6 w_9 =>
    vstore P T_impl_Term t6 t29 w_9 fun _ w_10 =>
    vload P T_impl_Term t6 w_10 fun t31 w_11 =>
    vcall P n_impl_TermText #[t28, t31] w_11 fun t32 w_12 =>
    vcall P n_impl_TermRead #[t28, t32] w_12 fun t36 w_13 =>
    vextract P t36 0 w_13 fun t37 w_14 =>
    vextract P t36 1 w_14 fun t38 w_15 =>
    valloc P T_impl_Term w_15 fun t8 w_16 =>
    vstore P T_impl_Term t8 t37 w_16 fun _ w_17 =>
    vload P T_impl_Term t6 w_17 fun t40 w_18 =>
    vcall P n_spec_TermSort #[t28, t40] w_18 fun t41 w_19 =>
    vbin P .geq T_int true t41 (.int .i64 0) w_19 fun t42 w_20 =>
    vjoin (fun J_1 =>
      vload P T_impl_Term t6 w_20 fun t45 w_22 =>
      vcall P n_spec_TermText #[t28, t45] w_22 fun t46 w_23 =>
      vbin P .neq T_string false t32 t46 w_23 fun t47 w_24 =>
      vif t47 (
        R (.bool false) w_24) (
        vbin P .neq T_string true t32 (.string { data := #[] }) w_24 fun t50 w_25 =>
        vbin P .neq T_bool false t50 t42 w_25 fun t52 w_26 =>
        vif t52 (
          R (.bool false) w_26) (
          vbin P .neq T_bool false t38 t42 w_26 fun t57 w_27 =>
          vif t57 (
            R (.bool false) w_27) (
            vif t38 (
              vload P T_impl_Term t8 w_27 fun t62 w_28 =>
              vload P T_impl_Term t6 w_28 fun t63 w_29 =>
              vcall P n_impl_TermSame #[t62, t63] w_29 fun t64 w_30 =>
              vun P .not t64 w_30 fun t65 w_31 =>
              vif t65 (
                R (.bool false) w_31) (
                J_1 [] w_31)) (
              J_1 [] w_27))))) (fun _ _ w_21 =>
      vcall P n_spec_DrawTermRead #[v1] w_21 fun t70 w_32 =>
      vextract P t70 0 w_32 fun t71 w_33 =>
      vextract P t70 1 w_33 fun t72 w_34 =>
      vcall P n_impl_TermRead #[t71, t72] w_34 fun t76 w_35 =>
      vextract P t76 0 w_35 fun t77 w_36 =>
      vextract P t76 1 w_36 fun t78 w_37 =>
      valloc P T_impl_Term w_37 fun t13 w_38 =>
      vstore P T_impl_Term t13 t77 w_38 fun _ w_39 =>
      vcall P n_spec_TermRead #[t71, t72] w_39 fun t82 w_40 =>
      vextract P t82 0 w_40 fun t83 w_41 =>
      vextract P t82 1 w_41 fun t84 w_42 =>
      valloc P T_impl_Term w_42 fun t15 w_43 =>
      vstore P T_impl_Term t15 t83 w_43 fun _ w_44 =>
      vbin P .eql T_bool false t78 t84 w_44 fun t87 w_45 =>
      vif t87 (
        vload P T_impl_Term t13 w_45 fun t89 w_46 =>
        vload P T_impl_Term t15 w_46 fun t90 w_47 =>
        vcall P n_impl_TermSame #[t89, t90] w_47 fun t91 w_48 =>
        vif t91 (
          vun P .not t78 w_48 fun t95 w_49 =>
          vif t95 (
            R (.bool true) w_49) (
            vload P T_impl_Term t13 w_49 fun t98 w_50 =>
            vcall P n_impl_TermText #[t71, t98] w_50 fun t99 w_51 =>
            vbin P .eql T_string false t99 t72 w_51 fun t101 w_52 =>
            vif t101 (
              vload P T_impl_Term t13 w_52 fun t104 w_53 =>
              vcall P n_impl_TermSort #[t71, t104] w_53 fun t105 w_54 =>
              vbin P .geq T_int true t105 (.int .i64 0) w_54 fun t106 w_55 =>
              R t106 w_55) (
              R (.bool false) w_52))) (
          R (.bool false) w_48)) (
        R (.bool false) w_45)))
def A_laws_FnTerm : Ann := { ord := [], loops := [], cuts := [(8195, []), (32777, [])] }
theorem k_laws_FnTerm (v0 v1 : Value) (w : World) (R : Value → World → Prop) : vc PP A_laws_FnTerm ((Tryz.f10.body).getD .skip) (retF PP Tryz.f10.results.toList R) (nthV [v0, v1]) w = F_laws_FnTerm PP v0 v1 w R := by kernel_rfl
theorem c_laws_FnTerm {v0 v1 : Value} {w : World} {R : Value → World → Prop} (h : F_laws_FnTerm PP v0 v1 w R) : vcall PP n_laws_FnTerm #[v0, v1] w R :=
  call_of_vc (T := A_laws_FnTerm) (c := (Tryz.f10.body).getD .skip) (n := 110) mixed Tryz.func10 rfl rfl (by kernel_rfl) (by kernel_rfl) rfl (by rw [k_laws_FnTerm]; exact h)

/-- laws.szDeclS -/
def F_laws_szDeclS (P : Program) (v0 v1 : Value) (w : World) (R : Value → World → Prop) : Prop :=
  vbi P .len [T_Llaws_Decl] T_int [v0] w fun t8 w_1 =>
  vbin P .sub T_int false v1 t8 w_1 fun t9 w_2 =>
  vbin P .lss T_int true t9 (.int .i64 0) w_2 fun t11 w_3 =>
  vif t11 (
    R (.int .i64 (-1)) w_3) (
    vloop [t9, (.int .i64 0)] w_3 fun C u _ w_4 =>
      vbi P .len [T_Llaws_Decl] T_int [v0] w_4 fun t14 w_5 =>
      vbin P .lss T_int false (sl 1 u) t14 w_5 fun t15 w_6 =>
      vif t15 (
        viaddr P T_Llaws_Decl v0 (sl 1 u) w_6 fun t20 w_7 =>
        vload P T_laws_Decl t20 w_7 fun t21 w_8 =>
        vcall P n_laws_szDecl #[t21, (sl 0 u)] w_8 fun t23 w_9 =>
        vbin P .lss T_int true t23 (.int .i64 0) w_9 fun t25 w_10 =>
        vif t25 (
          R (.int .i64 (-1)) w_10) (
          vbin P .add T_int true (sl 1 u) (.int .i64 1) w_10 fun t17 w_11 =>
          C [t23, t17] w_11)) (
        R (sl 0 u) w_6))
def A_laws_szDeclS : Ann := { ord := [], loops := [(5, [1, 5])], cuts := [] }
theorem k_laws_szDeclS (v0 v1 : Value) (w : World) (R : Value → World → Prop) : vc PP A_laws_szDeclS ((Tryz.f11.body).getD .skip) (retF PP Tryz.f11.results.toList R) (nthV [v0, v1]) w = F_laws_szDeclS PP v0 v1 w R := by kernel_rfl
theorem c_laws_szDeclS {v0 v1 : Value} {w : World} {R : Value → World → Prop} (h : F_laws_szDeclS PP v0 v1 w R) : vcall PP n_laws_szDeclS #[v0, v1] w R :=
  call_of_vc (T := A_laws_szDeclS) (c := (Tryz.f11.body).getD .skip) (n := 27) mixed Tryz.func11 rfl rfl (by kernel_rfl) (by kernel_rfl) rfl (by rw [k_laws_szDeclS]; exact h)

/-- laws.szTerm -/
def F_laws_szTerm (P : Program) (v0 v1 : Value) (w : World) (R : Value → World → Prop) : Prop :=
  vbox P T_laws_Term v0 w fun t2 w_1 =>
  vfaddr P T_laws_Term t2 3 w_1 fun t6 w_2 =>
  vload P T_string t6 w_2 fun t7 w_3 =>
  vbi P .len [T_string] T_int [t7] w_3 fun t8 w_4 =>
  vbin P .sub T_int false v1 t8 w_4 fun t9 w_5 =>
  vbin P .lss T_int true t9 (.int .i64 0) w_5 fun t11 w_6 =>
  vif t11 (
    R (.int .i64 (-1)) w_6) (
    vfaddr P T_laws_Term t2 4 w_6 fun t12 w_7 =>
    vload P T_Llaws_Term t12 w_7 fun t13 w_8 =>
    vcall P n_laws_szTermS #[t13, t9] w_8 fun t15 w_9 =>
    vbin P .lss T_int true t15 (.int .i64 0) w_9 fun t17 w_10 =>
    vif t17 (
      R (.int .i64 (-1)) w_10) (
      R t15 w_10))
def A_laws_szTerm : Ann := { ord := [], loops := [], cuts := [] }
theorem k_laws_szTerm (v0 v1 : Value) (w : World) (R : Value → World → Prop) : vc PP A_laws_szTerm ((Tryz.f12.body).getD .skip) (retF PP Tryz.f12.results.toList R) (nthV [v0, v1]) w = F_laws_szTerm PP v0 v1 w R := by kernel_rfl
theorem c_laws_szTerm {v0 v1 : Value} {w : World} {R : Value → World → Prop} (h : F_laws_szTerm PP v0 v1 w R) : vcall PP n_laws_szTerm #[v0, v1] w R :=
  call_of_vc (T := A_laws_szTerm) (c := (Tryz.f12.body).getD .skip) (n := 19) mixed Tryz.func12 rfl rfl (by kernel_rfl) (by kernel_rfl) rfl (by rw [k_laws_szTerm]; exact h)

/-- spec.TermEval -/
def F_spec_TermEval (P : Program) (v0 v1 v2 : Value) (w : World) (R : Value → World → Prop) : Prop :=
  vbox P T_impl_Term v1 w fun t4 w_1 =>
  vload P T_impl_Term t4 w_1 fun t9 w_2 =>
  vcall P n_spec_TermSort #[v0, t9] w_2 fun t10 w_3 =>
  vbin P .lss T_int true t10 (.int .i64 0) w_3 fun t11 w_4 =>
  vif t11 (
    R (.tuple #[(.int .i64 0), (.bool false)]) w_4) (
    vcall P n_spec_EnvOk #[v0, v2] w_4 fun t15 w_5 =>
    vun P .not t15 w_5 fun t16 w_6 =>
    vif t16 (
      R (.tuple #[(.int .i64 0), (.bool false)]) w_6) (
      vload P T_impl_Term t4 w_6 fun t19 w_7 =>
      vcall P n_spec_l2Eval #[v0, t19, v2] w_7 fun t21 w_8 =>
      R (.tuple #[t21, (.bool true)]) w_8))
def A_spec_TermEval : Ann := { ord := [], loops := [], cuts := [] }
theorem k_spec_TermEval (v0 v1 v2 : Value) (w : World) (R : Value → World → Prop) : vc PP A_spec_TermEval ((Tryz.f13.body).getD .skip) (retF PP Tryz.f13.results.toList R) (nthV [v0, v1, v2]) w = F_spec_TermEval PP v0 v1 v2 w R := by kernel_rfl
theorem c_spec_TermEval {v0 v1 v2 : Value} {w : World} {R : Value → World → Prop} (h : F_spec_TermEval PP v0 v1 v2 w R) : vcall PP n_spec_TermEval #[v0, v1, v2] w R :=
  call_of_vc (T := A_spec_TermEval) (c := (Tryz.f13.body).getD .skip) (n := 22) mixed Tryz.func13 rfl rfl (by kernel_rfl) (by kernel_rfl) rfl (by rw [k_spec_TermEval]; exact h)

/-- laws.toDeclS -/
def F_laws_toDeclS (P : Program) (v0 : Value) (w : World) (R : Value → World → Prop) : Prop :=
  vbi P .len [T_Llaws_Decl] T_int [v0] w fun t6 w_1 =>
  vmkS P T_Limpl_Decl t6 t6 w_1 fun t7 w_2 =>
  vloop [(.int .i64 0)] w_2 fun C u _ w_3 =>
    vbi P .len [T_Llaws_Decl] T_int [v0] w_3 fun t10 w_4 =>
    vbin P .lss T_int false (sl 0 u) t10 w_4 fun t11 w_5 =>
    vif t11 (
      viaddr P T_Llaws_Decl v0 (sl 0 u) w_5 fun t18 w_6 =>
      vload P T_laws_Decl t18 w_6 fun t19 w_7 =>
      vcall P n_laws_toDecl #[t19] w_7 fun t20 w_8 =>
      viaddr P T_Limpl_Decl t7 (sl 0 u) w_8 fun t21 w_9 =>
      vstore P T_impl_Decl t21 t20 w_9 fun _ w_10 =>
      vbin P .add T_int true (sl 0 u) (.int .i64 1) w_10 fun t13 w_11 =>
      C [t13] w_11) (
      R t7 w_5)
def A_laws_toDeclS : Ann := { ord := [], loops := [(3, [4])], cuts := [] }
theorem k_laws_toDeclS (v0 : Value) (w : World) (R : Value → World → Prop) : vc PP A_laws_toDeclS ((Tryz.f14.body).getD .skip) (retF PP Tryz.f14.results.toList R) (nthV [v0]) w = F_laws_toDeclS PP v0 w R := by kernel_rfl
theorem c_laws_toDeclS {v0 : Value} {w : World} {R : Value → World → Prop} (h : F_laws_toDeclS PP v0 w R) : vcall PP n_laws_toDeclS #[v0] w R :=
  call_of_vc (T := A_laws_toDeclS) (c := (Tryz.f14.body).getD .skip) (n := 23) mixed Tryz.func14 rfl rfl (by kernel_rfl) (by kernel_rfl) rfl (by rw [k_laws_toDeclS]; exact h)

/-- laws.toTerm -/
def F_laws_toTerm (P : Program) (v0 : Value) (w : World) (R : Value → World → Prop) : Prop :=
  vbox P T_laws_Term v0 w fun t1 w_1 =>
  valloc P T_impl_Term w_1 fun t2 w_2 =>
  valloc P T_impl_Term w_2 fun t3 w_3 =>
  vfaddr P T_laws_Term t1 0 w_3 fun t4 w_4 =>
  vload P T_int t4 w_4 fun t5 w_5 =>
  vfaddr P T_impl_Term t3 0 w_5 fun t6 w_6 =>
  vstore P T_int t6 t5 w_6 fun _ w_7 =>
  vfaddr P T_laws_Term t1 1 w_7 fun t7 w_8 =>
  vload P T_int t7 w_8 fun t8 w_9 =>
  vfaddr P T_impl_Term t3 1 w_9 fun t9 w_10 =>
  vstore P T_int t9 t8 w_10 fun _ w_11 =>
  vfaddr P T_laws_Term t1 2 w_11 fun t10 w_12 =>
  vload P T_int t10 w_12 fun t11 w_13 =>
  vfaddr P T_impl_Term t3 2 w_13 fun t12 w_14 =>
  vstore P T_int t12 t11 w_14 fun _ w_15 =>
  vfaddr P T_laws_Term t1 3 w_15 fun t13 w_16 =>
  vload P T_string t13 w_16 fun t14 w_17 =>
  vfaddr P T_impl_Term t3 3 w_17 fun t15 w_18 =>
  vstore P T_string t15 t14 w_18 fun _ w_19 =>
  vfaddr P T_laws_Term t1 4 w_19 fun t16 w_20 =>
  vload P T_Llaws_Term t16 w_20 fun t17 w_21 =>
  vcall P n_laws_toTermS #[t17] w_21 fun t18 w_22 =>
  vfaddr P T_impl_Term t3 4 w_22 fun t19 w_23 =>
  vstore P T_Limpl_Term t19 t18 w_23 fun _ w_24 =>
  vload P T_impl_Term t3 w_24 fun t20 w_25 =>
  vstore P T_impl_Term t2 t20 w_25 fun _ w_26 =>
  vlv P T_impl_Term t2 w_26 fun r2 w_27 =>
  R r2 w_27
def A_laws_toTerm : Ann := { ord := [], loops := [], cuts := [] }
theorem k_laws_toTerm (v0 : Value) (w : World) (R : Value → World → Prop) : vc PP A_laws_toTerm ((Tryz.f15.body).getD .skip) (retF PP Tryz.f15.results.toList R) (nthV [v0]) w = F_laws_toTerm PP v0 w R := by kernel_rfl
theorem c_laws_toTerm {v0 : Value} {w : World} {R : Value → World → Prop} (h : F_laws_toTerm PP v0 w R) : vcall PP n_laws_toTerm #[v0] w R :=
  call_of_vc (T := A_laws_toTerm) (c := (Tryz.f15.body).getD .skip) (n := 21) mixed Tryz.func15 rfl rfl (by kernel_rfl) (by kernel_rfl) rfl (by rw [k_laws_toTerm]; exact h)

/-- laws.toIntS -/
def F_laws_toIntS (P : Program) (v0 : Value) (w : World) (R : Value → World → Prop) : Prop :=
  vbi P .len [T_Lint] T_int [v0] w fun t6 w_1 =>
  vmkS P T_Lint t6 t6 w_1 fun t7 w_2 =>
  vloop [(.int .i64 0)] w_2 fun C u _ w_3 =>
    vbi P .len [T_Lint] T_int [v0] w_3 fun t10 w_4 =>
    vbin P .lss T_int false (sl 0 u) t10 w_4 fun t11 w_5 =>
    vif t11 (
      viaddr P T_Lint v0 (sl 0 u) w_5 fun t18 w_6 =>
      vload P T_int t18 w_6 fun t19 w_7 =>
      viaddr P T_Lint t7 (sl 0 u) w_7 fun t20 w_8 =>
      vstore P T_int t20 t19 w_8 fun _ w_9 =>
      vbin P .add T_int true (sl 0 u) (.int .i64 1) w_9 fun t13 w_10 =>
      C [t13] w_10) (
      R t7 w_5)
def A_laws_toIntS : Ann := { ord := [], loops := [(3, [4])], cuts := [] }
theorem k_laws_toIntS (v0 : Value) (w : World) (R : Value → World → Prop) : vc PP A_laws_toIntS ((Tryz.f16.body).getD .skip) (retF PP Tryz.f16.results.toList R) (nthV [v0]) w = F_laws_toIntS PP v0 w R := by kernel_rfl
theorem c_laws_toIntS {v0 : Value} {w : World} {R : Value → World → Prop} (h : F_laws_toIntS PP v0 w R) : vcall PP n_laws_toIntS #[v0] w R :=
  call_of_vc (T := A_laws_toIntS) (c := (Tryz.f16.body).getD .skip) (n := 22) mixed Tryz.func16 rfl rfl (by kernel_rfl) (by kernel_rfl) rfl (by rw [k_laws_toIntS]; exact h)

/-- impl.TermEval -/
def F_impl_TermEval (P : Program) (v0 v1 v2 : Value) (w : World) (R : Value → World → Prop) : Prop :=
  vbox P T_impl_Term v1 w fun t4 w_1 =>
  vload P T_impl_Term t4 w_1 fun t9 w_2 =>
  vcall P n_impl_TermSort #[v0, t9] w_2 fun t10 w_3 =>
  vbin P .eql T_int true t10 (.int .i64 (-1)) w_3 fun t11 w_4 =>
  vif t11 (
    R (.tuple #[(.int .i64 0), (.bool false)]) w_4) (
    vcall P n_impl_EnvOk #[v0, v2] w_4 fun t15 w_5 =>
    vun P .not t15 w_5 fun t16 w_6 =>
    vif t16 (
      R (.tuple #[(.int .i64 0), (.bool false)]) w_6) (
      vdraw w_6 fun w_7 =>
      vload P T_impl_Term t4 w_7 fun t20 w_8 => w_8 = w_7 ∧
      vcall P n_impl_kinds #[] w_7 fun t18 w_9 => (vload P T_impl_Term t4 w_9 fun v x => v = t20 ∧ x = w_9) ∧
      vcall P n_impl_envMap #[v0, v2] w_9 fun t23 w_10 => (vload P T_impl_Term t4 w_10 fun v x => v = t20 ∧ x = w_10) ∧
      vcall P n_impl_valueOf #[t18, v0, t20, t23] w_10 fun t24 w_11 =>
      vfield P T_impl_Vec t24 1 w_11 fun t25 w_12 => w_12 = w_11 ∧
      R (.tuple #[t25, (.bool true)]) w_11))
def A_impl_TermEval : Ann := { ord := [(3, [1, 2, 3, 4, 0, 5, 6, 7, 8, 9], [(1, [6, 7, 8, 9]), (2, [6, 7, 8, 9]), (3, [5, 6, 7, 8, 9]), (4, [5, 6, 7, 8, 9]), (0, [5, 6, 7, 8, 9]), (5, [6, 7, 8, 9]), (6, [7, 8, 9]), (7, [8, 9]), (8, [9])])], loops := [], cuts := [] }
theorem k_impl_TermEval (v0 v1 v2 : Value) (w : World) (R : Value → World → Prop) : vc PP A_impl_TermEval ((Tryz.f17.body).getD .skip) (retF PP Tryz.f17.results.toList R) (nthV [v0, v1, v2]) w = F_impl_TermEval PP v0 v1 v2 w R := by kernel_rfl
theorem c_impl_TermEval {v0 v1 v2 : Value} {w : World} {R : Value → World → Prop} (h : F_impl_TermEval PP v0 v1 v2 w R) : vcall PP n_impl_TermEval #[v0, v1, v2] w R :=
  call_of_vc (T := A_impl_TermEval) (c := (Tryz.f17.body).getD .skip) (n := 26) mixed Tryz.func17 rfl rfl (by kernel_rfl) (by kernel_rfl) rfl (by rw [k_impl_TermEval]; exact h)

/-- laws.eqDeclS -/
def F_laws_eqDeclS (P : Program) (v0 v1 : Value) (w : World) (R : Value → World → Prop) : Prop :=
  vbi P .len [T_Limpl_Decl] T_int [v0] w fun t7 w_1 =>
  vbi P .len [T_Limpl_Decl] T_int [v1] w_1 fun t9 w_2 =>
  vbin P .neq T_int false t7 t9 w_2 fun t10 w_3 =>
  vif t10 (
    R (.bool false) w_3) (
    vloop [(.int .i64 0)] w_3 fun C u _ w_4 =>
      vbi P .len [T_Limpl_Decl] T_int [v0] w_4 fun t13 w_5 =>
      vbin P .lss T_int false (sl 0 u) t13 w_5 fun t14 w_6 =>
      vif t14 (
        vdraw w_6 fun w_7 =>
        viaddr P T_Limpl_Decl v0 (sl 0 u) w_7 fun t19 w_8 => w_8 = w_7 ∧
        vload P T_impl_Decl t19 w_7 fun t20 w_9 => w_9 = w_7 ∧
        viaddr P T_Limpl_Decl v1 (sl 0 u) w_7 fun t23 w_10 => w_10 = w_7 ∧
        vload P T_impl_Decl t23 w_7 fun t24 w_11 => w_11 = w_7 ∧
        vcall P n_laws_eqDecl #[t20, t24] w_7 fun t25 w_12 =>
        vun P .not t25 w_12 fun t26 w_13 => w_13 = w_12 ∧
        vif t26 (
          R (.bool false) w_12) (
          vbin P .add T_int true (sl 0 u) (.int .i64 1) w_12 fun t16 w_14 =>
          C [t16] w_14)) (
        R (.bool true) w_6))
def A_laws_eqDeclS : Ann := { ord := [(6, [0, 1, 2, 3, 4, 5, 6, 7, 8, 9], [(0, [2, 3, 8, 9]), (1, [2, 3, 8, 9]), (2, [3, 8, 9]), (3, [8, 9]), (4, [6, 7, 8, 9]), (5, [6, 7, 8, 9]), (6, [7, 8, 9]), (7, [8, 9]), (8, [9])])], loops := [(4, [5])], cuts := [] }
theorem k_laws_eqDeclS (v0 v1 : Value) (w : World) (R : Value → World → Prop) : vc PP A_laws_eqDeclS ((Tryz.f18.body).getD .skip) (retF PP Tryz.f18.results.toList R) (nthV [v0, v1]) w = F_laws_eqDeclS PP v0 v1 w R := by kernel_rfl
theorem c_laws_eqDeclS {v0 v1 : Value} {w : World} {R : Value → World → Prop} (h : F_laws_eqDeclS PP v0 v1 w R) : vcall PP n_laws_eqDeclS #[v0, v1] w R :=
  call_of_vc (T := A_laws_eqDeclS) (c := (Tryz.f18.body).getD .skip) (n := 27) mixed Tryz.func18 rfl rfl (by kernel_rfl) (by kernel_rfl) rfl (by rw [k_laws_eqDeclS]; exact h)

/-- laws.eqTerm -/
def F_laws_eqTerm (P : Program) (v0 v1 : Value) (w : World) (R : Value → World → Prop) : Prop :=
  vbox P T_impl_Term v0 w fun t2 w_1 =>
  vbox P T_impl_Term v1 w_1 fun t3 w_2 =>
  vfaddr P T_impl_Term t2 0 w_2 fun t5 w_3 =>
  vload P T_int t5 w_3 fun t6 w_4 =>
  vfaddr P T_impl_Term t3 0 w_4 fun t7 w_5 =>
  vload P T_int t7 w_5 fun t8 w_6 =>
  vbin P .neq T_int false t6 t8 w_6 fun t9 w_7 =>
  vif t9 (
    R (.bool false) w_7) (
    vfaddr P T_impl_Term t2 1 w_7 fun t10 w_8 =>
    vload P T_int t10 w_8 fun t11 w_9 =>
    vfaddr P T_impl_Term t3 1 w_9 fun t12 w_10 =>
    vload P T_int t12 w_10 fun t13 w_11 =>
    vbin P .neq T_int false t11 t13 w_11 fun t14 w_12 =>
    vif t14 (
      R (.bool false) w_12) (
      vfaddr P T_impl_Term t2 2 w_12 fun t15 w_13 =>
      vload P T_int t15 w_13 fun t16 w_14 =>
      vfaddr P T_impl_Term t3 2 w_14 fun t17 w_15 =>
      vload P T_int t17 w_15 fun t18 w_16 =>
      vbin P .neq T_int false t16 t18 w_16 fun t19 w_17 =>
      vif t19 (
        R (.bool false) w_17) (
        vfaddr P T_impl_Term t2 3 w_17 fun t20 w_18 =>
        vload P T_string t20 w_18 fun t21 w_19 =>
        vfaddr P T_impl_Term t3 3 w_19 fun t22 w_20 =>
        vload P T_string t22 w_20 fun t23 w_21 =>
        vbin P .neq T_string false t21 t23 w_21 fun t24 w_22 =>
        vif t24 (
          R (.bool false) w_22) (
          vfaddr P T_impl_Term t2 4 w_22 fun t25 w_23 =>
          vload P T_Limpl_Term t25 w_23 fun t26 w_24 =>
          vfaddr P T_impl_Term t3 4 w_24 fun t27 w_25 =>
          vload P T_Limpl_Term t27 w_25 fun t28 w_26 =>
          vcall P n_laws_eqTermS #[t26, t28] w_26 fun t29 w_27 =>
          vun P .not t29 w_27 fun t30 w_28 =>
          vif t30 (
            R (.bool false) w_28) (
            R (.bool true) w_28)))))
def A_laws_eqTerm : Ann := { ord := [], loops := [], cuts := [] }
theorem k_laws_eqTerm (v0 v1 : Value) (w : World) (R : Value → World → Prop) : vc PP A_laws_eqTerm ((Tryz.f19.body).getD .skip) (retF PP Tryz.f19.results.toList R) (nthV [v0, v1]) w = F_laws_eqTerm PP v0 v1 w R := by kernel_rfl
theorem c_laws_eqTerm {v0 v1 : Value} {w : World} {R : Value → World → Prop} (h : F_laws_eqTerm PP v0 v1 w R) : vcall PP n_laws_eqTerm #[v0, v1] w R :=
  call_of_vc (T := A_laws_eqTerm) (c := (Tryz.f19.body).getD .skip) (n := 31) mixed Tryz.func19 rfl rfl (by kernel_rfl) (by kernel_rfl) rfl (by rw [k_laws_eqTerm]; exact h)

/-- laws.eqIntS -/
def F_laws_eqIntS (P : Program) (v0 v1 : Value) (w : World) (R : Value → World → Prop) : Prop :=
  vbi P .len [T_Lint] T_int [v0] w fun t7 w_1 =>
  vbi P .len [T_Lint] T_int [v1] w_1 fun t9 w_2 =>
  vbin P .neq T_int false t7 t9 w_2 fun t10 w_3 =>
  vif t10 (
    R (.bool false) w_3) (
    vloop [(.int .i64 0)] w_3 fun C u _ w_4 =>
      vbi P .len [T_Lint] T_int [v0] w_4 fun t13 w_5 =>
      vbin P .lss T_int false (sl 0 u) t13 w_5 fun t14 w_6 =>
      vif t14 (
        vdraw w_6 fun w_7 =>
        viaddr P T_Lint v0 (sl 0 u) w_7 fun t19 w_8 => w_8 = w_7 ∧
        vload P T_int t19 w_7 fun t20 w_9 => w_9 = w_7 ∧
        viaddr P T_Lint v1 (sl 0 u) w_7 fun t23 w_10 => w_10 = w_7 ∧
        vload P T_int t23 w_7 fun t24 w_11 => w_11 = w_7 ∧
        vbin P .neq T_int false t20 t24 w_7 fun t25 w_12 => w_12 = w_7 ∧
        vif t25 (
          R (.bool false) w_7) (
          vbin P .add T_int true (sl 0 u) (.int .i64 1) w_7 fun t16 w_13 =>
          C [t16] w_13)) (
        R (.bool true) w_6))
def A_laws_eqIntS : Ann := { ord := [(6, [0, 1, 2, 3, 4, 5, 6, 7, 8], [(0, [2, 3, 8]), (1, [2, 3, 8]), (2, [3, 8]), (3, [8]), (4, [6, 7, 8]), (5, [6, 7, 8]), (6, [7, 8]), (7, [8])])], loops := [(4, [5])], cuts := [] }
theorem k_laws_eqIntS (v0 v1 : Value) (w : World) (R : Value → World → Prop) : vc PP A_laws_eqIntS ((Tryz.f20.body).getD .skip) (retF PP Tryz.f20.results.toList R) (nthV [v0, v1]) w = F_laws_eqIntS PP v0 v1 w R := by kernel_rfl
theorem c_laws_eqIntS {v0 v1 : Value} {w : World} {R : Value → World → Prop} (h : F_laws_eqIntS PP v0 v1 w R) : vcall PP n_laws_eqIntS #[v0, v1] w R :=
  call_of_vc (T := A_laws_eqIntS) (c := (Tryz.f20.body).getD .skip) (n := 26) mixed Tryz.func20 rfl rfl (by kernel_rfl) (by kernel_rfl) rfl (by rw [k_laws_eqIntS]; exact h)

/-- spec.DrawTermEval -/
def F_spec_DrawTermEval (P : Program) (v0 : Value) (w : World) (R : Value → World → Prop) : Prop :=
  valloc P T_impl_Term w fun t3 w_1 =>
  vcall P n_spec_l12Open #[v0] w_1 fun t9 w_2 =>
  vcall P n_spec_l2Draw #[t9] w_2 fun t12 w_3 =>
  vextract P t12 0 w_3 fun t13 w_4 =>
  vextract P t12 1 w_4 fun t14 w_5 =>
  valloc P T_impl_Term w_5 fun t7 w_6 =>
  vstore P T_impl_Term t7 t14 w_6 fun _ w_7 =>
  vdraw w_7 fun w_8 =>
  vload P T_impl_Term t7 w_8 fun t16 w_9 => w_9 = w_8 ∧
  vcall P n_spec_l2Env #[t9, t13] w_8 fun t19 w_10 => (vload P T_impl_Term t7 w_10 fun v x => v = t16 ∧ x = w_10) ∧
  vstore P T_impl_Term t3 t16 w_10 fun _ w_11 =>
  vlv P T_impl_Term t3 w_11 fun r3 w_12 =>
  R (.tuple #[t13, r3, t19]) w_12
def A_spec_DrawTermEval : Ann := { ord := [(3, [0, 1, 2, 3, 4, 5, 6, 7], [(0, [5, 6, 7]), (1, [6, 7]), (2, [4, 5, 6, 7]), (3, [4, 5, 6, 7]), (4, [5, 6, 7]), (5, [6, 7]), (6, [7])])], loops := [], cuts := [] }
theorem k_spec_DrawTermEval (v0 : Value) (w : World) (R : Value → World → Prop) : vc PP A_spec_DrawTermEval ((Tryz.f21.body).getD .skip) (retF PP Tryz.f21.results.toList R) (nthV [v0]) w = F_spec_DrawTermEval PP v0 w R := by kernel_rfl
theorem c_spec_DrawTermEval {v0 : Value} {w : World} {R : Value → World → Prop} (h : F_spec_DrawTermEval PP v0 w R) : vcall PP n_spec_DrawTermEval #[v0] w R :=
  call_of_vc (T := A_spec_DrawTermEval) (c := (Tryz.f21.body).getD .skip) (n := 20) mixed Tryz.func21 rfl rfl (by kernel_rfl) (by kernel_rfl) rfl (by rw [k_spec_DrawTermEval]; exact h)

/-- impl.TermSort -/
def F_impl_TermSort (P : Program) (v0 v1 : Value) (w : World) (R : Value → World → Prop) : Prop :=
  vbox P T_impl_Term v1 w fun t3 w_1 =>
  vload P T_impl_Term t3 w_1 fun t8 w_2 =>
  vcall P n_impl_TermMany #[t8] w_2 fun t9 w_3 =>
  vextract P t9 0 w_3 fun t10 w_4 =>
  vextract P t9 1 w_4 fun _ w_5 =>
  vcall P n_impl_DeclOk #[v0] w_5 fun t13 w_6 =>
  vun P .not t13 w_6 fun t14 w_7 =>
  vif t14 (
    R (.int .i64 (-1)) w_7) (
    vbin P .gtr T_int true t10 (.int .i64 20) w_7 fun t17 w_8 =>
    vif t17 (
      R (.int .i64 (-1)) w_8) (
      vdraw w_8 fun w_9 =>
      vload P T_impl_Term t3 w_9 fun t21 w_10 => w_10 = w_9 ∧
      vcall P n_impl_kinds #[] w_9 fun t19 w_11 => (vload P T_impl_Term t3 w_11 fun v x => v = t21 ∧ x = w_11) ∧
      vcall P n_impl_sortOf #[t19, v0, t21] w_11 fun t22 w_12 =>
      R t22 w_12))
def A_impl_TermSort : Ann := { ord := [(4, [1, 2, 0, 3, 4], [(1, [3, 4]), (2, [3, 4]), (0, [3, 4]), (3, [4])])], loops := [], cuts := [] }
theorem k_impl_TermSort (v0 v1 : Value) (w : World) (R : Value → World → Prop) : vc PP A_impl_TermSort ((Tryz.f22.body).getD .skip) (retF PP Tryz.f22.results.toList R) (nthV [v0, v1]) w = F_impl_TermSort PP v0 v1 w R := by kernel_rfl
theorem c_impl_TermSort {v0 v1 : Value} {w : World} {R : Value → World → Prop} (h : F_impl_TermSort PP v0 v1 w R) : vcall PP n_impl_TermSort #[v0, v1] w R :=
  call_of_vc (T := A_impl_TermSort) (c := (Tryz.f22.body).getD .skip) (n := 23) mixed Tryz.func22 rfl rfl (by kernel_rfl) (by kernel_rfl) rfl (by rw [k_impl_TermSort]; exact h)

/-- impl.TermMany -/
def F_impl_TermMany (P : Program) (v0 : Value) (w : World) (R : Value → World → Prop) : Prop :=
  vbox P T_impl_Term v0 w fun t1 w_1 =>
  valloc P T_int w_1 fun t4 w_2 =>
  vstore P T_int t4 (.int .i64 0) w_2 fun _ w_3 =>
  vload P T_impl_Term t1 w_3 fun t6 w_4 =>
  vcall P n_impl_count #[t6, (.int .i64 1), t4] w_4 fun t7 w_5 =>
  vload P T_int t4 w_5 fun t8 w_6 =>
  vbin P .gtr T_int true t8 (.int .i64 20) w_6 fun t9 w_7 =>
  vif t9 (
    R (.tuple #[(.int .i64 21), (.int .i64 8)]) w_7) (
    vbin P .gtr T_int true t7 (.int .i64 7) w_7 fun t12 w_8 =>
    vif t12 (
      R (.tuple #[(.int .i64 21), (.int .i64 8)]) w_8) (
      vload P T_int t4 w_8 fun t14 w_9 =>
      R (.tuple #[t14, t7]) w_9))
def A_impl_TermMany : Ann := { ord := [], loops := [], cuts := [] }
theorem k_impl_TermMany (v0 : Value) (w : World) (R : Value → World → Prop) : vc PP A_impl_TermMany ((Tryz.f23.body).getD .skip) (retF PP Tryz.f23.results.toList R) (nthV [v0]) w = F_impl_TermMany PP v0 w R := by kernel_rfl
theorem c_impl_TermMany {v0 : Value} {w : World} {R : Value → World → Prop} (h : F_impl_TermMany PP v0 w R) : vcall PP n_impl_TermMany #[v0] w R :=
  call_of_vc (T := A_impl_TermMany) (c := (Tryz.f23.body).getD .skip) (n := 16) mixed Tryz.func23 rfl rfl (by kernel_rfl) (by kernel_rfl) rfl (by rw [k_impl_TermMany]; exact h)

/-- spec.TermSort -/
def F_spec_TermSort (P : Program) (v0 v1 : Value) (w : World) (R : Value → World → Prop) : Prop :=
  vbox P T_impl_Term v1 w fun t3 w_1 =>
  vload P T_impl_Term t3 w_1 fun t8 w_2 =>
  vcall P n_spec_TermMany #[t8] w_2 fun t9 w_3 =>
  vextract P t9 0 w_3 fun t10 w_4 =>
  vextract P t9 1 w_4 fun t11 w_5 =>
  vcall P n_spec_DeclOk #[v0] w_5 fun t13 w_6 =>
  vun P .not t13 w_6 fun t14 w_7 =>
  vif t14 (
    R (.int .i64 (-1)) w_7) (
    vbin P .gtr T_int true t10 (.int .i64 20) w_7 fun t17 w_8 =>
    vif t17 (
      R (.int .i64 (-1)) w_8) (
      vbin P .gtr T_int true t11 (.int .i64 7) w_8 fun t21 w_9 =>
      vif t21 (
        R (.int .i64 (-1)) w_9) (
        vload P T_impl_Term t3 w_9 fun t24 w_10 =>
        vcall P n_spec_l2Sort #[v0, t24] w_10 fun t25 w_11 =>
        R t25 w_11)))
def A_spec_TermSort : Ann := { ord := [], loops := [], cuts := [] }
theorem k_spec_TermSort (v0 v1 : Value) (w : World) (R : Value → World → Prop) : vc PP A_spec_TermSort ((Tryz.f24.body).getD .skip) (retF PP Tryz.f24.results.toList R) (nthV [v0, v1]) w = F_spec_TermSort PP v0 v1 w R := by kernel_rfl
theorem c_spec_TermSort {v0 v1 : Value} {w : World} {R : Value → World → Prop} (h : F_spec_TermSort PP v0 v1 w R) : vcall PP n_spec_TermSort #[v0, v1] w R :=
  call_of_vc (T := A_spec_TermSort) (c := (Tryz.f24.body).getD .skip) (n := 26) mixed Tryz.func24 rfl rfl (by kernel_rfl) (by kernel_rfl) rfl (by rw [k_spec_TermSort]; exact h)

/-- impl.EnvOk -/
def F_impl_EnvOk (P : Program) (v0 v1 : Value) (w : World) (R : Value → World → Prop) : Prop :=
  vjoin (fun J =>
    vcall P n_impl_DeclOk #[v0] w fun t8 w_2 =>
    vun P .not t8 w_2 fun t9 w_3 =>
    vif t9 (
      R (.bool false) w_3) (
      vbi P .len [T_Lint] T_int [v1] w_3 fun t12 w_4 =>
      vbi P .len [T_Limpl_Decl] T_int [v0] w_4 fun t14 w_5 =>
      vbin P .neq T_int false t12 t14 w_5 fun t15 w_6 =>
      vif t15 (
        R (.bool false) w_6) (
        J [] w_6))) (fun _ _ w_1 =>
    vbi P .len [T_Lint] T_int [v1] w_1 fun t18 w_7 =>
    vloop [(.int .i64 0)] w_7 fun C u_1 _ w_8 =>
      vbin P .lss T_int false (sl 0 u_1) t18 w_8 fun t20 w_9 =>
      vif t20 (
        viaddr P T_Lint v1 (sl 0 u_1) w_9 fun t22 w_10 =>
        vload P T_int t22 w_10 fun t23 w_11 =>
        viaddr P T_Limpl_Decl v0 (sl 0 u_1) w_11 fun t26 w_12 =>
        vfaddr P T_impl_Decl t26 1 w_12 fun t27 w_13 =>
        vload P T_int t27 w_13 fun t28 w_14 =>
        vbuild P T_impl_Vec [(0, t28), (1, t23)] w_14 fun t30 w_15 =>
        vcall P n_impl_VecOk #[t30] w_15 fun t31 w_16 =>
        vun P .not t31 w_16 fun t32 w_17 =>
        vif t32 (
          R (.bool false) w_17) (
          vbin P .add T_int true (sl 0 u_1) (.int .i64 1) w_17 fun t33 w_18 =>
          C [t33] w_18)) (
        R (.bool true) w_9))
def A_impl_EnvOk : Ann := { ord := [], loops := [(4, [19])], cuts := [(8195, [])] }
theorem k_impl_EnvOk (v0 v1 : Value) (w : World) (R : Value → World → Prop) : vc PP A_impl_EnvOk ((Tryz.f25.body).getD .skip) (retF PP Tryz.f25.results.toList R) (nthV [v0, v1]) w = F_impl_EnvOk PP v0 v1 w R := by kernel_rfl
theorem c_impl_EnvOk {v0 v1 : Value} {w : World} {R : Value → World → Prop} (h : F_impl_EnvOk PP v0 v1 w R) : vcall PP n_impl_EnvOk #[v0, v1] w R :=
  call_of_vc (T := A_impl_EnvOk) (c := (Tryz.f25.body).getD .skip) (n := 34) mixed Tryz.func25 rfl rfl (by kernel_rfl) (by kernel_rfl) rfl (by rw [k_impl_EnvOk]; exact h)

/-- impl.VecOk -/
def F_impl_VecOk (P : Program) (v0 : Value) (w : World) (R : Value → World → Prop) : Prop :=
  vbox P T_impl_Vec v0 w fun t1 w_1 =>
  vdraw w_1 fun w_2 =>
  vfaddr P T_impl_Vec t1 0 w_2 fun t3 w_3 => w_3 = w_2 ∧
  vload P T_int t3 w_2 fun t4 w_4 => w_4 = w_2 ∧
  vbin P .geq T_int true t4 (.int .i64 1) w_2 fun t5 w_5 => w_5 = w_2 ∧
  vif t5 (
    vfaddr P T_impl_Vec t1 0 w_2 fun t7 w_6 => w_6 = w_2 ∧
    vload P T_int t7 w_2 fun t8 w_7 => w_7 = w_2 ∧
    vbin P .leq T_int true t8 (.int .i64 4) w_2 fun t9 w_8 => w_8 = w_2 ∧
    vif t9 (
      vfaddr P T_impl_Vec t1 1 w_2 fun t12 w_9 => w_9 = w_2 ∧
      vload P T_int t12 w_2 fun t13 w_10 => w_10 = w_2 ∧
      vbin P .geq T_int true t13 (.int .i64 0) w_2 fun t14 w_11 => w_11 = w_2 ∧
      vif t14 (
        vfaddr P T_impl_Vec t1 1 w_2 fun t17 w_12 => w_12 = w_2 ∧
        vload P T_int t17 w_2 fun t18 w_13 => w_13 = w_2 ∧
        vfaddr P T_impl_Vec t1 0 w_2 fun t19 w_14 => w_14 = w_2 ∧
        vload P T_int t19 w_2 fun t20 w_15 => w_15 = w_2 ∧
        vbin P .shl T_int true (.int .i64 1) t20 w_2 fun t21 w_16 => w_16 = w_2 ∧
        vbin P .lss T_int false t18 t21 w_2 fun t22 w_17 => w_17 = w_2 ∧
        R t22 w_2) (
        R (.bool false) w_2)) (
      R (.bool false) w_2)) (
    R (.bool false) w_2)
def A_impl_VecOk : Ann := { ord := [(1, [0, 1, 2, 3, 4, 5, 6, 7, 8, 9, 10, 11, 12, 13, 14, 15, 16, 17, 18, 19, 20, 21], [(0, [1, 2, 3, 4, 5, 6, 7, 8, 9, 10, 11, 12, 13, 14, 15, 16, 17, 18, 19, 20, 21]), (1, [2, 3, 4, 5, 6, 7, 8, 9, 10, 11, 12, 13, 14, 15, 16, 17, 18, 19, 20, 21]), (2, [3, 4, 5, 6, 7, 8, 9, 10, 11, 12, 13, 14, 15, 16, 17, 18, 19, 20, 21]), (3, [4, 5, 6, 7, 8, 9, 10, 11, 12, 13, 14, 15, 16, 17, 18, 19, 20, 21]), (4, [5, 6, 7, 8, 9, 10, 11, 12, 13, 14, 15, 16, 17, 18, 19, 20, 21]), (5, [6, 7, 8, 9, 10, 11, 12, 13, 14, 15, 16, 17, 18, 19, 20, 21]), (6, [7, 8, 9, 10, 11, 12, 13, 14, 15, 16, 17, 18, 19, 20, 21]), (7, [8, 9, 10, 11, 12, 13, 14, 15, 16, 17, 18, 19, 20, 21]), (8, [9, 10, 11, 12, 13, 14, 15, 16, 17, 18, 19, 20, 21]), (9, [10, 11, 12, 13, 14, 15, 16, 17, 18, 19, 20, 21]), (10, [11, 12, 13, 14, 15, 16, 17, 18, 19, 20, 21]), (11, [12, 13, 14, 15, 16, 17, 18, 19, 20, 21]), (12, [13, 14, 15, 16, 17, 18, 19, 20, 21]), (13, [14, 15, 16, 17, 18, 19, 20, 21]), (14, [15, 19, 20, 21]), (15, [19, 20, 21]), (16, [17, 18, 19, 20, 21]), (17, [18, 19, 20, 21]), (18, [19, 20, 21]), (19, [20, 21]), (20, [21])])], loops := [], cuts := [] }
theorem k_impl_VecOk (v0 : Value) (w : World) (R : Value → World → Prop) : vc PP A_impl_VecOk ((Tryz.f26.body).getD .skip) (retF PP Tryz.f26.results.toList R) (nthV [v0]) w = F_impl_VecOk PP v0 w R := by kernel_rfl
theorem c_impl_VecOk {v0 : Value} {w : World} {R : Value → World → Prop} (h : F_impl_VecOk PP v0 w R) : vcall PP n_impl_VecOk #[v0] w R :=
  call_of_vc (T := A_impl_VecOk) (c := (Tryz.f26.body).getD .skip) (n := 24) mixed Tryz.func26 rfl rfl (by kernel_rfl) (by kernel_rfl) rfl (by rw [k_impl_VecOk]; exact h)

/-- spec.DrawTermSort -/
def F_spec_DrawTermSort (P : Program) (v0 : Value) (w : World) (R : Value → World → Prop) : Prop :=
  valloc P T_impl_Term w fun t3 w_1 =>
  vcall P n_spec_l12Open #[v0] w_1 fun t5 w_2 =>
  vcall P n_spec_l2Draw #[t5] w_2 fun t6 w_3 =>
  vextract P t6 0 w_3 fun t7 w_4 =>
  vextract P t6 1 w_4 fun t8 w_5 =>
  vstore P T_impl_Term t3 t8 w_5 fun _ w_6 =>
  vlv P T_impl_Term t3 w_6 fun r3 w_7 =>
  R (.tuple #[t7, r3]) w_7
def A_spec_DrawTermSort : Ann := { ord := [], loops := [], cuts := [] }
theorem k_spec_DrawTermSort (v0 : Value) (w : World) (R : Value → World → Prop) : vc PP A_spec_DrawTermSort ((Tryz.f27.body).getD .skip) (retF PP Tryz.f27.results.toList R) (nthV [v0]) w = F_spec_DrawTermSort PP v0 w R := by kernel_rfl
theorem c_spec_DrawTermSort {v0 : Value} {w : World} {R : Value → World → Prop} (h : F_spec_DrawTermSort PP v0 w R) : vcall PP n_spec_DrawTermSort #[v0] w R :=
  call_of_vc (T := A_spec_DrawTermSort) (c := (Tryz.f27.body).getD .skip) (n := 9) mixed Tryz.func27 rfl rfl (by kernel_rfl) (by kernel_rfl) rfl (by rw [k_spec_DrawTermSort]; exact h)

/-- impl.VecCut -/
def F_impl_VecCut (P : Program) (v0 v1 v2 : Value) (w : World) (R : Value → World → Prop) : Prop :=
  vbox P T_impl_Vec v0 w fun t3 w_1 =>
  valloc P T_impl_Vec w_1 fun t6 w_2 =>
  vjoin (fun J =>
    vload P T_impl_Vec t3 w_2 fun t9 w_4 =>
    vcall P n_impl_VecOk #[t9] w_4 fun t10 w_5 =>
    vun P .not t10 w_5 fun t11 w_6 =>
    vif t11 (
      vbuild P T_impl_Vec [] w_6 fun t27 w_7 =>
      vstore P T_impl_Vec t6 t27 w_7 fun _ w_8 =>
      vlv P T_impl_Vec t6 w_8 fun r6 w_9 =>
      R (.tuple #[r6, (.bool false)]) w_9) (
      vbin P .lss T_int true v2 (.int .i64 0) w_6 fun t14 w_10 =>
      vif t14 (
        vbuild P T_impl_Vec [] w_10 fun t27_1 w_11 =>
        vstore P T_impl_Vec t6 t27_1 w_11 fun _ w_12 =>
        vlv P T_impl_Vec t6 w_12 fun r6_1 w_13 =>
        R (.tuple #[r6_1, (.bool false)]) w_13) (
        vbin P .lss T_int false v1 v2 w_10 fun t19 w_14 =>
        vif t19 (
          vbuild P T_impl_Vec [] w_14 fun t27_2 w_15 =>
          vstore P T_impl_Vec t6 t27_2 w_15 fun _ w_16 =>
          vlv P T_impl_Vec t6 w_16 fun r6_2 w_17 =>
          R (.tuple #[r6_2, (.bool false)]) w_17) (
          vfaddr P T_impl_Vec t3 0 w_14 fun t23 w_18 =>
          vload P T_int t23 w_18 fun t24 w_19 =>
          vbin P .geq T_int false v1 t24 w_19 fun t25 w_20 =>
          vif t25 (
            vbuild P T_impl_Vec [] w_20 fun t27_3 w_21 =>
            vstore P T_impl_Vec t6 t27_3 w_21 fun _ w_22 =>
            vlv P T_impl_Vec t6 w_22 fun r6_3 w_23 =>
            R (.tuple #[r6_3, (.bool false)]) w_23) (
            J [] w_20))))) (fun _ _ w_3 =>
    vbin P .sub T_int false v1 v2 w_3 fun t30 w_24 =>
    vbin P .add T_int true t30 (.int .i64 1) w_24 fun t31 w_25 =>
    vload P T_impl_Vec t3 w_25 fun t33 w_26 =>
    vcall P n_impl_Vec_raw #[t33] w_26 fun t34 w_27 =>
    vbin P .shr T_impl_raw false t34 v2 w_27 fun t36 w_28 =>
    vcall P n_impl_raw_cut #[t36, t31] w_28 fun t38 w_29 =>
    vconv P T_impl_raw T_int t38 w_29 fun t39 w_30 =>
    vbuild P T_impl_Vec [(0, t31), (1, t39)] w_30 fun t40 w_31 =>
    vstore P T_impl_Vec t6 t40 w_31 fun _ w_32 =>
    vlv P T_impl_Vec t6 w_32 fun r6_4 w_33 =>
    R (.tuple #[r6_4, (.bool true)]) w_33)
def A_impl_VecCut : Ann := { ord := [], loops := [], cuts := [(8195, [])] }
theorem k_impl_VecCut (v0 v1 v2 : Value) (w : World) (R : Value → World → Prop) : vc PP A_impl_VecCut ((Tryz.f28.body).getD .skip) (retF PP Tryz.f28.results.toList R) (nthV [v0, v1, v2]) w = F_impl_VecCut PP v0 v1 v2 w R := by kernel_rfl
theorem c_impl_VecCut {v0 v1 v2 : Value} {w : World} {R : Value → World → Prop} (h : F_impl_VecCut PP v0 v1 v2 w R) : vcall PP n_impl_VecCut #[v0, v1, v2] w R :=
  call_of_vc (T := A_impl_VecCut) (c := (Tryz.f28.body).getD .skip) (n := 41) mixed Tryz.func28 rfl rfl (by kernel_rfl) (by kernel_rfl) rfl (by rw [k_impl_VecCut]; exact h)

/-- laws.wpUn -/
def F_laws_wpUn (P : Program) (v0 v1 : Value) (w : World) (R : Value → World → Prop) : Prop :=
  vbox P T_impl_Vec v1 w fun t3 w_1 =>
  valloc P T_impl_Vec w_1 fun t4 w_2 =>
  vload P T_impl_Vec t3 w_2 fun t9 w_3 =>
  vcall P n_impl_VecUn #[v0, t9] w_3 fun t10 w_4 =>
  vextract P t10 0 w_4 fun t11 w_5 =>
  vextract P t10 1 w_5 fun _ w_6 =>
  valloc P T_impl_Vec w_6 fun t5 w_7 =>
  vstore P T_impl_Vec t5 t11 w_7 fun _ w_8 =>
  vload P T_impl_Vec t5 w_8 fun t13 w_9 =>
  vstore P T_impl_Vec t4 t13 w_9 fun _ w_10 =>
  vlv P T_impl_Vec t4 w_10 fun r4 w_11 =>
  R r4 w_11
def A_laws_wpUn : Ann := { ord := [], loops := [], cuts := [] }
theorem k_laws_wpUn (v0 v1 : Value) (w : World) (R : Value → World → Prop) : vc PP A_laws_wpUn ((Tryz.f29.body).getD .skip) (retF PP Tryz.f29.results.toList R) (nthV [v0, v1]) w = F_laws_wpUn PP v0 v1 w R := by kernel_rfl
theorem c_laws_wpUn {v0 v1 : Value} {w : World} {R : Value → World → Prop} (h : F_laws_wpUn PP v0 v1 w R) : vcall PP n_laws_wpUn #[v0, v1] w R :=
  call_of_vc (T := A_laws_wpUn) (c := (Tryz.f29.body).getD .skip) (n := 14) mixed Tryz.func29 rfl rfl (by kernel_rfl) (by kernel_rfl) rfl (by rw [k_laws_wpUn]; exact h)

end Go.Proofs.YtbiabimalkkeiaaGreatDoor
