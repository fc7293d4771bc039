import Derived.Test.YtpihgpfebhegmaaNm
set_option linter.unusedVariables false
set_option linter.unusedSimpArgs false
set_option linter.unnecessarySimpa false
set_option linter.unusedSectionVars false
namespace Go.Proofs.Ytpihgpfebhegmaa
open Go Go.Vc Go.Proofs
/-- (*impl.search).learn -/
def F_impl_search_learn (P : Program) (v0 v1 : Value) (w : World) (R : Value → World → Prop) : Prop :=
  vbox P T_P_impl_search v0 w fun t2 w_1 =>
  vmkM P T_impl_clauseBits none w_1 fun t17 w_2 =>
  vbi P .len [T_Lint] T_int [v1] w_2 fun t19 w_3 =>
  vloop [(.int .i64 0)] w_3 fun C u _ w_4 =>
    vbin P .lss T_int false (sl 0 u) t19 w_4 fun t21 w_5 =>
    vif t21 (
      viaddr P T_Lint v1 (sl 0 u) w_5 fun t22 w_6 =>
      vload P T_int t22 w_6 fun t23 w_7 =>
      vmset P T_impl_clauseBits t17 t23 (.bool true) w_7 fun _ w_8 =>
      vbin P .add T_int true (sl 0 u) (.int .i64 1) w_8 fun t26 w_9 =>
      C [t26] w_9) (
      vload P T_P_impl_search t2 w_5 fun t28 w_10 =>
      vnil P t28 w_10 fun t29 w_11 =>
      vfaddr P T_impl_search t29 1 w_11 fun t30 w_12 =>
      vload P T_P_impl_trail t30 w_12 fun t31 w_13 =>
      vcall P n_impl_trail_greatest #[t31, t17] w_13 fun t33 w_14 =>
      vextract P t33 0 w_14 fun _ w_15 =>
      vextract P t33 1 w_15 fun t35 w_16 =>
      vloop [t35] w_16 fun C_1 u_1 _ w_17 =>
        vbi P .len [T_Lint] T_int [(sl 0 u_1)] w_17 fun t37 w_18 =>
        vbin P .gtr T_int true t37 (.int .i64 1) w_18 fun t38 w_19 =>
        vif t38 (
          vmkF P (.func n_impl_search_learn_1) [] [t2] w_19 fun t40 w_20 =>
          vcall P n_slices_MaxFunc_Lint_int #[(sl 0 u_1), t40] w_20 fun t41 w_21 =>
          vbi P .delete [T_impl_clauseBits, T_int] T_T_ [t17, t41] w_21 fun _ w_22 =>
          vdraw w_22 fun w_23 =>
          vload P T_P_impl_search t2 w_23 fun t44 w_24 => w_24 = w_23 ∧
          vload P T_P_impl_search t2 w_23 fun t45 w_25 => w_25 = w_23 ∧
          vnil P t45 w_23 fun t46 w_26 => w_26 = w_23 ∧
          vfaddr P T_impl_search t46 2 w_23 fun t47 w_27 => w_27 = w_23 ∧
          vload P T_Lint t47 w_23 fun t48 w_28 => w_28 = w_23 ∧
          vload P T_P_impl_search t2 w_23 fun t49 w_29 => w_29 = w_23 ∧
          vnil P t49 w_23 fun t50 w_30 => w_30 = w_23 ∧
          vfaddr P T_impl_search t50 1 w_23 fun t51 w_31 => w_31 = w_23 ∧
          vload P T_P_impl_trail t51 w_23 fun t52 w_32 => w_32 = w_23 ∧
          vcall P n_impl_trail_place #[t52, t41] w_23 fun t54 w_33 => (vload P T_Lint t47 w_33 fun v x => v = t48 ∧ x = w_33) ∧ (vfaddr P T_impl_search t46 2 w_33 fun v x => v = t47 ∧ x = w_33) ∧ (vnil P t45 w_33 fun v x => v = t46 ∧ x = w_33) ∧ (vload P T_P_impl_search t2 w_33 fun v x => v = t45 ∧ x = w_33) ∧ (vload P T_P_impl_search t2 w_33 fun v x => v = t44 ∧ x = w_33) ∧
          viaddr P T_Lint t48 t54 w_33 fun t55 w_34 => w_34 = w_33 ∧
          vload P T_int t55 w_33 fun t56 w_35 => w_35 = w_33 ∧
          vcall P n_impl_search_clause #[t44, t56] w_33 fun t57 w_36 =>
          vbi P .len [T_Lint] T_int [t57] w_36 fun t58 w_37 => w_37 = w_36 ∧
          vloop [(.int .i64 0)] w_36 fun C_2 u_2 _ w_38 =>
            vbin P .lss T_int false (sl 0 u_2) t58 w_38 fun t60 w_39 =>
            vif t60 (
              viaddr P T_Lint t57 (sl 0 u_2) w_39 fun t61 w_40 =>
              vload P T_int t61 w_40 fun t62 w_41 =>
              vun P .neg t41 w_41 fun t65 w_42 =>
              vbin P .neq T_int false t62 t65 w_42 fun t66 w_43 =>
              vif t66 (
                vmset P T_impl_clauseBits t17 t62 (.bool true) w_43 fun _ w_44 =>
                vbin P .add T_int true (sl 0 u_2) (.int .i64 1) w_44 fun t69 w_45 =>
                C_2 [t69] w_45) (
                vbin P .add T_int true (sl 0 u_2) (.int .i64 1) w_43 fun t69_1 w_46 =>
                C_2 [t69_1] w_46)) (
              vload P T_P_impl_search t2 w_39 fun t71 w_47 =>
              vnil P t71 w_47 fun t72 w_48 =>
              vfaddr P T_impl_search t72 1 w_48 fun t73 w_49 =>
              vload P T_P_impl_trail t73 w_49 fun t74 w_50 =>
              vcall P n_impl_trail_greatest #[t74, t17] w_50 fun t76 w_51 =>
              vextract P t76 0 w_51 fun _ w_52 =>
              vextract P t76 1 w_52 fun t78 w_53 =>
              C_1 [t78] w_53)) (
          vrange P T_impl_clauseBits t17 w_19 fun t80 w_54 =>
          vloop [(.int .i64 0), (.slice none 0 0)] w_54 fun C_3 u_3 _ w_55 =>
            vnext P t80 false T_T_ w_55 fun t81 w_56 =>
            vextract P t81 0 w_56 fun t82 w_57 =>
            vif t82 (
              ventry P t80 w_57 fun t83 w_58 =>
              vextract P t83 0 w_58 fun t84 w_59 =>
              vbuildS P T_Lint 1 [(0, t84)] w_59 fun t87 w_60 =>
              vbi P .append [T_Lint, T_Lint] T_Lint [(sl 1 u_3), t87] w_60 fun t88 w_61 =>
              vjoin (fun J =>
                vbi P .len [T_Lint] T_int [(sl 0 u_1)] w_61 fun t90 w_63 =>
                vbin P .eql T_int true t90 (.int .i64 1) w_63 fun t91 w_64 =>
                vif t91 (
                  viaddr P T_Lint (sl 0 u_1) (.int .i64 0) w_64 fun t95 w_65 =>
                  vload P T_int t95 w_65 fun t96 w_66 =>
                  vbin P .neq T_int false t84 t96 w_66 fun t97 w_67 =>
                  J [t97] w_67) (
                  J [(.bool false)] w_64)) (fun u_4 _ w_62 =>
                vif (sl 0 u_4) (
                  vload P T_P_impl_search t2 w_62 fun t100 w_68 =>
                  vnil P t100 w_68 fun t101 w_69 =>
                  vfaddr P T_impl_search t101 1 w_69 fun t102 w_70 =>
                  vload P T_P_impl_trail t102 w_70 fun t103 w_71 =>
                  vcall P n_impl_trail_level #[t103, t84] w_71 fun t105 w_72 =>
                  vbi P .max [T_int, T_int] T_int [(sl 0 u_3), t105] w_72 fun t106 w_73 =>
                  C_3 [t106, t88] w_73) (
                  C_3 [(sl 0 u_3), t88] w_62))) (
              vcall P n_slices_SortFunc_Lint_int #[(sl 1 u_3), (.func (.func n_impl_search_learn_2) #[] #[])] w_57 fun _ w_74 =>
              R (.tuple #[(sl 1 u_3), (sl 0 u_3)]) w_74)))
def A_impl_search_learn : Ann := { ord := [(11, [0, 1, 2, 3, 4, 5, 6, 7, 8, 9, 15, 10, 11, 12, 13, 14], [(0, [13, 14]), (1, [2, 3, 4, 11, 12, 13, 14]), (2, [3, 4, 11, 12, 13, 14]), (3, [4, 11, 12, 13, 14]), (4, [11, 12, 13, 14]), (5, [6, 7, 8, 10, 11, 12, 13, 14]), (6, [7, 8, 10, 11, 12, 13, 14]), (7, [8, 10, 11, 12, 13, 14]), (8, [10, 11, 12, 13, 14]), (9, [10, 11, 12, 13, 14]), (10, [11, 12, 13, 14]), (11, [12, 13, 14]), (12, [13, 14]), (13, [14])])], loops := [(3, [20]), (8, [10]), (12, [59]), (21, [14, 15])], cuts := [(102425, [98])] }
theorem k_impl_search_learn (v0 v1 : Value) (w : World) (R : Value → World → Prop) : vc PP A_impl_search_learn ((Try.f69.body).getD .skip) (retF PP Try.f69.results.toList R) (nthV [v0, v1]) w = F_impl_search_learn PP v0 v1 w R := by kernel_rfl
theorem c_impl_search_learn {v0 v1 : Value} {w : World} {R : Value → World → Prop} (h : F_impl_search_learn PP v0 v1 w R) : vcall PP n_impl_search_learn #[v0, v1] w R :=
  call_of_vc (T := A_impl_search_learn) (c := (Try.f69.body).getD .skip) (n := 111) mixed Try.func69 rfl rfl (by kernel_rfl) (by kernel_rfl) rfl (by rw [k_impl_search_learn]; exact h)

/-- (*impl.search).goBack -/
def F_impl_search_goBack (P : Program) (v0 v1 : Value) (w : World) (R : Value → World → Prop) : Prop :=
  vnil P v0 w fun t7 w_1 =>
  vfaddr P T_impl_search t7 1 w_1 fun t8 w_2 =>
  vload P T_P_impl_trail t8 w_2 fun t9 w_3 =>
  vloop [] w_3 fun C _ _ w_4 =>
    vjoin (fun J =>
      vdraw w_4 fun w_6 =>
      vnil P t9 w_6 fun t11 w_7 => w_7 = w_6 ∧
      vfaddr P T_impl_trail t11 0 w_6 fun t12 w_8 => w_8 = w_6 ∧
      vload P T_Lint t12 w_6 fun t13 w_9 => w_9 = w_6 ∧
      vbi P .len [T_Lint] T_int [t13] w_6 fun t14 w_10 => w_10 = w_6 ∧
      vbin P .gtr T_int true t14 (.int .i64 0) w_6 fun t15 w_11 => w_11 = w_6 ∧
      vif t15 (
        vnil P t9 w_6 fun t18 w_12 => w_12 = w_6 ∧
        vfaddr P T_impl_trail t18 2 w_6 fun t19 w_13 => w_13 = w_6 ∧
        vload P T_Lint t19 w_6 fun t20 w_14 => w_14 = w_6 ∧
        vnil P t9 w_6 fun t22 w_15 => w_15 = w_6 ∧
        vfaddr P T_impl_trail t22 0 w_6 fun t23 w_16 => w_16 = w_6 ∧
        vload P T_Lint t23 w_6 fun t24 w_17 => w_17 = w_6 ∧
        vbi P .len [T_Lint] T_int [t24] w_6 fun t25 w_18 => w_18 = w_6 ∧
        vbin P .sub T_int true t25 (.int .i64 1) w_6 fun t26 w_19 => w_19 = w_6 ∧
        viaddr P T_Lint t20 t26 w_6 fun t27 w_20 => w_20 = w_6 ∧
        vload P T_int t27 w_6 fun t28 w_21 => w_21 = w_6 ∧
        vbin P .gtr T_int false t28 v1 w_6 fun t30 w_22 => w_22 = w_6 ∧
        vif t30 (
          J [] w_6) (
          R (.tuple #[]) w_6)) (
        R (.tuple #[]) w_6)) (fun _ _ w_5 =>
      vnil P t9 w_5 fun t33 w_23 =>
      vfaddr P T_impl_trail t33 0 w_23 fun t34 w_24 =>
      vload P T_Lint t34 w_24 fun t35 w_25 =>
      vbi P .len [T_Lint] T_int [t35] w_25 fun t36 w_26 =>
      vbin P .sub T_int true t36 (.int .i64 1) w_26 fun t37 w_27 =>
      vdraw w_27 fun w_28 =>
      vnil P t9 w_28 fun t39 w_29 => w_29 = w_28 ∧
      vfaddr P T_impl_trail t39 1 w_28 fun t40 w_30 => w_30 = w_28 ∧
      vload P T_Lint t40 w_28 fun t41 w_31 => w_31 = w_28 ∧
      vnil P t9 w_28 fun t43 w_32 => w_32 = w_28 ∧
      vfaddr P T_impl_trail t43 0 w_28 fun t44 w_33 => w_33 = w_28 ∧
      vload P T_Lint t44 w_28 fun t45 w_34 => w_34 = w_28 ∧
      viaddr P T_Lint t45 t37 w_28 fun t47 w_35 => w_35 = w_28 ∧
      vload P T_int t47 w_28 fun t48 w_36 => w_36 = w_28 ∧
      vcall P n_impl_literal_variable #[t48] w_28 fun t49 w_37 => (vload P T_Lint t40 w_37 fun v x => v = t41 ∧ x = w_37) ∧ (vfaddr P T_impl_trail t39 1 w_37 fun v x => v = t40 ∧ x = w_37) ∧ (vnil P t9 w_37 fun v x => v = t39 ∧ x = w_37) ∧
      viaddr P T_Lint t41 t49 w_37 fun t50 w_38 => w_38 = w_37 ∧
      vstore P T_int t50 (.int .i64 0) w_37 fun _ w_39 =>
      vdraw w_39 fun w_40 =>
      vnil P t9 w_40 fun t55 w_41 => w_41 = w_40 ∧
      vfaddr P T_impl_trail t55 0 w_40 fun t56 w_42 => w_42 = w_40 ∧
      vload P T_Lint t56 w_40 fun t57 w_43 => w_43 = w_40 ∧
      vslice P T_Lint t57 none (some t37) none w_40 fun t59 w_44 => w_44 = w_40 ∧
      vnil P t9 w_40 fun t61 w_45 => w_45 = w_40 ∧
      vfaddr P T_impl_trail t61 2 w_40 fun t62 w_46 => w_46 = w_40 ∧
      vload P T_Lint t62 w_40 fun t63 w_47 => w_47 = w_40 ∧
      vslice P T_Lint t63 none (some t37) none w_40 fun t65 w_48 => w_48 = w_40 ∧
      vnil P v0 w_40 fun t67 w_49 => w_49 = w_40 ∧
      vfaddr P T_impl_search t67 2 w_40 fun t68 w_50 => w_50 = w_40 ∧
      vload P T_Lint t68 w_40 fun t69 w_51 => w_51 = w_40 ∧
      vslice P T_Lint t69 none (some t37) none w_40 fun t71 w_52 => w_52 = w_40 ∧
      vnil P t9 w_40 fun t72 w_53 => w_53 = w_40 ∧
      vfaddr P T_impl_trail t72 0 w_40 fun t73 w_54 => w_54 = w_40 ∧
      vstore P T_Lint t73 t59 w_40 fun _ w_55 => (vslice P T_Lint t69 none (some t37) none w_55 fun v x => v = t71 ∧ x = w_55) ∧ (vslice P T_Lint t63 none (some t37) none w_55 fun v x => v = t65 ∧ x = w_55) ∧
      vnil P t9 w_55 fun t74 w_56 => w_56 = w_55 ∧
      vfaddr P T_impl_trail t74 2 w_55 fun t75 w_57 => w_57 = w_55 ∧
      vstore P T_Lint t75 t65 w_55 fun _ w_58 => (vslice P T_Lint t69 none (some t37) none w_58 fun v x => v = t71 ∧ x = w_58) ∧
      vnil P v0 w_58 fun t76 w_59 => w_59 = w_58 ∧
      vfaddr P T_impl_search t76 2 w_58 fun t77 w_60 => w_60 = w_58 ∧
      vstore P T_Lint t77 t71 w_58 fun _ w_61 =>
      C [] w_61)
def A_impl_search_goBack : Ann := { ord := [(1, [0, 1, 2, 3, 4, 5, 6, 7, 8, 9, 10, 11, 12, 13, 14, 15, 16, 17, 18, 19, 20, 21], [(0, [1, 2, 3, 4, 5, 6, 7, 8, 9, 10, 11, 12, 13, 14, 15, 16, 17, 18, 19, 20, 21]), (1, [2, 3, 4, 5, 6, 7, 8, 9, 10, 11, 12, 13, 14, 15, 16, 17, 18, 19, 20, 21]), (2, [3, 4, 5, 6, 7, 8, 9, 10, 11, 12, 13, 14, 15, 16, 17, 18, 19, 20, 21]), (3, [4, 5, 6, 7, 8, 9, 10, 11, 12, 13, 14, 15, 16, 17, 18, 19, 20, 21]), (4, [5, 6, 7, 8, 9, 10, 11, 12, 13, 14, 15, 16, 17, 18, 19, 20, 21]), (5, [6, 7, 8, 9, 10, 11, 12, 13, 14, 15, 16, 17, 18, 19, 20, 21]), (6, [7, 8, 9, 10, 11, 12, 13, 14, 15, 16, 17, 18, 19, 20, 21]), (7, [8, 9, 10, 17, 18, 20, 21]), (8, [9, 10, 17, 18, 20, 21]), (9, [10, 17, 18, 20, 21]), (10, [17, 18, 20, 21]), (11, [12, 13, 14, 15, 16, 17, 18, 20, 21]), (12, [13, 14, 15, 16, 17, 18, 20, 21]), (13, [14, 15, 16, 17, 18, 20, 21]), (14, [15, 16, 17, 18, 20, 21]), (15, [16, 17, 18, 20, 21]), (16, [17, 18, 20, 21]), (17, [18, 20, 21]), (18, [20, 21]), (19, [20, 21]), (20, [21])]), (3, [0, 1, 2, 3, 4, 5, 6, 7, 8, 9, 10, 11, 12, 13], [(0, [1, 2, 3, 12, 13]), (1, [2, 3, 12, 13]), (2, [3, 12, 13]), (3, [12, 13]), (4, [5, 6, 7, 9, 10, 11, 12, 13]), (5, [6, 7, 9, 10, 11, 12, 13]), (6, [7, 9, 10, 11, 12, 13]), (7, [9, 10, 11, 12, 13]), (8, [9, 10, 11, 12, 13]), (9, [10, 11, 12, 13]), (10, [11, 12, 13]), (11, [12, 13]), (12, [13])]), (4, [0, 1, 2, 3, 4, 5, 6, 7, 8, 9, 10, 11, 12, 13, 14, 15, 16, 17, 18, 19, 20, 21, 22, 23, 24, 25, 26, 27, 28, 29], [(0, [21, 22, 23, 24, 25, 26, 27, 28, 29]), (1, [24, 25, 26, 27, 28, 29]), (2, [27, 28, 29]), (3, [4, 5, 6, 8, 21, 22, 23, 24, 25, 26, 27, 28, 29]), (4, [5, 6, 8, 21, 22, 23, 24, 25, 26, 27, 28, 29]), (5, [6, 8, 21, 22, 23, 24, 25, 26, 27, 28, 29]), (6, [8, 21, 22, 23, 24, 25, 26, 27, 28, 29]), (7, [8, 21, 22, 23, 24, 25, 26, 27, 28, 29]), (8, [21, 22, 23, 24, 25, 26, 27, 28, 29]), (9, [10, 11, 12, 14, 21, 22, 23, 24, 25, 26, 27, 28, 29]), (10, [11, 12, 14, 21, 22, 23, 24, 25, 26, 27, 28, 29]), (11, [12, 14, 21, 22, 23, 24, 25, 26, 27, 28, 29]), (12, [14, 21, 22, 23, 24, 25, 26, 27, 28, 29]), (13, [14, 24, 25, 26, 27, 28, 29]), (14, [24, 25, 26, 27, 28, 29]), (15, [16, 17, 18, 20, 21, 22, 23, 24, 25, 26, 27, 28, 29]), (16, [17, 18, 20, 21, 22, 23, 24, 25, 26, 27, 28, 29]), (17, [18, 20, 21, 22, 23, 24, 25, 26, 27, 28, 29]), (18, [20, 21, 22, 23, 24, 25, 26, 27, 28, 29]), (19, [20, 27, 28, 29]), (20, [27, 28, 29]), (21, [22, 23, 24, 25, 26, 27, 28, 29]), (22, [23, 24, 25, 26, 27, 28, 29]), (23, [24, 25, 26, 27, 28, 29]), (24, [25, 26, 27, 28, 29]), (25, [26, 27, 28, 29]), (26, [27, 28, 29]), (27, [28, 29]), (28, [29])])], loops := [(1, [])], cuts := [(8194, [])] }
theorem k_impl_search_goBack (v0 v1 : Value) (w : World) (R : Value → World → Prop) : vc PP A_impl_search_goBack ((Try.f70.body).getD .skip) (retF PP Try.f70.results.toList R) (nthV [v0, v1]) w = F_impl_search_goBack PP v0 v1 w R := by kernel_rfl
theorem c_impl_search_goBack {v0 v1 : Value} {w : World} {R : Value → World → Prop} (h : F_impl_search_goBack PP v0 v1 w R) : vcall PP n_impl_search_goBack #[v0, v1] w R :=
  call_of_vc (T := A_impl_search_goBack) (c := (Try.f70.body).getD .skip) (n := 78) mixed Try.func70 rfl rfl (by kernel_rfl) (by kernel_rfl) rfl (by rw [k_impl_search_goBack]; exact h)

/-- spec.l5Look -/
def F_spec_l5Look (P : Program) (v0 v1 : Value) (w : World) (R : Value → World → Prop) : Prop :=
  vloop [(.int .i64 0), (.int .i64 0), (.int .i64 0)] w fun C u _ w_1 =>
    vbi P .len [T_Lint] T_int [v1] w_1 fun t12 w_2 =>
    vbin P .lss T_int false (sl 2 u) t12 w_2 fun t13 w_3 =>
    vif t13 (
      viaddr P T_Lint v1 (sl 2 u) w_3 fun t19 w_4 =>
      vload P T_int t19 w_4 fun t20 w_5 =>
      vcall P n_spec_l5Sign #[v0, t20] w_5 fun t21 w_6 =>
      vbin P .gtr T_int true t21 (.int .i64 0) w_6 fun t23 w_7 =>
      vif t23 (
        R (.tuple #[(.int .i64 (-1)), (.int .i64 0)]) w_7) (
        vbin P .eql T_int true t21 (.int .i64 0) w_7 fun t25 w_8 =>
        vif t25 (
          vbin P .add T_int true (sl 0 u) (.int .i64 1) w_8 fun t27 w_9 =>
          viaddr P T_Lint v1 (sl 2 u) w_9 fun t30 w_10 =>
          vload P T_int t30 w_10 fun t31 w_11 =>
          vbin P .add T_int true (sl 2 u) (.int .i64 1) w_11 fun t15 w_12 =>
          C [t27, t31, t15] w_12) (
          vbin P .add T_int true (sl 2 u) (.int .i64 1) w_8 fun t15_1 w_13 =>
          C [(sl 0 u), (sl 1 u), t15_1] w_13))) (
      R (.tuple #[(sl 0 u), (sl 1 u)]) w_3)
def A_spec_l5Look : Ann := { ord := [], loops := [(4, [6, 7, 8])], cuts := [] }
theorem k_spec_l5Look (v0 v1 : Value) (w : World) (R : Value → World → Prop) : vc PP A_spec_l5Look ((Try.f71.body).getD .skip) (retF PP Try.f71.results.toList R) (nthV [v0, v1]) w = F_spec_l5Look PP v0 v1 w R := by kernel_rfl
theorem c_spec_l5Look {v0 v1 : Value} {w : World} {R : Value → World → Prop} (h : F_spec_l5Look PP v0 v1 w R) : vcall PP n_spec_l5Look #[v0, v1] w R :=
  call_of_vc (T := A_spec_l5Look) (c := (Try.f71.body).getD .skip) (n := 34) mixed Try.func71 rfl rfl (by kernel_rfl) (by kernel_rfl) rfl (by rw [k_spec_l5Look]; exact h)

/-- spec.l5Levels -/
def F_spec_l5Levels (P : Program) (v0 v1 : Value) (w : World) (R : Value → World → Prop) : Prop :=
  vbox P T_impl_Cnf v0 w fun t2 w_1 =>
  vbox P T_impl_Sat v1 w_1 fun t3 w_2 =>
  vfaddr P T_impl_Cnf t2 0 w_2 fun t8 w_3 =>
  vload P T_int t8 w_3 fun t9 w_4 =>
  vbin P .add T_int true t9 (.int .i64 1) w_4 fun t10 w_5 =>
  vmkS P T_Lint t10 t10 w_5 fun t11 w_6 =>
  vloop [(.int .i64 0), (.int .i64 0)] w_6 fun C u _ w_7 =>
    vfaddr P T_impl_Sat t3 0 w_7 fun t13 w_8 =>
    vload P T_Lint t13 w_8 fun t14 w_9 =>
    vbi P .len [T_Lint] T_int [t14] w_9 fun t15 w_10 =>
    vbin P .lss T_int false (sl 1 u) t15 w_10 fun t16 w_11 =>
    vif t16 (
      vjoin (fun J =>
        vfaddr P T_impl_Sat t3 1 w_11 fun t19 w_13 =>
        vload P T_Lint t19 w_13 fun t20 w_14 =>
        viaddr P T_Lint t20 (sl 1 u) w_14 fun t22 w_15 =>
        vload P T_int t22 w_15 fun t23 w_16 =>
        vbin P .lss T_int true t23 (.int .i64 0) w_16 fun t24 w_17 =>
        vif t24 (
          vbin P .add T_int true (sl 0 u) (.int .i64 1) w_17 fun t26 w_18 =>
          J [t26] w_18) (
          J [(sl 0 u)] w_17)) (fun u_1 _ w_12 =>
        vfaddr P T_impl_Sat t3 0 w_12 fun t28 w_19 =>
        vload P T_Lint t28 w_19 fun t29 w_20 =>
        viaddr P T_Lint t29 (sl 1 u) w_20 fun t31 w_21 =>
        vload P T_int t31 w_21 fun t32 w_22 =>
        vcall P n_spec_l4Abs #[t32] w_22 fun t33 w_23 =>
        viaddr P T_Lint t11 t33 w_23 fun t35 w_24 =>
        vstore P T_int t35 (sl 0 u_1) w_24 fun _ w_25 =>
        vbin P .add T_int true (sl 1 u) (.int .i64 1) w_25 fun t18 w_26 =>
        C [(sl 0 u_1), t18] w_26)) (
      R t11 w_11)
def A_spec_l5Levels : Ann := { ord := [], loops := [(4, [6, 7])], cuts := [(28680, [6])] }
theorem k_spec_l5Levels (v0 v1 : Value) (w : World) (R : Value → World → Prop) : vc PP A_spec_l5Levels ((Try.f72.body).getD .skip) (retF PP Try.f72.results.toList R) (nthV [v0, v1]) w = F_spec_l5Levels PP v0 v1 w R := by kernel_rfl
theorem c_spec_l5Levels {v0 v1 : Value} {w : World} {R : Value → World → Prop} (h : F_spec_l5Levels PP v0 v1 w R) : vcall PP n_spec_l5Levels #[v0, v1] w R :=
  call_of_vc (T := A_spec_l5Levels) (c := (Try.f72.body).getD .skip) (n := 37) mixed Try.func72 rfl rfl (by kernel_rfl) (by kernel_rfl) rfl (by rw [k_spec_l5Levels]; exact h)

/-- spec.l5Top -/
def F_spec_l5Top (P : Program) (v0 v1 : Value) (w : World) (R : Value → World → Prop) : Prop :=
  vloop [(.int .i64 0), (.int .i64 0), (.int .i64 0)] w fun C u _ w_1 =>
    vbi P .len [T_Lint] T_int [v1] w_1 fun t12 w_2 =>
    vbin P .lss T_int false (sl 2 u) t12 w_2 fun t13 w_3 =>
    vif t13 (
      viaddr P T_Lint v1 (sl 2 u) w_3 fun t19 w_4 =>
      vload P T_int t19 w_4 fun t20 w_5 =>
      vcall P n_spec_l4Abs #[t20] w_5 fun t21 w_6 =>
      viaddr P T_Lint v0 t21 w_6 fun t22 w_7 =>
      vload P T_int t22 w_7 fun t23 w_8 =>
      vbin P .gtr T_int false t23 (sl 0 u) w_8 fun t26 w_9 =>
      vif t26 (
        vbin P .eql T_int false t23 t23 w_9 fun t30 w_10 =>
        vif t30 (
          vbin P .add T_int true (.int .i64 0) (.int .i64 1) w_10 fun t32 w_11 =>
          vbin P .add T_int true (sl 2 u) (.int .i64 1) w_11 fun t15 w_12 =>
          C [t23, t32, t15] w_12) (
          vbin P .add T_int true (sl 2 u) (.int .i64 1) w_10 fun t15_1 w_13 =>
          C [t23, (.int .i64 0), t15_1] w_13)) (
        vbin P .eql T_int false t23 (sl 0 u) w_9 fun t30_1 w_14 =>
        vif t30_1 (
          vbin P .add T_int true (sl 1 u) (.int .i64 1) w_14 fun t32_1 w_15 =>
          vbin P .add T_int true (sl 2 u) (.int .i64 1) w_15 fun t15_2 w_16 =>
          C [(sl 0 u), t32_1, t15_2] w_16) (
          vbin P .add T_int true (sl 2 u) (.int .i64 1) w_14 fun t15_3 w_17 =>
          C [(sl 0 u), (sl 1 u), t15_3] w_17))) (
      R (.tuple #[(sl 0 u), (sl 1 u)]) w_3)
def A_spec_l5Top : Ann := { ord := [], loops := [(4, [6, 7, 8])], cuts := [] }
theorem k_spec_l5Top (v0 v1 : Value) (w : World) (R : Value → World → Prop) : vc PP A_spec_l5Top ((Try.f73.body).getD .skip) (retF PP Try.f73.results.toList R) (nthV [v0, v1]) w = F_spec_l5Top PP v0 v1 w R := by kernel_rfl
theorem c_spec_l5Top {v0 v1 : Value} {w : World} {R : Value → World → Prop} (h : F_spec_l5Top PP v0 v1 w R) : vcall PP n_spec_l5Top #[v0, v1] w R :=
  call_of_vc (T := A_spec_l5Top) (c := (Try.f73.body).getD .skip) (n := 35) mixed Try.func73 rfl rfl (by kernel_rfl) (by kernel_rfl) rfl (by rw [k_spec_l5Top]; exact h)

/-- spec.l5Learn -/
def F_spec_l5Learn (P : Program) (v0 v1 v2 v3 : Value) (w : World) (R : Value → World → Prop) : Prop :=
  vbox P T_impl_Cnf v0 w fun t4 w_1 =>
  vbox P T_impl_Sat v1 w_1 fun t5 w_2 =>
  vcall P n_spec_l5Top #[v2, v3] w_2 fun t15 w_3 =>
  vextract P t15 0 w_3 fun _ w_4 =>
  vextract P t15 1 w_4 fun t17 w_5 =>
  vloop [v3, t17] w_5 fun C u _ w_6 =>
    vbin P .gtr T_int true (sl 1 u) (.int .i64 1) w_6 fun t19 w_7 =>
    vif t19 (
      vload P T_impl_Sat t5 w_7 fun t20 w_8 =>
      vcall P n_spec_l5Last #[t20, (sl 0 u)] w_8 fun t22 w_9 =>
      vdraw w_9 fun w_10 =>
      vfaddr P T_impl_Cnf t4 0 w_10 fun t23 w_11 => w_11 = w_10 ∧
      vload P T_int t23 w_10 fun t24 w_12 => w_12 = w_10 ∧
      vload P T_impl_Cnf t4 w_10 fun t26 w_13 => w_13 = w_10 ∧
      vload P T_impl_Sat t5 w_10 fun t27 w_14 => w_14 = w_10 ∧
      vfaddr P T_impl_Sat t5 1 w_10 fun t28 w_15 => w_15 = w_10 ∧
      vload P T_Lint t28 w_10 fun t29 w_16 => w_16 = w_10 ∧
      viaddr P T_Lint t29 t22 w_10 fun t31 w_17 => w_17 = w_10 ∧
      vload P T_int t31 w_10 fun t32 w_18 => w_18 = w_10 ∧
      vfaddr P T_impl_Sat t5 0 w_10 fun t34 w_19 => w_19 = w_10 ∧
      vload P T_Lint t34 w_10 fun t35 w_20 => w_20 = w_10 ∧
      viaddr P T_Lint t35 t22 w_10 fun t37 w_21 => w_21 = w_10 ∧
      vload P T_int t37 w_10 fun t38 w_22 => w_22 = w_10 ∧
      vcall P n_spec_l5At #[t26, t27, t32] w_10 fun t33 w_23 => (vload P T_int t37 w_23 fun v x => v = t38 ∧ x = w_23) ∧ (viaddr P T_Lint t35 t22 w_23 fun v x => v = t37 ∧ x = w_23) ∧ (vload P T_Lint t34 w_23 fun v x => v = t35 ∧ x = w_23) ∧ (vfaddr P T_impl_Sat t5 0 w_23 fun v x => v = t34 ∧ x = w_23) ∧ (vload P T_int t23 w_23 fun v x => v = t24 ∧ x = w_23) ∧ (vfaddr P T_impl_Cnf t4 0 w_23 fun v x => v = t23 ∧ x = w_23) ∧
      vcall P n_spec_l4Abs #[t38] w_23 fun t39 w_24 => (vload P T_int t23 w_24 fun v x => v = t24 ∧ x = w_24) ∧ (vfaddr P T_impl_Cnf t4 0 w_24 fun v x => v = t23 ∧ x = w_24) ∧
      vcall P n_spec_l5Join #[t24, (sl 0 u), t33, t39] w_24 fun t40 w_25 =>
      vcall P n_spec_l5Top #[v2, t40] w_25 fun t44 w_26 =>
      vextract P t44 0 w_26 fun _ w_27 =>
      vextract P t44 1 w_27 fun t46 w_28 =>
      C [t40, t46] w_28) (
      R (sl 0 u) w_7)
def A_spec_l5Learn : Ann := { ord := [(4, [0, 1, 2, 3, 4, 5, 6, 7, 8, 9, 11, 12, 13, 14, 15, 10, 16, 17, 18], [(0, [1, 17, 18]), (1, [17, 18]), (2, [17, 18]), (3, [10, 16, 17, 18]), (4, [10, 16, 17, 18]), (5, [6, 8, 9, 10, 16, 17, 18]), (6, [8, 9, 10, 16, 17, 18]), (7, [8, 9, 10, 16, 17, 18]), (8, [9, 10, 16, 17, 18]), (9, [10, 16, 17, 18]), (11, [12, 14, 15, 16, 17, 18]), (12, [14, 15, 16, 17, 18]), (13, [14, 15, 16, 17, 18]), (14, [15, 16, 17, 18]), (15, [16, 17, 18]), (10, [16, 17, 18]), (16, [17, 18]), (17, [18])])], loops := [(2, [3, 10])], cuts := [] }
theorem k_spec_l5Learn (v0 v1 v2 v3 : Value) (w : World) (R : Value → World → Prop) : vc PP A_spec_l5Learn ((Try.f74.body).getD .skip) (retF PP Try.f74.results.toList R) (nthV [v0, v1, v2, v3]) w = F_spec_l5Learn PP v0 v1 v2 v3 w R := by kernel_rfl
theorem c_spec_l5Learn {v0 v1 v2 v3 : Value} {w : World} {R : Value → World → Prop} (h : F_spec_l5Learn PP v0 v1 v2 v3 w R) : vcall PP n_spec_l5Learn #[v0, v1, v2, v3] w R :=
  call_of_vc (T := A_spec_l5Learn) (c := (Try.f74.body).getD .skip) (n := 48) mixed Try.func74 rfl rfl (by kernel_rfl) (by kernel_rfl) rfl (by rw [k_spec_l5Learn]; exact h)

/-- spec.l5Back -/
def F_spec_l5Back (P : Program) (v0 v1 : Value) (w : World) (R : Value → World → Prop) : Prop :=
  vbox P T_impl_Sat v0 w fun t2 w_1 =>
  valloc P T_impl_Sat w_1 fun t4 w_2 =>
  vjoin (fun J =>
    vloop [(.int .i64 0), (.int .i64 0)] w_2 fun C u_1 _ w_4 =>
      vfaddr P T_impl_Sat t2 0 w_4 fun t8 w_5 =>
      vload P T_Lint t8 w_5 fun t9 w_6 =>
      vbi P .len [T_Lint] T_int [t9] w_6 fun t10 w_7 =>
      vbin P .lss T_int false (sl 0 u_1) t10 w_7 fun t11 w_8 =>
      vif t11 (
        vfaddr P T_impl_Sat t2 1 w_8 fun t12 w_9 =>
        vload P T_Lint t12 w_9 fun t13 w_10 =>
        viaddr P T_Lint t13 (sl 0 u_1) w_10 fun t15 w_11 =>
        vload P T_int t15 w_11 fun t16 w_12 =>
        vbin P .lss T_int true t16 (.int .i64 0) w_12 fun t17 w_13 =>
        vif t17 (
          vbin P .add T_int true (sl 1 u_1) (.int .i64 1) w_13 fun t19 w_14 =>
          vbin P .gtr T_int false t19 v1 w_14 fun t22 w_15 =>
          vif t22 (
            J [(sl 0 u_1)] w_15) (
            vbin P .add T_int true (sl 0 u_1) (.int .i64 1) w_15 fun t24 w_16 =>
            C [t24, t19] w_16)) (
          vbin P .gtr T_int false (sl 1 u_1) v1 w_13 fun t22_1 w_17 =>
          vif t22_1 (
            J [(sl 0 u_1)] w_17) (
            vbin P .add T_int true (sl 0 u_1) (.int .i64 1) w_17 fun t24_1 w_18 =>
            C [t24_1, (sl 1 u_1)] w_18))) (
        J [(sl 0 u_1)] w_8)) (fun u _ w_3 =>
    vbuildS P T_Lint 0 [] w_3 fun t25 w_19 =>
    vfaddr P T_impl_Sat t2 0 w_19 fun t26 w_20 =>
    vload P T_Lint t26 w_20 fun t27 w_21 =>
    vslice P T_Lint t27 none (some (sl 0 u)) none w_21 fun t29 w_22 =>
    vbi P .append [T_Lint, T_Lint] T_Lint [t25, t29] w_22 fun t30 w_23 =>
    vfaddr P T_impl_Sat t2 0 w_23 fun t31 w_24 =>
    vstore P T_Lint t31 t30 w_24 fun _ w_25 =>
    vbuildS P T_Lint 0 [] w_25 fun t32 w_26 =>
    vfaddr P T_impl_Sat t2 1 w_26 fun t33 w_27 =>
    vload P T_Lint t33 w_27 fun t34 w_28 =>
    vslice P T_Lint t34 none (some (sl 0 u)) none w_28 fun t36 w_29 =>
    vbi P .append [T_Lint, T_Lint] T_Lint [t32, t36] w_29 fun t37 w_30 =>
    vfaddr P T_impl_Sat t2 1 w_30 fun t38 w_31 =>
    vstore P T_Lint t38 t37 w_31 fun _ w_32 =>
    vload P T_impl_Sat t2 w_32 fun t39 w_33 =>
    vstore P T_impl_Sat t4 t39 w_33 fun _ w_34 =>
    vlv P T_impl_Sat t4 w_34 fun r4 w_35 =>
    R r4 w_35)
def A_spec_l5Back : Ann := { ord := [], loops := [(3, [5, 6])], cuts := [(16392, [5])] }
theorem k_spec_l5Back (v0 v1 : Value) (w : World) (R : Value → World → Prop) : vc PP A_spec_l5Back ((Try.f75.body).getD .skip) (retF PP Try.f75.results.toList R) (nthV [v0, v1]) w = F_spec_l5Back PP v0 v1 w R := by kernel_rfl
theorem c_spec_l5Back {v0 v1 : Value} {w : World} {R : Value → World → Prop} (h : F_spec_l5Back PP v0 v1 w R) : vcall PP n_spec_l5Back #[v0, v1] w R :=
  call_of_vc (T := A_spec_l5Back) (c := (Try.f75.body).getD .skip) (n := 40) mixed Try.func75 rfl rfl (by kernel_rfl) (by kernel_rfl) rfl (by rw [k_spec_l5Back]; exact h)

/-- spec.l5Below -/
def F_spec_l5Below (P : Program) (v0 v1 v2 : Value) (w : World) (R : Value → World → Prop) : Prop :=
  vloop [(.int .i64 0), (.int .i64 0)] w fun C u _ w_1 =>
    vbi P .len [T_Lint] T_int [v1] w_1 fun t12 w_2 =>
    vbin P .lss T_int false (sl 1 u) t12 w_2 fun t13 w_3 =>
    vif t13 (
      viaddr P T_Lint v1 (sl 1 u) w_3 fun t19 w_4 =>
      vload P T_int t19 w_4 fun t20 w_5 =>
      vcall P n_spec_l4Abs #[t20] w_5 fun t21 w_6 =>
      viaddr P T_Lint v0 t21 w_6 fun t22 w_7 =>
      vload P T_int t22 w_7 fun t23 w_8 =>
      vbin P .lss T_int false t23 v2 w_8 fun t26 w_9 =>
      vif t26 (
        vcall P n_spec_l4Max #[(sl 0 u), t23] w_9 fun t29 w_10 =>
        vbin P .add T_int true (sl 1 u) (.int .i64 1) w_10 fun t15 w_11 =>
        C [t29, t15] w_11) (
        vbin P .add T_int true (sl 1 u) (.int .i64 1) w_9 fun t15_1 w_12 =>
        C [(sl 0 u), t15_1] w_12)) (
      R (sl 0 u) w_3)
def A_spec_l5Below : Ann := { ord := [], loops := [(3, [7, 8])], cuts := [] }
theorem k_spec_l5Below (v0 v1 v2 : Value) (w : World) (R : Value → World → Prop) : vc PP A_spec_l5Below ((Try.f76.body).getD .skip) (retF PP Try.f76.results.toList R) (nthV [v0, v1, v2]) w = F_spec_l5Below PP v0 v1 v2 w R := by kernel_rfl
theorem c_spec_l5Below {v0 v1 v2 : Value} {w : World} {R : Value → World → Prop} (h : F_spec_l5Below PP v0 v1 v2 w R) : vcall PP n_spec_l5Below #[v0, v1, v2] w R :=
  call_of_vc (T := A_spec_l5Below) (c := (Try.f76.body).getD .skip) (n := 31) mixed Try.func76 rfl rfl (by kernel_rfl) (by kernel_rfl) rfl (by rw [k_spec_l5Below]; exact h)

/-- slices.Index[[]int,int] -/
def F_slices_Index_Lint_int (P : Program) (v0 v1 : Value) (w : World) (R : Value → World → Prop) : Prop :=
  vbi P .len [T_Lint] T_int [v0] w fun t7 w_1 =>
  vloop [(.int .i64 0)] w_1 fun C u _ w_2 =>
    vbin P .lss T_int false (sl 0 u) t7 w_2 fun t9 w_3 =>
    vif t9 (
      viaddr P T_Lint v0 (sl 0 u) w_3 fun t14 w_4 =>
      vload P T_int t14 w_4 fun t15 w_5 =>
      vbin P .eql T_int false v1 t15 w_5 fun t16 w_6 =>
      vif t16 (
        R (sl 0 u) w_6) (
        vbin P .add T_int true (sl 0 u) (.int .i64 1) w_6 fun t18 w_7 =>
        C [t18] w_7)) (
      R (.int .i64 (-1)) w_3)
def A_slices_Index_Lint_int : Ann := { ord := [], loops := [(2, [8])], cuts := [] }
theorem k_slices_Index_Lint_int (v0 v1 : Value) (w : World) (R : Value → World → Prop) : vc PP A_slices_Index_Lint_int ((Try.f77.body).getD .skip) (retF PP Try.f77.results.toList R) (nthV [v0, v1]) w = F_slices_Index_Lint_int PP v0 v1 w R := by kernel_rfl
theorem c_slices_Index_Lint_int {v0 v1 : Value} {w : World} {R : Value → World → Prop} (h : F_slices_Index_Lint_int PP v0 v1 w R) : vcall PP n_slices_Index_Lint_int #[v0, v1] w R :=
  call_of_vc (T := A_slices_Index_Lint_int) (c := (Try.f77.body).getD .skip) (n := 19) mixed Try.func77 rfl rfl (by kernel_rfl) (by kernel_rfl) rfl (by rw [k_slices_Index_Lint_int]; exact h)

/-- slices.IndexFunc[[]int,int] -/
def F_slices_IndexFunc_Lint_int (P : Program) (v0 v1 : Value) (w : World) (R : Value → World → Prop) : Prop :=
  vbi P .len [T_Lint] T_int [v0] w fun t7 w_1 =>
  vloop [(.int .i64 0)] w_1 fun C u _ w_2 =>
    vbin P .lss T_int false (sl 0 u) t7 w_2 fun t9 w_3 =>
    vif t9 (
      viaddr P T_Lint v0 (sl 0 u) w_3 fun t14 w_4 =>
      vload P T_int t14 w_4 fun t15 w_5 =>
      vcallv P v1 #[t15] w_5 fun t16 w_6 =>
      vif t16 (
        R (sl 0 u) w_6) (
        vbin P .add T_int true (sl 0 u) (.int .i64 1) w_6 fun t18 w_7 =>
        C [t18] w_7)) (
      R (.int .i64 (-1)) w_3)
def A_slices_IndexFunc_Lint_int : Ann := { ord := [], loops := [(2, [8])], cuts := [] }
theorem k_slices_IndexFunc_Lint_int (v0 v1 : Value) (w : World) (R : Value → World → Prop) : vc PP A_slices_IndexFunc_Lint_int ((Try.f78.body).getD .skip) (retF PP Try.f78.results.toList R) (nthV [v0, v1]) w = F_slices_IndexFunc_Lint_int PP v0 v1 w R := by kernel_rfl
theorem c_slices_IndexFunc_Lint_int {v0 v1 : Value} {w : World} {R : Value → World → Prop} (h : F_slices_IndexFunc_Lint_int PP v0 v1 w R) : vcall PP n_slices_IndexFunc_Lint_int #[v0, v1] w R :=
  call_of_vc (T := A_slices_IndexFunc_Lint_int) (c := (Try.f78.body).getD .skip) (n := 19) mixed Try.func78 rfl rfl (by kernel_rfl) (by kernel_rfl) rfl (by rw [k_slices_IndexFunc_Lint_int]; exact h)

/-- (*impl.trail).greatest -/
def F_impl_trail_greatest (P : Program) (v0 v1 : Value) (w : World) (R : Value → World → Prop) : Prop :=
  vrange P T_impl_clauseBits v1 w fun t11 w_1 =>
  vloop [(.int .i64 0), (.slice none 0 0)] w_1 fun C u _ w_2 =>
    vnext P t11 false T_T_ w_2 fun t12 w_3 =>
    vextract P t12 0 w_3 fun t13 w_4 =>
    vif t13 (
      ventry P t11 w_4 fun t14 w_5 =>
      vextract P t14 0 w_5 fun t15 w_6 =>
      vcall P n_impl_trail_level #[v0, t15] w_6 fun t18 w_7 =>
      vbin P .gtr T_int false t18 (sl 0 u) w_7 fun t22 w_8 =>
      vif t22 (
        vbuildS P T_Lint 1 [(0, t15)] w_8 fun t25 w_9 =>
        C [t18, t25] w_9) (
        vbin P .eql T_int false t18 (sl 0 u) w_8 fun t29 w_10 =>
        vif t29 (
          vbuildS P T_Lint 1 [(0, t15)] w_10 fun t32 w_11 =>
          vbi P .append [T_Lint, T_Lint] T_Lint [(sl 1 u), t32] w_11 fun t33 w_12 =>
          C [(sl 0 u), t33] w_12) (
          C [(sl 0 u), (sl 1 u)] w_10))) (
      R (.tuple #[(sl 0 u), (sl 1 u)]) w_4)
def A_impl_trail_greatest : Ann := { ord := [], loops := [(4, [6, 7])], cuts := [] }
theorem k_impl_trail_greatest (v0 v1 : Value) (w : World) (R : Value → World → Prop) : vc PP A_impl_trail_greatest ((Try.f79.body).getD .skip) (retF PP Try.f79.results.toList R) (nthV [v0, v1]) w = F_impl_trail_greatest PP v0 v1 w R := by kernel_rfl
theorem c_impl_trail_greatest {v0 v1 : Value} {w : World} {R : Value → World → Prop} (h : F_impl_trail_greatest PP v0 v1 w R) : vcall PP n_impl_trail_greatest #[v0, v1] w R :=
  call_of_vc (T := A_impl_trail_greatest) (c := (Try.f79.body).getD .skip) (n := 36) mixed Try.func79 rfl rfl (by kernel_rfl) (by kernel_rfl) rfl (by rw [k_impl_trail_greatest]; exact h)

/-- slices.MaxFunc[[]int,int] -/
def F_slices_MaxFunc_Lint_int (P : Program) (v0 v1 : Value) (w : World) (R : Value → World → Prop) : Prop :=
  vjoin (fun J =>
    vbi P .len [T_Lint] T_int [v0] w fun t8 w_2 =>
    vbin P .lss T_int true t8 (.int .i64 1) w_2 fun t9 w_3 =>
    vif t9 (
      vmkI P T_string (.string { data := #[115, 108, 105, 99, 101, 115, 46, 77, 97, 120, 70, 117, 110, 99, 58, 32, 101, 109, 112, 116, 121, 32, 108, 105, 115, 116] }) w_3 fun _ _ =>
      False) (
      J [] w_3)) (fun _ _ w_1 =>
    viaddr P T_Lint v0 (.int .i64 0) w_1 fun t12 w_5 =>
    vload P T_int t12 w_5 fun t13 w_6 =>
    vloop [t13, (.int .i64 1)] w_6 fun C u_1 _ w_7 =>
      vbi P .len [T_Lint] T_int [v0] w_7 fun t16 w_8 =>
      vbin P .lss T_int false (sl 1 u_1) t16 w_8 fun t17 w_9 =>
      vif t17 (
        viaddr P T_Lint v0 (sl 1 u_1) w_9 fun t23 w_10 =>
        vload P T_int t23 w_10 fun t24 w_11 =>
        vcallv P v1 #[t24, (sl 0 u_1)] w_11 fun t26 w_12 =>
        vbin P .gtr T_int true t26 (.int .i64 0) w_12 fun t27 w_13 =>
        vif t27 (
          viaddr P T_Lint v0 (sl 1 u_1) w_13 fun t30 w_14 =>
          vload P T_int t30 w_14 fun t31 w_15 =>
          vbin P .add T_int true (sl 1 u_1) (.int .i64 1) w_15 fun t19 w_16 =>
          C [t31, t19] w_16) (
          vbin P .add T_int true (sl 1 u_1) (.int .i64 1) w_13 fun t19_1 w_17 =>
          C [(sl 0 u_1), t19_1] w_17)) (
        R (sl 0 u_1) w_9))
def A_slices_MaxFunc_Lint_int : Ann := { ord := [], loops := [(5, [5, 6])], cuts := [(8195, [])] }
theorem k_slices_MaxFunc_Lint_int (v0 v1 : Value) (w : World) (R : Value → World → Prop) : vc PP A_slices_MaxFunc_Lint_int ((Try.f80.body).getD .skip) (retF PP Try.f80.results.toList R) (nthV [v0, v1]) w = F_slices_MaxFunc_Lint_int PP v0 v1 w R := by kernel_rfl
theorem c_slices_MaxFunc_Lint_int {v0 v1 : Value} {w : World} {R : Value → World → Prop} (h : F_slices_MaxFunc_Lint_int PP v0 v1 w R) : vcall PP n_slices_MaxFunc_Lint_int #[v0, v1] w R :=
  call_of_vc (T := A_slices_MaxFunc_Lint_int) (c := (Try.f80.body).getD .skip) (n := 33) mixed Try.func80 rfl rfl (by kernel_rfl) (by kernel_rfl) rfl (by rw [k_slices_MaxFunc_Lint_int]; exact h)

/-- (*impl.search).learn$1 -/
def F_impl_search_learn_1 (P : Program) (v0 v1 v2 : Value) (w : World) (R : Value → World → Prop) : Prop :=
  vdraw w fun w_1 =>
  vload P T_P_impl_search v2 w_1 fun t6 w_2 => w_2 = w_1 ∧
  vnil P t6 w_1 fun t7 w_3 => w_3 = w_1 ∧
  vfaddr P T_impl_search t7 1 w_1 fun t8 w_4 => w_4 = w_1 ∧
  vload P T_P_impl_trail t8 w_1 fun t9 w_5 => w_5 = w_1 ∧
  vload P T_P_impl_search v2 w_1 fun t12 w_6 => w_6 = w_1 ∧
  vnil P t12 w_1 fun t13 w_7 => w_7 = w_1 ∧
  vfaddr P T_impl_search t13 1 w_1 fun t14 w_8 => w_8 = w_1 ∧
  vload P T_P_impl_trail t14 w_1 fun t15 w_9 => w_9 = w_1 ∧
  vcall P n_impl_trail_place #[t9, v0] w_1 fun t11 w_10 => (vload P T_P_impl_trail t14 w_10 fun v x => v = t15 ∧ x = w_10) ∧ (vfaddr P T_impl_search t13 1 w_10 fun v x => v = t14 ∧ x = w_10) ∧ (vnil P t12 w_10 fun v x => v = t13 ∧ x = w_10) ∧ (vload P T_P_impl_search v2 w_10 fun v x => v = t12 ∧ x = w_10) ∧
  vcall P n_impl_trail_place #[t15, v1] w_10 fun t17 w_11 =>
  vcall P n_cmp_Compare_int #[t11, t17] w_11 fun t18 w_12 =>
  R t18 w_12
def A_impl_search_learn_1 : Ann := { ord := [(1, [0, 1, 2, 3, 4, 6, 7, 8, 9, 10, 5, 11, 12, 13], [(0, [1, 2, 3, 5, 11, 12, 13]), (1, [2, 3, 5, 11, 12, 13]), (2, [3, 5, 11, 12, 13]), (3, [5, 11, 12, 13]), (4, [5, 11, 12, 13]), (6, [7, 8, 9, 11, 12, 13]), (7, [8, 9, 11, 12, 13]), (8, [9, 11, 12, 13]), (9, [11, 12, 13]), (10, [11, 12, 13]), (5, [11, 12, 13]), (11, [12, 13]), (12, [13])])], loops := [], cuts := [] }
theorem k_impl_search_learn_1 (v0 v1 v2 : Value) (w : World) (R : Value → World → Prop) : vc PP A_impl_search_learn_1 ((Try.f81.body).getD .skip) (retF PP Try.f81.results.toList R) (nthV [v0, v1, v2]) w = F_impl_search_learn_1 PP v0 v1 v2 w R := by kernel_rfl
theorem c_impl_search_learn_1 {v0 v1 v2 : Value} {w : World} {R : Value → World → Prop} (h : F_impl_search_learn_1 PP v0 v1 v2 w R) : vcall PP n_impl_search_learn_1 #[v0, v1, v2] w R :=
  call_of_vc (T := A_impl_search_learn_1) (c := (Try.f81.body).getD .skip) (n := 19) mixed Try.func81 rfl rfl (by kernel_rfl) (by kernel_rfl) rfl (by rw [k_impl_search_learn_1]; exact h)

/-- cmp.Compare[int] -/
def F_cmp_Compare_int (P : Program) (v0 v1 : Value) (w : World) (R : Value → World → Prop) : Prop :=
  vcall P n_cmp_isNaN_int #[v0] w fun t8 w_1 =>
  vcall P n_cmp_isNaN_int #[v1] w_1 fun t10 w_2 =>
  vif t8 (
    vif t10 (
      R (.int .i64 0) w_2) (
      R (.int .i64 (-1)) w_2)) (
    vif t10 (
      R (.int .i64 1) w_2) (
      vbin P .lss T_int false v0 v1 w_2 fun t16 w_3 =>
      vif t16 (
        R (.int .i64 (-1)) w_3) (
        vbin P .gtr T_int false v0 v1 w_3 fun t19 w_4 =>
        vif t19 (
          R (.int .i64 1) w_4) (
          R (.int .i64 0) w_4))))
def A_cmp_Compare_int : Ann := { ord := [], loops := [], cuts := [] }
theorem k_cmp_Compare_int (v0 v1 : Value) (w : World) (R : Value → World → Prop) : vc PP A_cmp_Compare_int ((Try.f82.body).getD .skip) (retF PP Try.f82.results.toList R) (nthV [v0, v1]) w = F_cmp_Compare_int PP v0 v1 w R := by kernel_rfl
theorem c_cmp_Compare_int {v0 v1 : Value} {w : World} {R : Value → World → Prop} (h : F_cmp_Compare_int PP v0 v1 w R) : vcall PP n_cmp_Compare_int #[v0, v1] w R :=
  call_of_vc (T := A_cmp_Compare_int) (c := (Try.f82.body).getD .skip) (n := 20) mixed Try.func82 rfl rfl (by kernel_rfl) (by kernel_rfl) rfl (by rw [k_cmp_Compare_int]; exact h)

/-- (*impl.search).learn$2 -/
def F_impl_search_learn_2 (P : Program) (v0 v1 : Value) (w : World) (R : Value → World → Prop) : Prop :=
  vcall P n_impl_literal_variable #[v0] w fun t6 w_1 =>
  vcall P n_impl_literal_variable #[v1] w_1 fun t8 w_2 =>
  vcall P n_cmp_Compare_int #[t6, t8] w_2 fun t9 w_3 =>
  R t9 w_3
def A_impl_search_learn_2 : Ann := { ord := [], loops := [], cuts := [] }
theorem k_impl_search_learn_2 (v0 v1 : Value) (w : World) (R : Value → World → Prop) : vc PP A_impl_search_learn_2 ((Try.f84.body).getD .skip) (retF PP Try.f84.results.toList R) (nthV [v0, v1]) w = F_impl_search_learn_2 PP v0 v1 w R := by kernel_rfl
theorem c_impl_search_learn_2 {v0 v1 : Value} {w : World} {R : Value → World → Prop} (h : F_impl_search_learn_2 PP v0 v1 w R) : vcall PP n_impl_search_learn_2 #[v0, v1] w R :=
  call_of_vc (T := A_impl_search_learn_2) (c := (Try.f84.body).getD .skip) (n := 10) mixed Try.func84 rfl rfl (by kernel_rfl) (by kernel_rfl) rfl (by rw [k_impl_search_learn_2]; exact h)

/-- spec.l5Sign -/
def F_spec_l5Sign (P : Program) (v0 v1 : Value) (w : World) (R : Value → World → Prop) : Prop :=
  vbin P .gtr T_int true v1 (.int .i64 0) w fun t6 w_1 =>
  vif t6 (
    viaddr P T_Lint v0 v1 w_1 fun t9 w_2 =>
    vload P T_int t9 w_2 fun t10 w_3 =>
    R t10 w_3) (
    vun P .neg v1 w_1 fun t13 w_4 =>
    viaddr P T_Lint v0 t13 w_4 fun t14 w_5 =>
    vload P T_int t14 w_5 fun t15 w_6 =>
    vun P .neg t15 w_6 fun t16 w_7 =>
    R t16 w_7)
def A_spec_l5Sign : Ann := { ord := [], loops := [], cuts := [] }
theorem k_spec_l5Sign (v0 v1 : Value) (w : World) (R : Value → World → Prop) : vc PP A_spec_l5Sign ((Try.f85.body).getD .skip) (retF PP Try.f85.results.toList R) (nthV [v0, v1]) w = F_spec_l5Sign PP v0 v1 w R := by kernel_rfl
theorem c_spec_l5Sign {v0 v1 : Value} {w : World} {R : Value → World → Prop} (h : F_spec_l5Sign PP v0 v1 w R) : vcall PP n_spec_l5Sign #[v0, v1] w R :=
  call_of_vc (T := A_spec_l5Sign) (c := (Try.f85.body).getD .skip) (n := 17) mixed Try.func85 rfl rfl (by kernel_rfl) (by kernel_rfl) rfl (by rw [k_spec_l5Sign]; exact h)

/-- spec.l5Last -/
def F_spec_l5Last (P : Program) (v0 v1 : Value) (w : World) (R : Value → World → Prop) : Prop :=
  vbox P T_impl_Sat v0 w fun t2 w_1 =>
  vfaddr P T_impl_Sat t2 0 w_1 fun t6 w_2 =>
  vload P T_Lint t6 w_2 fun t7 w_3 =>
  vbi P .len [T_Lint] T_int [t7] w_3 fun t8 w_4 =>
  vbin P .sub T_int true t8 (.int .i64 1) w_4 fun t9 w_5 =>
  vloop [t9] w_5 fun C u _ w_6 =>
    vbin P .geq T_int true (sl 0 u) (.int .i64 0) w_6 fun t11 w_7 =>
    vif t11 (
      vfaddr P T_impl_Sat t2 0 w_7 fun t15 w_8 =>
      vload P T_Lint t15 w_8 fun t16 w_9 =>
      viaddr P T_Lint t16 (sl 0 u) w_9 fun t18 w_10 =>
      vload P T_int t18 w_10 fun t19 w_11 =>
      vcall P n_spec_l4Abs #[t19] w_11 fun t20 w_12 =>
      vcall P n_spec_l5Has #[v1, t20] w_12 fun t21 w_13 =>
      vif t21 (
        R (sl 0 u) w_13) (
        vbin P .sub T_int true (sl 0 u) (.int .i64 1) w_13 fun t13 w_14 =>
        C [t13] w_14)) (
      R (.int .i64 (-1)) w_7)
def A_spec_l5Last : Ann := { ord := [], loops := [(2, [5])], cuts := [] }
theorem k_spec_l5Last (v0 v1 : Value) (w : World) (R : Value → World → Prop) : vc PP A_spec_l5Last ((Try.f86.body).getD .skip) (retF PP Try.f86.results.toList R) (nthV [v0, v1]) w = F_spec_l5Last PP v0 v1 w R := by kernel_rfl
theorem c_spec_l5Last {v0 v1 : Value} {w : World} {R : Value → World → Prop} (h : F_spec_l5Last PP v0 v1 w R) : vcall PP n_spec_l5Last #[v0, v1] w R :=
  call_of_vc (T := A_spec_l5Last) (c := (Try.f86.body).getD .skip) (n := 23) mixed Try.func86 rfl rfl (by kernel_rfl) (by kernel_rfl) rfl (by rw [k_spec_l5Last]; exact h)

/-- spec.l5Join -/
def F_spec_l5Join (P : Program) (v0 v1 v2 v3 : Value) (w : World) (R : Value → World → Prop) : Prop :=
  vbuildS P T_Lint 0 [] w fun t14 w_1 =>
  vbin P .add T_int true v0 (.int .i64 1) w_1 fun t16 w_2 =>
  vmkS P T_Lint t16 t16 w_2 fun t17 w_3 =>
  vloop [(.int .i64 0)] w_3 fun C u _ w_4 =>
    vbi P .len [T_Lint] T_int [v1] w_4 fun t20 w_5 =>
    vbin P .lss T_int false (sl 0 u) t20 w_5 fun t21 w_6 =>
    vif t21 (
      vdraw w_6 fun w_7 =>
      viaddr P T_Lint v1 (sl 0 u) w_7 fun t27 w_8 => w_8 = w_7 ∧
      vload P T_int t27 w_7 fun t28 w_9 => w_9 = w_7 ∧
      viaddr P T_Lint v1 (sl 0 u) w_7 fun t32 w_10 => w_10 = w_7 ∧
      vload P T_int t32 w_7 fun t33 w_11 => w_11 = w_7 ∧
      vcall P n_spec_l4Abs #[t28] w_7 fun t29 w_12 => (vload P T_int t32 w_12 fun v x => v = t33 ∧ x = w_12) ∧ (viaddr P T_Lint v1 (sl 0 u) w_12 fun v x => v = t32 ∧ x = w_12) ∧
      viaddr P T_Lint t17 t29 w_12 fun t34 w_13 => w_13 = w_12 ∧
      vstore P T_int t34 t33 w_12 fun _ w_14 =>
      vbin P .add T_int true (sl 0 u) (.int .i64 1) w_14 fun t23 w_15 =>
      C [t23] w_15) (
      vloop [(.int .i64 0)] w_6 fun C_1 u_1 _ w_16 =>
        vbi P .len [T_Lint] T_int [v2] w_16 fun t37 w_17 =>
        vbin P .lss T_int false (sl 0 u_1) t37 w_17 fun t38 w_18 =>
        vif t38 (
          vdraw w_18 fun w_19 =>
          viaddr P T_Lint v2 (sl 0 u_1) w_19 fun t44 w_20 => w_20 = w_19 ∧
          vload P T_int t44 w_19 fun t45 w_21 => w_21 = w_19 ∧
          viaddr P T_Lint v2 (sl 0 u_1) w_19 fun t49 w_22 => w_22 = w_19 ∧
          vload P T_int t49 w_19 fun t50 w_23 => w_23 = w_19 ∧
          vcall P n_spec_l4Abs #[t45] w_19 fun t46 w_24 => (vload P T_int t49 w_24 fun v x => v = t50 ∧ x = w_24) ∧ (viaddr P T_Lint v2 (sl 0 u_1) w_24 fun v x => v = t49 ∧ x = w_24) ∧
          viaddr P T_Lint t17 t46 w_24 fun t51 w_25 => w_25 = w_24 ∧
          vstore P T_int t51 t50 w_24 fun _ w_26 =>
          vbin P .add T_int true (sl 0 u_1) (.int .i64 1) w_26 fun t40 w_27 =>
          C_1 [t40] w_27) (
          vloop [t14, (.int .i64 1)] w_18 fun C_2 u_2 _ w_28 =>
            vbin P .leq T_int false (sl 1 u_2) v0 w_28 fun t54 w_29 =>
            vif t54 (
              vbin P .neq T_int false (sl 1 u_2) v3 w_29 fun t59 w_30 =>
              vif t59 (
                viaddr P T_Lint t17 (sl 1 u_2) w_30 fun t63 w_31 =>
                vload P T_int t63 w_31 fun t64 w_32 =>
                vbin P .neq T_int true t64 (.int .i64 0) w_32 fun t65 w_33 =>
                vif t65 (
                  viaddr P T_Lint t17 (sl 1 u_2) w_33 fun t70 w_34 =>
                  vload P T_int t70 w_34 fun t71 w_35 =>
                  vbuildS P T_Lint 1 [(0, t71)] w_35 fun t72 w_36 =>
                  vbi P .append [T_Lint, T_Lint] T_Lint [(sl 0 u_2), t72] w_36 fun t73 w_37 =>
                  vbin P .add T_int true (sl 1 u_2) (.int .i64 1) w_37 fun t56 w_38 =>
                  C_2 [t73, t56] w_38) (
                  vbin P .add T_int true (sl 1 u_2) (.int .i64 1) w_33 fun t56_1 w_39 =>
                  C_2 [(sl 0 u_2), t56_1] w_39)) (
                vbin P .add T_int true (sl 1 u_2) (.int .i64 1) w_30 fun t56_2 w_40 =>
                C_2 [(sl 0 u_2), t56_2] w_40)) (
              R (sl 0 u_2) w_29)))
def A_spec_l5Join : Ann := { ord := [(6, [0, 1, 2, 3, 4, 6, 7, 8, 9, 5, 10, 11], [(0, [10, 11]), (1, [3, 4, 5, 10, 11]), (2, [3, 4, 5, 10, 11]), (3, [4, 5, 10, 11]), (4, [5, 10, 11]), (6, [8, 9, 10, 11]), (7, [8, 9, 10, 11]), (8, [9, 10, 11]), (9, [10, 11]), (5, [10, 11]), (10, [11])]), (10, [0, 1, 2, 3, 4, 6, 7, 8, 9, 5, 10, 11], [(0, [10, 11]), (1, [3, 4, 5, 10, 11]), (2, [3, 4, 5, 10, 11]), (3, [4, 5, 10, 11]), (4, [5, 10, 11]), (6, [8, 9, 10, 11]), (7, [8, 9, 10, 11]), (8, [9, 10, 11]), (9, [10, 11]), (5, [10, 11]), (10, [11])])], loops := [(4, [11]), (8, [12]), (12, [9, 13])], cuts := [] }
theorem k_spec_l5Join (v0 v1 v2 v3 : Value) (w : World) (R : Value → World → Prop) : vc PP A_spec_l5Join ((Try.f87.body).getD .skip) (retF PP Try.f87.results.toList R) (nthV [v0, v1, v2, v3]) w = F_spec_l5Join PP v0 v1 v2 v3 w R := by kernel_rfl
theorem c_spec_l5Join {v0 v1 v2 v3 : Value} {w : World} {R : Value → World → Prop} (h : F_spec_l5Join PP v0 v1 v2 v3 w R) : vcall PP n_spec_l5Join #[v0, v1, v2, v3] w R :=
  call_of_vc (T := A_spec_l5Join) (c := (Try.f87.body).getD .skip) (n := 75) mixed Try.func87 rfl rfl (by kernel_rfl) (by kernel_rfl) rfl (by rw [k_spec_l5Join]; exact h)

/-- spec.l4Max -/
def F_spec_l4Max (P : Program) (v0 v1 : Value) (w : World) (R : Value → World → Prop) : Prop :=
  vbin P .gtr T_int false v0 v1 w fun t7 w_1 =>
  vif t7 (
    R v0 w_1) (
    R v1 w_1)
def A_spec_l4Max : Ann := { ord := [], loops := [], cuts := [] }
theorem k_spec_l4Max (v0 v1 : Value) (w : World) (R : Value → World → Prop) : vc PP A_spec_l4Max ((Try.f88.body).getD .skip) (retF PP Try.f88.results.toList R) (nthV [v0, v1]) w = F_spec_l4Max PP v0 v1 w R := by kernel_rfl
theorem c_spec_l4Max {v0 v1 : Value} {w : World} {R : Value → World → Prop} (h : F_spec_l4Max PP v0 v1 w R) : vcall PP n_spec_l4Max #[v0, v1] w R :=
  call_of_vc (T := A_spec_l4Max) (c := (Try.f88.body).getD .skip) (n := 10) mixed Try.func88 rfl rfl (by kernel_rfl) (by kernel_rfl) rfl (by rw [k_spec_l4Max]; exact h)

/-- cmp.isNaN[int] -/
def F_cmp_isNaN_int (P : Program) (v0 : Value) (w : World) (R : Value → World → Prop) : Prop :=
  vbin P .neq T_int false v0 v0 w fun t5 w_1 =>
  R t5 w_1
def A_cmp_isNaN_int : Ann := { ord := [], loops := [], cuts := [] }
theorem k_cmp_isNaN_int (v0 : Value) (w : World) (R : Value → World → Prop) : vc PP A_cmp_isNaN_int ((Try.f89.body).getD .skip) (retF PP Try.f89.results.toList R) (nthV [v0]) w = F_cmp_isNaN_int PP v0 w R := by kernel_rfl
theorem c_cmp_isNaN_int {v0 : Value} {w : World} {R : Value → World → Prop} (h : F_cmp_isNaN_int PP v0 w R) : vcall PP n_cmp_isNaN_int #[v0] w R :=
  call_of_vc (T := A_cmp_isNaN_int) (c := (Try.f89.body).getD .skip) (n := 6) mixed Try.func89 rfl rfl (by kernel_rfl) (by kernel_rfl) rfl (by rw [k_cmp_isNaN_int]; exact h)

/-- spec.l5Has -/
def F_spec_l5Has (P : Program) (v0 v1 : Value) (w : World) (R : Value → World → Prop) : Prop :=
  vloop [(.int .i64 0)] w fun C u _ w_1 =>
    vbi P .len [T_Lint] T_int [v0] w_1 fun t8 w_2 =>
    vbin P .lss T_int false (sl 0 u) t8 w_2 fun t9 w_3 =>
    vif t9 (
      viaddr P T_Lint v0 (sl 0 u) w_3 fun t14 w_4 =>
      vload P T_int t14 w_4 fun t15 w_5 =>
      vcall P n_spec_l4Abs #[t15] w_5 fun t16 w_6 =>
      vbin P .eql T_int false t16 v1 w_6 fun t18 w_7 =>
      vif t18 (
        R (.bool true) w_7) (
        vbin P .add T_int true (sl 0 u) (.int .i64 1) w_7 fun t11 w_8 =>
        C [t11] w_8)) (
      R (.bool false) w_3)
def A_spec_l5Has : Ann := { ord := [], loops := [(2, [5])], cuts := [] }
theorem k_spec_l5Has (v0 v1 : Value) (w : World) (R : Value → World → Prop) : vc PP A_spec_l5Has ((Try.f92.body).getD .skip) (retF PP Try.f92.results.toList R) (nthV [v0, v1]) w = F_spec_l5Has PP v0 v1 w R := by kernel_rfl
theorem c_spec_l5Has {v0 v1 : Value} {w : World} {R : Value → World → Prop} (h : F_spec_l5Has PP v0 v1 w R) : vcall PP n_spec_l5Has #[v0, v1] w R :=
  call_of_vc (T := A_spec_l5Has) (c := (Try.f92.body).getD .skip) (n := 19) mixed Try.func92 rfl rfl (by kernel_rfl) (by kernel_rfl) rfl (by rw [k_spec_l5Has]; exact h)

end Go.Proofs.Ytpihgpfebhegmaa
