import Derived.Test.YtcfgmgjofmbfhaaGreatDoorWskP3
/- A part of the proof: F3. -/
set_option linter.unusedVariables false
set_option linter.unusedSimpArgs false
set_option linter.unnecessarySimpa false
set_option linter.unusedSectionVars false
section
namespace Go.Proofs.YtcfgmgjofmbfhaaGreatDoor
open Go Go.Vc Go.Proofs
def F_spec_l3All (P : Program) (v0 : Value) (w : World) (R : Value → World → Prop) : Prop :=
 vbox P T_impl_Term v0 w fun t1 w_1 =>
 vloop [(.int .i64 0)] w_1 fun C u _ w_2 =>
 vfaddr P T_impl_Term t1 4 w_2 fun t7 w_3 =>
 vload P T_Limpl_Term t7 w_3 fun t8 w_4 =>
 vbi P .len [T_Limpl_Term] T_int [t8] w_4 fun t9 w_5 =>
 vbin P .lss T_int false (sl 0 u) t9 w_5 fun t10 w_6 =>
 vif t10 (
 vfaddr P T_impl_Term t1 4 w_6 fun t14 w_7 =>
 vload P T_Limpl_Term t14 w_7 fun t15 w_8 =>
 viaddr P T_Limpl_Term t15 (sl 0 u) w_8 fun t17 w_9 =>
 vload P T_impl_Term t17 w_9 fun t18 w_10 =>
 vcall P n_spec_TermFixed #[t18] w_10 fun t19 w_11 =>
 vextract P t19 0 w_11 fun _ w_12 =>
 vextract P t19 1 w_12 fun t21 w_13 =>
 vun P .not t21 w_13 fun t23 w_14 =>
 vif t23 (
 R (.bool false) w_14) (
 vbin P .add T_int true (sl 0 u) (.int .i64 1) w_14 fun t12 w_15 =>
 C [t12] w_15)) (
 vfaddr P T_impl_Term t1 4 w_6 fun t24 w_16 =>
 vload P T_Limpl_Term t24 w_16 fun t25 w_17 =>
 vbi P .len [T_Limpl_Term] T_int [t25] w_17 fun t26 w_18 =>
 vbin P .gtr T_int true t26 (.int .i64 0) w_18 fun t27 w_19 =>
 R t27 w_19)
def A_spec_l3All : Ann := { ord := [], loops := [(2, [3])], cuts := [] }
theorem k_spec_l3All (v0 : Value) (w : World) (R : Value → World → Prop) : vc PP A_spec_l3All ((Tryz.f96.body).getD .skip) (retF PP Tryz.f96.results.toList R) (nthV [v0]) w = F_spec_l3All PP v0 w R := by kernel_rfl
theorem c_spec_l3All {v0 : Value} {w : World} {R : Value → World → Prop} (h : F_spec_l3All PP v0 w R) : vcall PP n_spec_l3All #[v0] w R :=
  call_of_vc (T := A_spec_l3All) (c := (Tryz.f96.body).getD .skip) (n := 28) mixed Tryz.func96 rfl rfl (by kernel_rfl) (by kernel_rfl) rfl (by rw [k_spec_l3All]; exact h)
def F_spec_l2Eval (P : Program) (v0 v1 v2 : Value) (w : World) (R : Value → World → Prop) : Prop :=
 vbox P T_impl_Term v1 w fun t4 w_1 =>
 vfaddr P T_impl_Term t4 0 w_1 fun t7 w_2 =>
 vload P T_int t7 w_2 fun t8 w_3 =>
 vbin P .eql T_int true t8 (.int .i64 20) w_3 fun t10 w_4 =>
 vif t10 (
 vfaddr P T_impl_Term t4 2 w_4 fun t11 w_5 =>
 vload P T_int t11 w_5 fun t12 w_6 =>
 R t12 w_6) (
 vbin P .eql T_int true t8 (.int .i64 21) w_4 fun t14 w_7 =>
 vif t14 (
 vfaddr P T_impl_Term t4 3 w_7 fun t17 w_8 =>
 vload P T_string t17 w_8 fun t18 w_9 =>
 vcall P n_spec_l2Find #[v0, t18] w_9 fun t19 w_10 =>
 viaddr P T_Lint v2 t19 w_10 fun t20 w_11 =>
 vload P T_int t20 w_11 fun t21 w_12 =>
 R t21 w_12) (
 vbin P .eql T_int true t8 (.int .i64 24) w_7 fun t23 w_13 =>
 vif t23 (
 R (.int .i64 1) w_13) (
 vbin P .eql T_int true t8 (.int .i64 25) w_13 fun t25 w_14 =>
 vif t25 (
 vfaddr P T_impl_Term t4 4 w_14 fun t27 w_15 =>
 vload P T_Limpl_Term t27 w_15 fun t28 w_16 =>
 viaddr P T_Limpl_Term t28 (.int .i64 0) w_16 fun t29 w_17 =>
 vload P T_impl_Term t29 w_17 fun t30 w_18 =>
 vcall P n_spec_l2Eval #[v0, t30, v2] w_18 fun t32 w_19 =>
 vbin P .sub T_int true (.int .i64 1) t32 w_19 fun t33 w_20 =>
 R t33 w_20) (
 vbin P .eql T_int true t8 (.int .i64 26) w_14 fun t35 w_21 =>
 vif t35 (
 vdraw w_21 fun w_22 =>
 vfaddr P T_impl_Term t4 4 w_22 fun t37 w_23 => w_23 = w_22 ∧
 vload P T_Limpl_Term t37 w_22 fun t38 w_24 => w_24 = w_22 ∧
 viaddr P T_Limpl_Term t38 (.int .i64 0) w_22 fun t39 w_25 => w_25 = w_22 ∧
 vload P T_impl_Term t39 w_22 fun t40 w_26 => w_26 = w_22 ∧
 vfaddr P T_impl_Term t4 4 w_22 fun t44 w_27 => w_27 = w_22 ∧
 vload P T_Limpl_Term t44 w_22 fun t45 w_28 => w_28 = w_22 ∧
 viaddr P T_Limpl_Term t45 (.int .i64 1) w_22 fun t46 w_29 => w_29 = w_22 ∧
 vload P T_impl_Term t46 w_22 fun t47 w_30 => w_30 = w_22 ∧
 vcall P n_spec_l2Eval #[v0, t40, v2] w_22 fun t42 w_31 => (vload P T_impl_Term t46 w_31 fun v x => v = t47 ∧ x = w_31) ∧ (viaddr P T_Limpl_Term t45 (.int .i64 1) w_31 fun v x => v = t46 ∧ x = w_31) ∧ (vload P T_Limpl_Term t44 w_31 fun v x => v = t45 ∧ x = w_31) ∧ (vfaddr P T_impl_Term t4 4 w_31 fun v x => v = t44 ∧ x = w_31) ∧
 vcall P n_spec_l2Eval #[v0, t47, v2] w_31 fun t49 w_32 =>
 vbin P .mul T_int false t42 t49 w_32 fun t50 w_33 => w_33 = w_32 ∧
 R t50 w_32) (
 vbin P .eql T_int true t8 (.int .i64 27) w_21 fun t52 w_34 =>
 vif t52 (
 vdraw w_34 fun w_35 =>
 vfaddr P T_impl_Term t4 4 w_35 fun t54 w_36 => w_36 = w_35 ∧
 vload P T_Limpl_Term t54 w_35 fun t55 w_37 => w_37 = w_35 ∧
 viaddr P T_Limpl_Term t55 (.int .i64 0) w_35 fun t56 w_38 => w_38 = w_35 ∧
 vload P T_impl_Term t56 w_35 fun t57 w_39 => w_39 = w_35 ∧
 vfaddr P T_impl_Term t4 4 w_35 fun t61 w_40 => w_40 = w_35 ∧
 vload P T_Limpl_Term t61 w_35 fun t62 w_41 => w_41 = w_35 ∧
 viaddr P T_Limpl_Term t62 (.int .i64 1) w_35 fun t63 w_42 => w_42 = w_35 ∧
 vload P T_impl_Term t63 w_35 fun t64 w_43 => w_43 = w_35 ∧
 vcall P n_spec_l2Eval #[v0, t57, v2] w_35 fun t59 w_44 => (vload P T_impl_Term t63 w_44 fun v x => v = t64 ∧ x = w_44) ∧ (viaddr P T_Limpl_Term t62 (.int .i64 1) w_44 fun v x => v = t63 ∧ x = w_44) ∧ (vload P T_Limpl_Term t61 w_44 fun v x => v = t62 ∧ x = w_44) ∧ (vfaddr P T_impl_Term t4 4 w_44 fun v x => v = t61 ∧ x = w_44) ∧
 vcall P n_spec_l2Eval #[v0, t64, v2] w_44 fun t66 w_45 =>
 vcall P n_spec_l1Max #[t59, t66] w_45 fun t67 w_46 =>
 R t67 w_46) (
 vbin P .eql T_int true t8 (.int .i64 23) w_34 fun t69 w_47 =>
 vif t69 (
 vfaddr P T_impl_Term t4 4 w_47 fun t71 w_48 =>
 vload P T_Limpl_Term t71 w_48 fun t72 w_49 =>
 viaddr P T_Limpl_Term t72 (.int .i64 0) w_49 fun t73 w_50 =>
 vload P T_impl_Term t73 w_50 fun t74 w_51 =>
 vcall P n_spec_l2Eval #[v0, t74, v2] w_51 fun t76 w_52 =>
 vbin P .eql T_int true t76 (.int .i64 1) w_52 fun t77 w_53 =>
 vif t77 (
 vfaddr P T_impl_Term t4 4 w_53 fun t79 w_54 =>
 vload P T_Limpl_Term t79 w_54 fun t80 w_55 =>
 viaddr P T_Limpl_Term t80 (.int .i64 1) w_55 fun t81 w_56 =>
 vload P T_impl_Term t81 w_56 fun t82 w_57 =>
 vcall P n_spec_l2Eval #[v0, t82, v2] w_57 fun t84 w_58 =>
 R t84 w_58) (
 vfaddr P T_impl_Term t4 4 w_53 fun t86 w_59 =>
 vload P T_Limpl_Term t86 w_59 fun t87 w_60 =>
 viaddr P T_Limpl_Term t87 (.int .i64 2) w_60 fun t88 w_61 =>
 vload P T_impl_Term t88 w_61 fun t89 w_62 =>
 vcall P n_spec_l2Eval #[v0, t89, v2] w_62 fun t91 w_63 =>
 R t91 w_63)) (
 vload P T_impl_Term t4 w_47 fun t93 w_64 =>
 vcall P n_spec_l2Do #[v0, t93, v2] w_64 fun t95 w_65 =>
 R t95 w_65)))))))
def A_spec_l2Eval : Ann := { ord := [(11, [0, 1, 2, 3, 4, 5, 7, 8, 9, 10, 11, 12, 6, 13, 14, 15], [(0, [6, 13, 14, 15]), (1, [2, 3, 4, 6, 13, 14, 15]), (2, [3, 4, 6, 13, 14, 15]), (3, [4, 6, 13, 14, 15]), (4, [6, 13, 14, 15]), (5, [6, 13, 14, 15]), (7, [13, 14, 15]), (8, [9, 10, 11, 13, 14, 15]), (9, [10, 11, 13, 14, 15]), (10, [11, 13, 14, 15]), (11, [13, 14, 15]), (12, [13, 14, 15]), (6, [13, 14, 15]), (13, [14, 15]), (14, [15])]), (13, [0, 1, 2, 3, 4, 5, 7, 8, 9, 10, 11, 12, 6, 13, 14, 15], [(0, [6, 13, 14, 15]), (1, [2, 3, 4, 6, 13, 14, 15]), (2, [3, 4, 6, 13, 14, 15]), (3, [4, 6, 13, 14, 15]), (4, [6, 13, 14, 15]), (5, [6, 13, 14, 15]), (7, [13, 14, 15]), (8, [9, 10, 11, 13, 14, 15]), (9, [10, 11, 13, 14, 15]), (10, [11, 13, 14, 15]), (11, [13, 14, 15]), (12, [13, 14, 15]), (6, [13, 14, 15]), (13, [14, 15]), (14, [15])])], loops := [], cuts := [] }
theorem k_spec_l2Eval (v0 v1 v2 : Value) (w : World) (R : Value → World → Prop) : vc PP A_spec_l2Eval ((Tryz.f97.body).getD .skip) (retF PP Tryz.f97.results.toList R) (nthV [v0, v1, v2]) w = F_spec_l2Eval PP v0 v1 v2 w R := by kernel_rfl
theorem c_spec_l2Eval {v0 v1 v2 : Value} {w : World} {R : Value → World → Prop} (h : F_spec_l2Eval PP v0 v1 v2 w R) : vcall PP n_spec_l2Eval #[v0, v1, v2] w R :=
  call_of_vc (T := A_spec_l2Eval) (c := (Tryz.f97.body).getD .skip) (n := 96) mixed Tryz.func97 rfl rfl (by kernel_rfl) (by kernel_rfl) rfl (by rw [k_spec_l2Eval]; exact h)
def F_spec_l3Logic (P : Program) (v0 : Value) (w : World) (R : Value → World → Prop) : Prop :=
 vbox P T_impl_Term v0 w fun t1 w_1 =>
 valloc P T_impl_Term w_1 fun t2 w_2 =>
 vfaddr P T_impl_Term t1 4 w_2 fun t6 w_3 =>
 vload P T_Limpl_Term t6 w_3 fun t7 w_4 =>
 viaddr P T_Limpl_Term t7 (.int .i64 0) w_4 fun t8 w_5 =>
 vload P T_impl_Term t8 w_5 fun t9 w_6 =>
 valloc P T_impl_Term w_6 fun t3 w_7 =>
 vstore P T_impl_Term t3 t9 w_7 fun _ w_8 =>
 vfaddr P T_impl_Term t1 0 w_8 fun t10 w_9 =>
 vload P T_int t10 w_9 fun t11 w_10 =>
 vbin P .eql T_int true t11 (.int .i64 25) w_10 fun t13 w_11 =>
 vif t13 (
 vfaddr P T_impl_Term t3 0 w_11 fun t14 w_12 =>
 vload P T_int t14 w_12 fun t15 w_13 =>
 vbin P .eql T_int true t15 (.int .i64 25) w_13 fun t16 w_14 =>
 vif t16 (
 vfaddr P T_impl_Term t3 4 w_14 fun t17 w_15 =>
 vload P T_Limpl_Term t17 w_15 fun t18 w_16 =>
 viaddr P T_Limpl_Term t18 (.int .i64 0) w_16 fun t19 w_17 =>
 vload P T_impl_Term t19 w_17 fun t20 w_18 =>
 vstore P T_impl_Term t2 t20 w_18 fun _ w_19 =>
 vlv P T_impl_Term t2 w_19 fun r2 w_20 =>
 R r2 w_20) (
 vload P T_impl_Term t1 w_14 fun t21 w_21 =>
 vstore P T_impl_Term t2 t21 w_21 fun _ w_22 =>
 vlv P T_impl_Term t2 w_22 fun r2_1 w_23 =>
 R r2_1 w_23)) (
 vbin P .eql T_int true t11 (.int .i64 23) w_11 fun t23 w_24 =>
 vif t23 (
 vjoin (fun J =>
 vdraw w_24 fun w_26 =>
 vload P T_impl_Term t3 w_26 fun t24 w_27 => w_27 = w_26 ∧
 vcall P n_spec_l3Is #[t24, (.int .i64 1)] w_26 fun t25 w_28 =>
 vif t25 (
 vfaddr P T_impl_Term t1 4 w_28 fun t42 w_29 =>
 vload P T_Limpl_Term t42 w_29 fun t43 w_30 =>
 viaddr P T_Limpl_Term t43 (.int .i64 1) w_30 fun t44 w_31 =>
 vload P T_impl_Term t44 w_31 fun t45 w_32 =>
 vstore P T_impl_Term t2 t45 w_32 fun _ w_33 =>
 vlv P T_impl_Term t2 w_33 fun r2_2 w_34 =>
 R r2_2 w_34) (
 vfaddr P T_impl_Term t1 4 w_28 fun t27 w_35 => w_35 = w_28 ∧
 vload P T_Limpl_Term t27 w_28 fun t28 w_36 => w_36 = w_28 ∧
 viaddr P T_Limpl_Term t28 (.int .i64 1) w_28 fun t29 w_37 => w_37 = w_28 ∧
 vload P T_impl_Term t29 w_28 fun t30 w_38 => w_38 = w_28 ∧
 vfaddr P T_impl_Term t1 4 w_28 fun t31 w_39 => w_39 = w_28 ∧
 vload P T_Limpl_Term t31 w_28 fun t32 w_40 => w_40 = w_28 ∧
 viaddr P T_Limpl_Term t32 (.int .i64 2) w_28 fun t33 w_41 => w_41 = w_28 ∧
 vload P T_impl_Term t33 w_28 fun t34 w_42 => w_42 = w_28 ∧
 vcall P n_spec_TermSame #[t30, t34] w_28 fun t35 w_43 =>
 vif t35 (
 vload P T_impl_Term t3 w_43 fun t37 w_44 => w_44 = w_43 ∧
 vcall P n_spec_l3Is #[t37, (.int .i64 0)] w_43 fun t38 w_45 =>
 vun P .not t38 w_45 fun t39 w_46 => w_46 = w_45 ∧
 vif t39 (
 vfaddr P T_impl_Term t1 4 w_45 fun t42_1 w_47 =>
 vload P T_Limpl_Term t42_1 w_47 fun t43_1 w_48 =>
 viaddr P T_Limpl_Term t43_1 (.int .i64 1) w_48 fun t44_1 w_49 =>
 vload P T_impl_Term t44_1 w_49 fun t45_1 w_50 =>
 vstore P T_impl_Term t2 t45_1 w_50 fun _ w_51 =>
 vlv P T_impl_Term t2 w_51 fun r2_3 w_52 =>
 R r2_3 w_52) (
 J [] w_45)) (
 J [] w_43))) (fun _ _ w_25 =>
 vload P T_impl_Term t3 w_25 fun t46 w_53 =>
 vcall P n_spec_l3Is #[t46, (.int .i64 0)] w_53 fun t47 w_54 =>
 vif t47 (
 vfaddr P T_impl_Term t1 4 w_54 fun t48 w_55 =>
 vload P T_Limpl_Term t48 w_55 fun t49 w_56 =>
 viaddr P T_Limpl_Term t49 (.int .i64 2) w_56 fun t50 w_57 =>
 vload P T_impl_Term t50 w_57 fun t51 w_58 =>
 vstore P T_impl_Term t2 t51 w_58 fun _ w_59 =>
 vlv P T_impl_Term t2 w_59 fun r2_4 w_60 =>
 R r2_4 w_60) (
 vload P T_impl_Term t1 w_54 fun t52 w_61 =>
 vstore P T_impl_Term t2 t52 w_61 fun _ w_62 =>
 vlv P T_impl_Term t2 w_62 fun r2_5 w_63 =>
 R r2_5 w_63))) (
 vfaddr P T_impl_Term t1 4 w_24 fun t53 w_64 =>
 vload P T_Limpl_Term t53 w_64 fun t54 w_65 =>
 viaddr P T_Limpl_Term t54 (.int .i64 1) w_65 fun t55 w_66 =>
 vload P T_impl_Term t55 w_66 fun t56 w_67 =>
 valloc P T_impl_Term w_67 fun t4 w_68 =>
 vstore P T_impl_Term t4 t56 w_68 fun _ w_69 =>
 vfaddr P T_impl_Term t1 0 w_69 fun t57 w_70 =>
 vload P T_int t57 w_70 fun t58 w_71 =>
 vbin P .eql T_int true t58 (.int .i64 26) w_71 fun t59 w_72 =>
 vcall P n_spec_l2Bool #[t59] w_72 fun t60 w_73 =>
 vjoin (fun J_1 =>
 vload P T_impl_Term t3 w_73 fun t62 w_75 =>
 vcall P n_spec_l3Is #[t62, t60] w_75 fun t64 w_76 =>
 vif t64 (
 J_1 [(.bool true)] w_76) (
 vload P T_impl_Term t3 w_76 fun t66 w_77 =>
 vload P T_impl_Term t4 w_77 fun t67 w_78 =>
 vcall P n_spec_TermSame #[t66, t67] w_78 fun t68 w_79 =>
 J_1 [t68] w_79)) (fun u_1 _ w_74 =>
 vif (sl 0 u_1) (
 vload P T_impl_Term t4 w_74 fun t70 w_80 =>
 vstore P T_impl_Term t2 t70 w_80 fun _ w_81 =>
 vlv P T_impl_Term t2 w_81 fun r2_6 w_82 =>
 R r2_6 w_82) (
 vload P T_impl_Term t4 w_74 fun t72 w_83 =>
 vcall P n_spec_l3Is #[t72, t60] w_83 fun t74 w_84 =>
 vif t74 (
 vload P T_impl_Term t3 w_84 fun t75 w_85 =>
 vstore P T_impl_Term t2 t75 w_85 fun _ w_86 =>
 vlv P T_impl_Term t2 w_86 fun r2_7 w_87 =>
 R r2_7 w_87) (
 vload P T_impl_Term t3 w_84 fun t77 w_88 =>
 vbin P .sub T_int true (.int .i64 1) t60 w_88 fun t79 w_89 =>
 vcall P n_spec_l3Is #[t77, t79] w_89 fun t80 w_90 =>
 vif t80 (
 vbin P .eql T_int true t60 (.int .i64 0) w_90 fun t88 w_91 =>
 vcall P n_spec_l3Bool #[t88] w_91 fun t89 w_92 =>
 vstore P T_impl_Term t2 t89 w_92 fun _ w_93 =>
 vlv P T_impl_Term t2 w_93 fun r2_8 w_94 =>
 R r2_8 w_94) (
 vload P T_impl_Term t4 w_90 fun t82 w_95 =>
 vbin P .sub T_int true (.int .i64 1) t60 w_95 fun t84 w_96 =>
 vcall P n_spec_l3Is #[t82, t84] w_96 fun t85 w_97 =>
 vif t85 (
 vbin P .eql T_int true t60 (.int .i64 0) w_97 fun t88_1 w_98 =>
 vcall P n_spec_l3Bool #[t88_1] w_98 fun t89_1 w_99 =>
 vstore P T_impl_Term t2 t89_1 w_99 fun _ w_100 =>
 vlv P T_impl_Term t2 w_100 fun r2_9 w_101 =>
 R r2_9 w_101) (
 vload P T_impl_Term t1 w_97 fun t90 w_102 =>
 vstore P T_impl_Term t2 t90 w_102 fun _ w_103 =>
 vlv P T_impl_Term t2 w_103 fun r2_10 w_104 =>
 R r2_10 w_104)))))))
def A_spec_l3Logic : Ann := { ord := [(8, [0, 1, 2, 3, 4, 5, 6, 7, 8, 9, 10, 11, 12, 13, 14, 15, 16, 17], [(0, [1, 2, 3, 4, 5, 6, 7, 8, 9, 10, 11, 12, 13, 14, 15, 16, 17]), (1, [2, 3, 4, 5, 6, 7, 8, 9, 10, 11, 12, 13, 14, 15, 16, 17]), (2, [3, 4, 5, 6, 7, 8, 9, 10, 11, 12, 13, 14, 15, 16, 17]), (3, [4, 5, 6, 11, 12, 13, 14, 15, 16, 17]), (4, [5, 6, 11, 12, 13, 14, 15, 16, 17]), (5, [6, 11, 12, 13, 14, 15, 16, 17]), (6, [11, 12, 13, 14, 15, 16, 17]), (7, [8, 9, 10, 11, 12, 13, 14, 15, 16, 17]), (8, [9, 10, 11, 12, 13, 14, 15, 16, 17]), (9, [10, 11, 12, 13, 14, 15, 16, 17]), (10, [11, 12, 13, 14, 15, 16, 17]), (11, [12, 13, 14, 15, 16, 17]), (12, [13, 14, 15, 16, 17]), (13, [14, 15, 16, 17]), (14, [15, 16, 17]), (15, [16, 17]), (16, [17])])], loops := [], cuts := [(36874, []), (65552, [61])] }
theorem k_spec_l3Logic (v0 : Value) (w : World) (R : Value → World → Prop) : vc PP A_spec_l3Logic ((Tryz.f98.body).getD .skip) (retF PP Tryz.f98.results.toList R) (nthV [v0]) w = F_spec_l3Logic PP v0 w R := by kernel_rfl
theorem c_spec_l3Logic {v0 : Value} {w : World} {R : Value → World → Prop} (h : F_spec_l3Logic PP v0 w R) : vcall PP n_spec_l3Logic #[v0] w R :=
  call_of_vc (T := A_spec_l3Logic) (c := (Tryz.f98.body).getD .skip) (n := 91) mixed Tryz.func98 rfl rfl (by kernel_rfl) (by kernel_rfl) rfl (by rw [k_spec_l3Logic]; exact h)
def F_spec_l3Two (P : Program) (v0 v1 : Value) (w : World) (R : Value → World → Prop) : Prop :=
 vbox P T_impl_Term v0 w fun t2 w_1 =>
 valloc P T_impl_Term w_1 fun t4 w_2 =>
 vjoin (fun J =>
 vdraw w_2 fun w_4 =>
 vfaddr P T_impl_Term t2 4 w_4 fun t8 w_5 => w_5 = w_4 ∧
 vload P T_Limpl_Term t8 w_4 fun t9 w_6 => w_6 = w_4 ∧
 viaddr P T_Limpl_Term t9 (.int .i64 0) w_4 fun t10 w_7 => w_7 = w_4 ∧
 vload P T_impl_Term t10 w_4 fun t11 w_8 => w_8 = w_4 ∧
 vfaddr P T_impl_Term t2 4 w_4 fun t12 w_9 => w_9 = w_4 ∧
 vload P T_Limpl_Term t12 w_4 fun t13 w_10 => w_10 = w_4 ∧
 viaddr P T_Limpl_Term t13 (.int .i64 1) w_4 fun t14 w_11 => w_11 = w_4 ∧
 vload P T_impl_Term t14 w_4 fun t15 w_12 => w_12 = w_4 ∧
 vcall P n_spec_TermSame #[t11, t15] w_4 fun t16 w_13 =>
 vif t16 (
 vload P T_impl_Term t2 w_13 fun t17 w_14 =>
 vcall P n_spec_l3Alike #[t17, v1] w_14 fun t19 w_15 =>
 valloc P T_impl_Term w_15 fun t5 w_16 =>
 vstore P T_impl_Term t5 t19 w_16 fun _ w_17 =>
 vload P T_impl_Term t5 w_17 fun t20 w_18 =>
 vload P T_impl_Term t2 w_18 fun t21 w_19 =>
 vcall P n_spec_TermSame #[t20, t21] w_19 fun t22 w_20 =>
 vun P .not t22 w_20 fun t23 w_21 =>
 vif t23 (
 vload P T_impl_Term t5 w_21 fun t24 w_22 =>
 vstore P T_impl_Term t4 t24 w_22 fun _ w_23 =>
 vlv P T_impl_Term t4 w_23 fun r4 w_24 =>
 R r4 w_24) (
 J [] w_21)) (
 J [] w_13)) (fun _ _ w_3 =>
 vload P T_impl_Term t2 w_3 fun t25 w_25 =>
 vcall P n_spec_l3Right #[t25] w_25 fun t26 w_26 =>
 valloc P T_impl_Term w_26 fun t6 w_27 =>
 vstore P T_impl_Term t6 t26 w_27 fun _ w_28 =>
 vload P T_impl_Term t6 w_28 fun t27 w_29 =>
 vload P T_impl_Term t2 w_29 fun t28 w_30 =>
 vcall P n_spec_TermSame #[t27, t28] w_30 fun t29 w_31 =>
 vun P .not t29 w_31 fun t30 w_32 =>
 vif t30 (
 vload P T_impl_Term t6 w_32 fun t31 w_33 =>
 vstore P T_impl_Term t4 t31 w_33 fun _ w_34 =>
 vlv P T_impl_Term t4 w_34 fun r4_1 w_35 =>
 R r4_1 w_35) (
 vjoin (fun J_1 =>
 vfaddr P T_impl_Term t2 0 w_32 fun t32 w_37 =>
 vload P T_int t32 w_37 fun t33 w_38 =>
 vjoin (fun J_2 =>
 vbin P .eql T_int true t33 (.int .i64 3) w_38 fun t35 w_40 =>
 vif t35 (
 J_2 [t35] w_40) (
 vbin P .eql T_int true t33 (.int .i64 4) w_40 fun t36 w_41 =>
 vif t36 (
 J_2 [t36] w_41) (
 vbin P .eql T_int true t33 (.int .i64 5) w_41 fun t37 w_42 =>
 vif t37 (
 J_2 [t37] w_42) (
 vbin P .eql T_int true t33 (.int .i64 6) w_42 fun t38 w_43 =>
 vif t38 (
 J_2 [t38] w_43) (
 vbin P .eql T_int true t33 (.int .i64 8) w_43 fun t39 w_44 =>
 J_2 [t39] w_44))))) (fun u_2 _ w_39 =>
 vif (sl 0 u_2) (
 vjoin (fun J_3 =>
 vdraw w_39 fun w_46 =>
 vfaddr P T_impl_Term t2 0 w_46 fun t40 w_47 => w_47 = w_46 ∧
 vload P T_int t40 w_46 fun t41 w_48 => w_48 = w_46 ∧
 vfaddr P T_impl_Term t2 4 w_46 fun t42 w_49 => w_49 = w_46 ∧
 vload P T_Limpl_Term t42 w_46 fun t43 w_50 => w_50 = w_46 ∧
 viaddr P T_Limpl_Term t43 (.int .i64 1) w_46 fun t44 w_51 => w_51 = w_46 ∧
 vload P T_impl_Term t44 w_46 fun t45 w_52 => w_52 = w_46 ∧
 vfaddr P T_impl_Term t2 4 w_46 fun t46 w_53 => w_53 = w_46 ∧
 vload P T_Limpl_Term t46 w_46 fun t47 w_54 => w_54 = w_46 ∧
 viaddr P T_Limpl_Term t47 (.int .i64 0) w_46 fun t48 w_55 => w_55 = w_46 ∧
 vload P T_impl_Term t48 w_46 fun t49 w_56 => w_56 = w_46 ∧
 (vbuildS P T_Limpl_Term 2 [(0, t45), (1, t49)] w_46 fun t50 w_57 => (vload P T_int t40 w_57 fun v x => v = t41 ∧ x = w_57) ∧ (vfaddr P T_impl_Term t2 0 w_57 fun v x => v = t40 ∧ x = w_57) ∧
 vbuild P T_impl_Term [(0, t41), (4, t50)] w_57 fun t51 w_58 => w_58 = w_57 ∧
 (vcall P n_spec_l3Right #[t51] w_57 fun t52 w_59 =>
 (valloc P T_impl_Term w_59 fun t7 w_60 =>
 (vstore P T_impl_Term t7 t52 w_60 fun _ w_61 =>
 J_3 [t7] w_61) ∧
 True) ∧
 True) ∧
 (valloc P T_impl_Term w_57 fun t7_1 w_62 => (vbuild P T_impl_Term [(0, t41), (4, t50)] w_62 fun v x => v = t51 ∧ x = w_62) ∧ (vload P T_int t40 w_62 fun v x => v = t41 ∧ x = w_62) ∧ (vfaddr P T_impl_Term t2 0 w_62 fun v x => v = t40 ∧ x = w_62) ∧
 (vcall P n_spec_l3Right #[t51] w_62 fun t52_1 w_63 =>
 (vstore P T_impl_Term t7_1 t52_1 w_63 fun _ w_64 =>
 J_3 [t7_1] w_64) ∧
 True) ∧
 True) ∧
 True) ∧
 (valloc P T_impl_Term w_46 fun t7_2 w_65 => (vload P T_impl_Term t48 w_65 fun v x => v = t49 ∧ x = w_65) ∧ (viaddr P T_Limpl_Term t47 (.int .i64 0) w_65 fun v x => v = t48 ∧ x = w_65) ∧ (vload P T_Limpl_Term t46 w_65 fun v x => v = t47 ∧ x = w_65) ∧ (vfaddr P T_impl_Term t2 4 w_65 fun v x => v = t46 ∧ x = w_65) ∧ (vload P T_impl_Term t44 w_65 fun v x => v = t45 ∧ x = w_65) ∧ (viaddr P T_Limpl_Term t43 (.int .i64 1) w_65 fun v x => v = t44 ∧ x = w_65) ∧ (vload P T_Limpl_Term t42 w_65 fun v x => v = t43 ∧ x = w_65) ∧ (vfaddr P T_impl_Term t2 4 w_65 fun v x => v = t42 ∧ x = w_65) ∧ (vload P T_int t40 w_65 fun v x => v = t41 ∧ x = w_65) ∧ (vfaddr P T_impl_Term t2 0 w_65 fun v x => v = t40 ∧ x = w_65) ∧
 (vbuildS P T_Limpl_Term 2 [(0, t45), (1, t49)] w_65 fun t50_1 w_66 => (vload P T_int t40 w_66 fun v x => v = t41 ∧ x = w_66) ∧ (vfaddr P T_impl_Term t2 0 w_66 fun v x => v = t40 ∧ x = w_66) ∧
 vbuild P T_impl_Term [(0, t41), (4, t50_1)] w_66 fun t51_1 w_67 => w_67 = w_66 ∧
 (vcall P n_spec_l3Right #[t51_1] w_66 fun t52_2 w_68 =>
 (vstore P T_impl_Term t7_2 t52_2 w_68 fun _ w_69 =>
 J_3 [t7_2] w_69) ∧
 True) ∧
 True) ∧
 True) ∧
 True) (fun u_3 _ w_45 =>
 vdraw w_45 fun w_70 =>
 vfaddr P T_impl_Term (sl 0 u_3) 4 w_70 fun t53 w_71 => w_71 = w_70 ∧
 vload P T_Limpl_Term t53 w_70 fun t54 w_72 => w_72 = w_70 ∧
 vbi P .len [T_Limpl_Term] T_int [t54] w_70 fun t55 w_73 => w_73 = w_70 ∧
 vbin P .neq T_int true t55 (.int .i64 2) w_70 fun t56 w_74 => w_74 = w_70 ∧
 vif t56 (
 vload P T_impl_Term (sl 0 u_3) w_70 fun t88 w_75 =>
 vstore P T_impl_Term t4 t88 w_75 fun _ w_76 =>
 vlv P T_impl_Term t4 w_76 fun r4_2 w_77 =>
 R r4_2 w_77) (
 vfaddr P T_impl_Term (sl 0 u_3) 4 w_70 fun t58 w_78 => w_78 = w_70 ∧
 vload P T_Limpl_Term t58 w_70 fun t59 w_79 => w_79 = w_70 ∧
 viaddr P T_Limpl_Term t59 (.int .i64 0) w_70 fun t60 w_80 => w_80 = w_70 ∧
 vload P T_impl_Term t60 w_70 fun t61 w_81 => w_81 = w_70 ∧
 vfaddr P T_impl_Term t2 4 w_70 fun t62 w_82 => w_82 = w_70 ∧
 vload P T_Limpl_Term t62 w_70 fun t63 w_83 => w_83 = w_70 ∧
 viaddr P T_Limpl_Term t63 (.int .i64 1) w_70 fun t64 w_84 => w_84 = w_70 ∧
 vload P T_impl_Term t64 w_70 fun t65 w_85 => w_85 = w_70 ∧
 vcall P n_spec_TermSame #[t61, t65] w_70 fun t66 w_86 =>
 vun P .not t66 w_86 fun t67 w_87 => w_87 = w_86 ∧
 vif t67 (
 vload P T_impl_Term (sl 0 u_3) w_86 fun t88_1 w_88 =>
 vstore P T_impl_Term t4 t88_1 w_88 fun _ w_89 =>
 vlv P T_impl_Term t4 w_89 fun r4_3 w_90 =>
 R r4_3 w_90) (
 vfaddr P T_impl_Term (sl 0 u_3) 4 w_86 fun t70 w_91 => w_91 = w_86 ∧
 vload P T_Limpl_Term t70 w_86 fun t71 w_92 => w_92 = w_86 ∧
 viaddr P T_Limpl_Term t71 (.int .i64 1) w_86 fun t72 w_93 => w_93 = w_86 ∧
 vload P T_impl_Term t72 w_86 fun t73 w_94 => w_94 = w_86 ∧
 vfaddr P T_impl_Term t2 4 w_86 fun t74 w_95 => w_95 = w_86 ∧
 vload P T_Limpl_Term t74 w_86 fun t75 w_96 => w_96 = w_86 ∧
 viaddr P T_Limpl_Term t75 (.int .i64 0) w_86 fun t76 w_97 => w_97 = w_86 ∧
 vload P T_impl_Term t76 w_86 fun t77 w_98 => w_98 = w_86 ∧
 vcall P n_spec_TermSame #[t73, t77] w_86 fun t78 w_99 =>
 vun P .not t78 w_99 fun t79 w_100 => w_100 = w_99 ∧
 vif t79 (
 vload P T_impl_Term (sl 0 u_3) w_99 fun t88_2 w_101 =>
 vstore P T_impl_Term t4 t88_2 w_101 fun _ w_102 =>
 vlv P T_impl_Term t4 w_102 fun r4_4 w_103 =>
 R r4_4 w_103) (
 vfaddr P T_impl_Term (sl 0 u_3) 0 w_99 fun t82 w_104 => w_104 = w_99 ∧
 vload P T_int t82 w_99 fun t83 w_105 => w_105 = w_99 ∧
 vfaddr P T_impl_Term t2 0 w_99 fun t84 w_106 => w_106 = w_99 ∧
 vload P T_int t84 w_99 fun t85 w_107 => w_107 = w_99 ∧
 vbin P .neq T_int false t83 t85 w_99 fun t86 w_108 => w_108 = w_99 ∧
 vif t86 (
 vload P T_impl_Term (sl 0 u_3) w_99 fun t88_3 w_109 =>
 vstore P T_impl_Term t4 t88_3 w_109 fun _ w_110 =>
 vlv P T_impl_Term t4 w_110 fun r4_5 w_111 =>
 R r4_5 w_111) (
 J_1 [] w_99)))))) (
 J_1 [] w_39))) (fun _ _ w_36 =>
 vload P T_impl_Term t2 w_36 fun t89 w_112 =>
 vstore P T_impl_Term t4 t89 w_112 fun _ w_113 =>
 vlv P T_impl_Term t4 w_113 fun r4_6 w_114 =>
 R r4_6 w_114)))
def A_spec_l3Two : Ann := { ord := [(1, [0, 1, 2, 3, 4, 5, 6, 7, 8], [(0, [1, 2, 3, 8]), (1, [2, 3, 8]), (2, [3, 8]), (3, [8]), (4, [5, 6, 7, 8]), (5, [6, 7, 8]), (6, [7, 8]), (7, [8])]), (15, [0, 1, 2, 3, 4, 5, 6, 7, 8, 9, 10, 11, 12, 13, 14, 15, 16, 17, 18, 19, 20, 21, 22, 23, 24, 25, 26, 27, 28, 29, 30, 31, 32, 33, 34], [(0, [1, 2, 3, 4, 5, 6, 7, 8, 9, 10, 11, 12, 13, 14, 15, 16, 17, 18, 19, 20, 21, 22, 23, 24, 25, 26, 27, 28, 29, 30, 31, 32, 33, 34]), (1, [2, 3, 4, 5, 6, 7, 8, 9, 10, 11, 12, 13, 14, 15, 16, 17, 18, 19, 20, 21, 22, 23, 24, 25, 26, 27, 28, 29, 30, 31, 32, 33, 34]), (2, [3, 4, 5, 6, 7, 8, 9, 10, 11, 12, 13, 14, 15, 16, 17, 18, 19, 20, 21, 22, 23, 24, 25, 26, 27, 28, 29, 30, 31, 32, 33, 34]), (3, [4, 5, 6, 7, 8, 9, 10, 11, 12, 13, 14, 15, 16, 17, 18, 19, 20, 21, 22, 23, 24, 25, 26, 27, 28, 29, 30, 31, 32, 33, 34]), (4, [5, 6, 7, 8, 9, 10, 11, 12, 13, 14, 15, 16, 17, 18, 19, 20, 21, 22, 23, 24, 25, 26, 27, 28, 29, 30, 31, 32, 33, 34]), (5, [6, 7, 8, 13, 14, 15, 16, 17, 18, 19, 20, 21, 22, 23, 24, 25, 26, 27, 28, 29, 30, 31, 32, 33, 34]), (6, [7, 8, 13, 14, 15, 16, 17, 18, 19, 20, 21, 22, 23, 24, 25, 26, 27, 28, 29, 30, 31, 32, 33, 34]), (7, [8, 13, 14, 15, 16, 17, 18, 19, 20, 21, 22, 23, 24, 25, 26, 27, 28, 29, 30, 31, 32, 33, 34]), (8, [13, 14, 15, 16, 17, 18, 19, 20, 21, 22, 23, 24, 25, 26, 27, 28, 29, 30, 31, 32, 33, 34]), (9, [10, 11, 12, 13, 14, 15, 16, 17, 18, 19, 20, 21, 22, 23, 24, 25, 26, 27, 28, 29, 30, 31, 32, 33, 34]), (10, [11, 12, 13, 14, 15, 16, 17, 18, 19, 20, 21, 22, 23, 24, 25, 26, 27, 28, 29, 30, 31, 32, 33, 34]), (11, [12, 13, 14, 15, 16, 17, 18, 19, 20, 21, 22, 23, 24, 25, 26, 27, 28, 29, 30, 31, 32, 33, 34]), (12, [13, 14, 15, 16, 17, 18, 19, 20, 21, 22, 23, 24, 25, 26, 27, 28, 29, 30, 31, 32, 33, 34]), (13, [14, 15, 16, 17, 18, 19, 20, 21, 22, 23, 24, 25, 26, 27, 28, 29, 30, 31, 32, 33, 34]), (14, [15, 16, 17, 18, 19, 20, 21, 22, 23, 24, 25, 26, 27, 28, 29, 30, 31, 32, 33, 34]), (15, [16, 17, 18, 19, 20, 21, 22, 23, 24, 25, 26, 27, 28, 29, 30, 31, 32, 33, 34]), (16, [17, 18, 19, 20, 21, 22, 23, 24, 25, 26, 27, 28, 29, 30, 31, 32, 33, 34]), (17, [18, 19, 20, 25, 26, 27, 28, 29, 30, 31, 32, 33, 34]), (18, [19, 20, 25, 26, 27, 28, 29, 30, 31, 32, 33, 34]), (19, [20, 25, 26, 27, 28, 29, 30, 31, 32, 33, 34]), (20, [25, 26, 27, 28, 29, 30, 31, 32, 33, 34]), (21, [22, 23, 24, 25, 26, 27, 28, 29, 30, 31, 32, 33, 34]), (22, [23, 24, 25, 26, 27, 28, 29, 30, 31, 32, 33, 34]), (23, [24, 25, 26, 27, 28, 29, 30, 31, 32, 33, 34]), (24, [25, 26, 27, 28, 29, 30, 31, 32, 33, 34]), (25, [26, 27, 28, 29, 30, 31, 32, 33, 34]), (26, [27, 28, 29, 30, 31, 32, 33, 34]), (27, [28, 29, 30, 31, 32, 33, 34]), (28, [29, 30, 31, 32, 33, 34]), (29, [30, 33, 34]), (30, [33, 34]), (31, [32, 33, 34]), (32, [33, 34]), (33, [34])])], loops := [], cuts := [(8197, []), (36881, []), (40974, [34]), (61455, [7])], trees := [(14, (.st 0 (.st 1 (.st 2 (.st 3 (.st 4 (.st 5 (.st 6 (.st 7 (.st 8 (.st 9 (.alt 10 (.st 11 (.alt 12 (.alt 13 (.alt 14 .nil .no) .no) (.alt 13 (.alt 12 (.alt 14 .nil .no) .no) .no))) (.alt 13 (.alt 10 (.st 11 (.alt 12 (.alt 14 .nil .no) .no)) .no) .no)))))))))))), [(0, [1, 11, 12, 14]), (1, [11, 12, 14]), (2, [3, 4, 5, 10, 11, 12, 14]), (3, [4, 5, 10, 11, 12, 14]), (4, [5, 10, 11, 12, 14]), (5, [10, 11, 12, 14]), (6, [7, 8, 9, 10, 11, 12, 14]), (7, [8, 9, 10, 11, 12, 14]), (8, [9, 10, 11, 12, 14]), (9, [10, 11, 12, 14]), (10, [11, 12, 14]), (11, [12, 14]), (12, [14]), (13, [14])])] }
theorem k_spec_l3Two (v0 v1 : Value) (w : World) (R : Value → World → Prop) : vc PP A_spec_l3Two ((Tryz.f99.body).getD .skip) (retF PP Tryz.f99.results.toList R) (nthV [v0, v1]) w = F_spec_l3Two PP v0 v1 w R := by kernel_rfl
theorem c_spec_l3Two {v0 v1 : Value} {w : World} {R : Value → World → Prop} (h : F_spec_l3Two PP v0 v1 w R) : vcall PP n_spec_l3Two #[v0, v1] w R :=
  call_of_vc (T := A_spec_l3Two) (c := (Tryz.f99.body).getD .skip) (n := 90) mixed Tryz.func99 rfl rfl (by kernel_rfl) (by kernel_rfl) rfl (by rw [k_spec_l3Two]; exact h)
def F_slices_IndexFunc_Limpl_Decl_impl_Decl (P : Program) (v0 v1 : Value) (w : World) (R : Value → World → Prop) : Prop :=
 vbi P .len [T_Limpl_Decl] T_int [v0] w fun t7 w_1 =>
 vloop [(.int .i64 0)] w_1 fun C u _ w_2 =>
 vbin P .lss T_int false (sl 0 u) t7 w_2 fun t9 w_3 =>
 vif t9 (
 viaddr P T_Limpl_Decl v0 (sl 0 u) w_3 fun t14 w_4 =>
 vload P T_impl_Decl t14 w_4 fun t15 w_5 =>
 vcallv P v1 #[t15] w_5 fun t16 w_6 =>
 vif t16 (
 R (sl 0 u) w_6) (
 vbin P .add T_int true (sl 0 u) (.int .i64 1) w_6 fun t18 w_7 =>
 C [t18] w_7)) (
 R (.int .i64 (-1)) w_3)
def A_slices_IndexFunc_Limpl_Decl_impl_Decl : Ann := { ord := [], loops := [(2, [8])], cuts := [] }
theorem k_slices_IndexFunc_Limpl_Decl_impl_Decl (v0 v1 : Value) (w : World) (R : Value → World → Prop) : vc PP A_slices_IndexFunc_Limpl_Decl_impl_Decl ((Tryz.f107.body).getD .skip) (retF PP Tryz.f107.results.toList R) (nthV [v0, v1]) w = F_slices_IndexFunc_Limpl_Decl_impl_Decl PP v0 v1 w R := by kernel_rfl
theorem c_slices_IndexFunc_Limpl_Decl_impl_Decl {v0 v1 : Value} {w : World} {R : Value → World → Prop} (h : F_slices_IndexFunc_Limpl_Decl_impl_Decl PP v0 v1 w R) : vcall PP n_slices_IndexFunc_Limpl_Decl_impl_Decl #[v0, v1] w R :=
  call_of_vc (T := A_slices_IndexFunc_Limpl_Decl_impl_Decl) (c := (Tryz.f107.body).getD .skip) (n := 19) mixed Tryz.func107 rfl rfl (by kernel_rfl) (by kernel_rfl) rfl (by rw [k_slices_IndexFunc_Limpl_Decl_impl_Decl]; exact h)
def F_impl_environments_1 (P : Program) (v0 v1 : Value) (w : World) (R : Value → World → Prop) : Prop :=
 vload P T_Limpl_Decl v1 w fun t5 w_1 =>
 vbi P .len [T_Limpl_Decl] T_int [t5] w_1 fun t6 w_2 =>
 vmkS P T_Lint t6 t6 w_2 fun t7 w_3 =>
 vloop [] w_3 fun C _ _ w_4 =>
 vcallv P v0 #[t7] w_4 fun t10 w_5 =>
 vun P .not t10 w_5 fun t11 w_6 =>
 vif t11 (
 R (.tuple #[]) w_6) (
 vload P T_Limpl_Decl v1 w_6 fun t12 w_7 =>
 vbi P .len [T_Limpl_Decl] T_int [t12] w_7 fun t13 w_8 =>
 vbin P .sub T_int true t13 (.int .i64 1) w_8 fun t14 w_9 =>
 vloop [t14] w_9 fun C_1 u_1 _ w_10 =>
 vbin P .geq T_int true (sl 0 u_1) (.int .i64 0) w_10 fun t16 w_11 =>
 vif t16 (
 viaddr P T_Lint t7 (sl 0 u_1) w_11 fun t21 w_12 =>
 vload P T_int t21 w_12 fun t22 w_13 =>
 vbin P .add T_int true t22 (.int .i64 1) w_13 fun t23 w_14 =>
 viaddr P T_Lint t7 (sl 0 u_1) w_14 fun t24 w_15 =>
 vstore P T_int t24 t23 w_15 fun _ w_16 =>
 vdraw w_16 fun w_17 =>
 viaddr P T_Lint t7 (sl 0 u_1) w_17 fun t27 w_18 => w_18 = w_17 ∧
 vload P T_int t27 w_17 fun t28 w_19 => w_19 = w_17 ∧
 vload P T_Limpl_Decl v1 w_17 fun t29 w_20 => w_20 = w_17 ∧
 viaddr P T_Limpl_Decl t29 (sl 0 u_1) w_17 fun t31 w_21 => w_21 = w_17 ∧
 vfaddr P T_impl_Decl t31 1 w_17 fun t32 w_22 => w_22 = w_17 ∧
 vload P T_int t32 w_17 fun t33 w_23 => w_23 = w_17 ∧
 vbin P .shl T_int true (.int .i64 1) t33 w_17 fun t34 w_24 => w_24 = w_17 ∧
 vbin P .lss T_int false t28 t34 w_17 fun t35 w_25 => w_25 = w_17 ∧
 vif t35 (
 vbin P .lss T_int true (sl 0 u_1) (.int .i64 0) w_17 fun t40 w_26 =>
 vif t40 (
 R (.tuple #[]) w_26) (
 C [] w_26)) (
 viaddr P T_Lint t7 (sl 0 u_1) w_17 fun t38 w_27 =>
 vstore P T_int t38 (.int .i64 0) w_27 fun _ w_28 =>
 vbin P .sub T_int true (sl 0 u_1) (.int .i64 1) w_28 fun t18 w_29 =>
 C_1 [t18] w_29)) (
 vbin P .lss T_int true (sl 0 u_1) (.int .i64 0) w_11 fun t40_1 w_30 =>
 vif t40_1 (
 R (.tuple #[]) w_30) (
 C [] w_30)))
def A_impl_environments_1 : Ann := { ord := [(6, [0, 1, 2, 3, 4, 5, 6, 7, 8, 9, 10], [(0, [2, 3, 10]), (1, [2, 3, 10]), (2, [3, 10]), (3, [10]), (4, [6, 7, 8, 9, 10]), (5, [6, 7, 8, 9, 10]), (6, [7, 8, 9, 10]), (7, [8, 9, 10]), (8, [9, 10]), (9, [10])])], loops := [(1, []), (3, [4])], cuts := [] }
theorem k_impl_environments_1 (v0 v1 : Value) (w : World) (R : Value → World → Prop) : vc PP A_impl_environments_1 ((Tryz.f108.body).getD .skip) (retF PP Tryz.f108.results.toList R) (nthV [v0, v1]) w = F_impl_environments_1 PP v0 v1 w R := by kernel_rfl
theorem c_impl_environments_1 {v0 v1 : Value} {w : World} {R : Value → World → Prop} (h : F_impl_environments_1 PP v0 v1 w R) : vcall PP n_impl_environments_1 #[v0, v1] w R :=
  call_of_vc (T := A_impl_environments_1) (c := (Tryz.f108.body).getD .skip) (n := 41) mixed Tryz.func108 rfl rfl (by kernel_rfl) (by kernel_rfl) rfl (by rw [k_impl_environments_1]; exact h)
def F_impl_plain (P : Program) (v0 : Value) (w : World) (R : Value → World → Prop) : Prop :=
 vbox P T_impl_Term v0 w fun t1 w_1 =>
 vjoin (fun J =>
 vfaddr P T_impl_Term t1 0 w_1 fun t4 w_3 =>
 vload P T_int t4 w_3 fun t5 w_4 =>
 vbin P .eql T_int true t5 (.int .i64 20) w_4 fun t6 w_5 =>
 vif t6 (
 J [(.bool true)] w_5) (
 vfaddr P T_impl_Term t1 0 w_5 fun t8 w_6 =>
 vload P T_int t8 w_6 fun t9 w_7 =>
 vbin P .eql T_int true t9 (.int .i64 22) w_7 fun t10 w_8 =>
 vif t10 (
 J [(.bool true)] w_8) (
 vfaddr P T_impl_Term t1 1 w_8 fun t13 w_9 =>
 vload P T_int t13 w_9 fun t14 w_10 =>
 vbin P .eql T_int true t14 (.int .i64 0) w_10 fun t15 w_11 =>
 vif t15 (
 vfaddr P T_impl_Term t1 2 w_11 fun t17 w_12 =>
 vload P T_int t17 w_12 fun t18 w_13 =>
 vbin P .eql T_int true t18 (.int .i64 0) w_13 fun t19 w_14 =>
 J [t19] w_14) (
 J [(.bool false)] w_11)))) (fun u _ w_2 =>
 vif (sl 0 u) (
 vfaddr P T_impl_Term t1 0 w_2 fun t24 w_15 =>
 vload P T_int t24 w_15 fun t25 w_16 =>
 vbin P .eql T_int true t25 (.int .i64 21) w_16 fun t26 w_17 =>
 vif t26 (
 R (.bool true) w_17) (
 vfaddr P T_impl_Term t1 3 w_17 fun t28 w_18 =>
 vload P T_string t28 w_18 fun t29 w_19 =>
 vbin P .eql T_string true t29 (.string { data := #[] }) w_19 fun t30 w_20 =>
 R t30 w_20)) (
 R (.bool false) w_2))
def A_impl_plain : Ann := { ord := [], loops := [], cuts := [(8194, [3])] }
theorem k_impl_plain (v0 : Value) (w : World) (R : Value → World → Prop) : vc PP A_impl_plain ((Tryz.f109.body).getD .skip) (retF PP Tryz.f109.results.toList R) (nthV [v0]) w = F_impl_plain PP v0 w R := by kernel_rfl
theorem c_impl_plain {v0 : Value} {w : World} {R : Value → World → Prop} (h : F_impl_plain PP v0 w R) : vcall PP n_impl_plain #[v0] w R :=
  call_of_vc (T := A_impl_plain) (c := (Tryz.f109.body).getD .skip) (n := 33) mixed Tryz.func109 rfl rfl (by kernel_rfl) (by kernel_rfl) rfl (by rw [k_impl_plain]; exact h)
def F_spec_l1Two (P : Program) (v0 : Value) (w : World) (R : Value → World → Prop) : Prop :=
 vloop [(.int .i64 1), (.int .i64 0)] w fun C u _ w_1 =>
 vbin P .lss T_int false (sl 1 u) v0 w_1 fun t7 w_2 =>
 vif t7 (
 vbin P .mul T_int true (sl 0 u) (.int .i64 2) w_2 fun t11 w_3 =>
 vbin P .add T_int true (sl 1 u) (.int .i64 1) w_3 fun t9 w_4 =>
 C [t11, t9] w_4) (
 R (sl 0 u) w_2)
def A_spec_l1Two : Ann := { ord := [], loops := [(3, [3, 4])], cuts := [] }
theorem k_spec_l1Two (v0 : Value) (w : World) (R : Value → World → Prop) : vc PP A_spec_l1Two ((Tryz.f110.body).getD .skip) (retF PP Tryz.f110.results.toList R) (nthV [v0]) w = F_spec_l1Two PP v0 w R := by kernel_rfl
theorem c_spec_l1Two {v0 : Value} {w : World} {R : Value → World → Prop} (h : F_spec_l1Two PP v0 w R) : vcall PP n_spec_l1Two #[v0] w R :=
  call_of_vc (T := A_spec_l1Two) (c := (Tryz.f110.body).getD .skip) (n := 13) mixed Tryz.func110 rfl rfl (by kernel_rfl) (by kernel_rfl) rfl (by rw [k_spec_l1Two]; exact h)
def F_spec_l1Min (P : Program) (v0 v1 : Value) (w : World) (R : Value → World → Prop) : Prop :=
 vbin P .lss T_int false v0 v1 w fun t7 w_1 =>
 vif t7 (
 R v0 w_1) (
 R v1 w_1)
def A_spec_l1Min : Ann := { ord := [], loops := [], cuts := [] }
theorem k_spec_l1Min (v0 v1 : Value) (w : World) (R : Value → World → Prop) : vc PP A_spec_l1Min ((Tryz.f111.body).getD .skip) (retF PP Tryz.f111.results.toList R) (nthV [v0, v1]) w = F_spec_l1Min PP v0 v1 w R := by kernel_rfl
theorem c_spec_l1Min {v0 v1 : Value} {w : World} {R : Value → World → Prop} (h : F_spec_l1Min PP v0 v1 w R) : vcall PP n_spec_l1Min #[v0, v1] w R :=
  call_of_vc (T := A_spec_l1Min) (c := (Tryz.f111.body).getD .skip) (n := 10) mixed Tryz.func111 rfl rfl (by kernel_rfl) (by kernel_rfl) rfl (by rw [k_spec_l1Min]; exact h)
def F_spec_l2Term (P : Program) (v0 v1 v2 v3 : Value) (w : World) (R : Value → World → Prop) : Prop :=
 valloc P T_impl_Term w fun t8 w_1 =>
 vjoin (fun J =>
 vbin P .lss T_int true v3 (.int .i64 1) w_1 fun t14 w_3 =>
 vif t14 (
 vcall P n_spec_l2Leafy #[v0, v1, v2] w_3 fun t27 w_4 =>
 vstore P T_impl_Term t8 t27 w_4 fun _ w_5 =>
 vlv P T_impl_Term t8 w_5 fun r8 w_6 =>
 R r8 w_6) (
 vbin P .gtr T_int true v2 (.int .i64 0) w_3 fun t17 w_7 =>
 vif t17 (
 vcall P n_spec_l12Rd_pick #[v0, (.int .i64 3)] w_7 fun t20 w_8 =>
 vbin P .eql T_int true t20 (.int .i64 0) w_8 fun t21 w_9 =>
 vif t21 (
 vcall P n_spec_l2Leafy #[v0, v1, v2] w_9 fun t27_1 w_10 =>
 vstore P T_impl_Term t8 t27_1 w_10 fun _ w_11 =>
 vlv P T_impl_Term t8 w_11 fun r8_1 w_12 =>
 R r8_1 w_12) (
 J [] w_9)) (
 J [] w_7))) (fun _ _ w_2 =>
 vcall P n_spec_l12Rd_pick #[v0, (.int .i64 12)] w_2 fun t29 w_13 =>
 vbin P .eql T_int true t29 (.int .i64 0) w_13 fun t31 w_14 =>
 vif t31 (
 vbin P .sub T_int true v3 (.int .i64 1) w_14 fun t35 w_15 =>
 vcall P n_spec_l2Term #[v0, v1, (.int .i64 0), t35] w_15 fun t36 w_16 =>
 vbin P .sub T_int true v3 (.int .i64 1) w_16 fun t41 w_17 =>
 vcall P n_spec_l2Term #[v0, v1, v2, t41] w_17 fun t42 w_18 =>
 vbin P .sub T_int true v3 (.int .i64 1) w_18 fun t47 w_19 =>
 vcall P n_spec_l2Term #[v0, v1, v2, t47] w_19 fun t48 w_20 =>
 vbuildS P T_Limpl_Term 3 [(0, t36), (1, t42), (2, t48)] w_20 fun t49 w_21 =>
 vbuild P T_impl_Term [(0, (.int .i64 23)), (4, t49)] w_21 fun t50 w_22 =>
 vstore P T_impl_Term t8 t50 w_22 fun _ w_23 =>
 vlv P T_impl_Term t8 w_23 fun r8_2 w_24 =>
 R r8_2 w_24) (
 vbin P .eql T_int true v2 (.int .i64 0) w_14 fun t52 w_25 =>
 vif t52 (
 vcall P n_spec_l2Asks #[v0, v1, v3] w_25 fun t56 w_26 =>
 vstore P T_impl_Term t8 t56 w_26 fun _ w_27 =>
 vlv P T_impl_Term t8 w_27 fun r8_3 w_28 =>
 R r8_3 w_28) (
 vbin P .eql T_int true t29 (.int .i64 1) w_25 fun t58 w_29 =>
 vif t58 (
 vbin P .sub T_int true (.int .i64 5) v2 w_29 fun t62 w_30 =>
 vcall P n_spec_l12Rd_pick #[v0, t62] w_30 fun t63 w_31 =>
 vbin P .add T_int false v2 t63 w_31 fun t64 w_32 =>
 vbin P .sub T_int false t64 v2 w_32 fun t68 w_33 =>
 vbin P .add T_int true t68 (.int .i64 1) w_33 fun t69 w_34 =>
 vcall P n_spec_l12Rd_pick #[v0, t69] w_34 fun t70 w_35 =>
 vbin P .add T_int false t70 v2 w_35 fun t73 w_36 =>
 vbin P .sub T_int true t73 (.int .i64 1) w_36 fun t74 w_37 =>
 vbin P .sub T_int true v3 (.int .i64 1) w_37 fun t80 w_38 =>
 vcall P n_spec_l2Term #[v0, v1, t64, t80] w_38 fun t81 w_39 =>
 vbuildS P T_Limpl_Term 1 [(0, t81)] w_39 fun t82 w_40 =>
 vbuild P T_impl_Term [(0, (.int .i64 22)), (1, t74), (2, t70), (4, t82)] w_40 fun t83 w_41 =>
 vstore P T_impl_Term t8 t83 w_41 fun _ w_42 =>
 vlv P T_impl_Term t8 w_42 fun r8_4 w_43 =>
 R r8_4 w_43) (
 vjoin (fun J_1 =>
 vjoin (fun J_2 =>
 vbin P .eql T_int true t29 (.int .i64 2) w_29 fun t85 w_46 =>
 vif t85 (
 vbin P .gtr T_int true v2 (.int .i64 1) w_46 fun t88 w_47 =>
 J_2 [t88] w_47) (
 J_2 [(.bool false)] w_46)) (fun u_2 _ w_45 =>
 vif (sl 0 u_2) (
 vbin P .sub T_int true v2 (.int .i64 1) w_45 fun t92 w_48 =>
 vcall P n_spec_l12Rd_pick #[v0, t92] w_48 fun t93 w_49 =>
 vbin P .add T_int true (.int .i64 1) t93 w_49 fun t94 w_50 =>
 vbin P .sub T_int true v3 (.int .i64 1) w_50 fun t99 w_51 =>
 vcall P n_spec_l2Term #[v0, v1, t94, t99] w_51 fun t100 w_52 =>
 vbin P .sub T_int false v2 t94 w_52 fun t105 w_53 =>
 vbin P .sub T_int true v3 (.int .i64 1) w_53 fun t107 w_54 =>
 vcall P n_spec_l2Term #[v0, v1, t105, t107] w_54 fun t108 w_55 =>
 vbuildS P T_Limpl_Term 2 [(0, t100), (1, t108)] w_55 fun t109 w_56 =>
 vbuild P T_impl_Term [(0, (.int .i64 14)), (4, t109)] w_56 fun t110 w_57 =>
 vstore P T_impl_Term t8 t110 w_57 fun _ w_58 =>
 vlv P T_impl_Term t8 w_58 fun r8_5 w_59 =>
 R r8_5 w_59) (
 J_1 [] w_45))) (fun _ _ w_44 =>
 vbin P .lss T_int true t29 (.int .i64 5) w_44 fun t112 w_60 =>
 vif t112 (
 vcall P n_spec_l12Rd_pick #[v0, (.int .i64 2)] w_60 fun t114 w_61 =>
 vbin P .add T_int true (.int .i64 1) t114 w_61 fun t115 w_62 =>
 vbin P .sub T_int true v3 (.int .i64 1) w_62 fun t120 w_63 =>
 vcall P n_spec_l2Term #[v0, v1, v2, t120] w_63 fun t121 w_64 =>
 vbuildS P T_Limpl_Term 1 [(0, t121)] w_64 fun t122 w_65 =>
 vbuild P T_impl_Term [(0, t115), (4, t122)] w_65 fun t123 w_66 =>
 vstore P T_impl_Term t8 t123 w_66 fun _ w_67 =>
 vlv P T_impl_Term t8 w_67 fun r8_6 w_68 =>
 R r8_6 w_68) (
 vcall P n_spec_l12Rd_pick #[v0, (.int .i64 11)] w_60 fun t125 w_69 =>
 vbin P .add T_int true (.int .i64 3) t125 w_69 fun t126 w_70 =>
 vbin P .sub T_int true v3 (.int .i64 1) w_70 fun t131 w_71 =>
 vcall P n_spec_l2Term #[v0, v1, v2, t131] w_71 fun t132 w_72 =>
 vbin P .sub T_int true v3 (.int .i64 1) w_72 fun t137 w_73 =>
 vcall P n_spec_l2Term #[v0, v1, v2, t137] w_73 fun t138 w_74 =>
 vbuildS P T_Limpl_Term 2 [(0, t132), (1, t138)] w_74 fun t139 w_75 =>
 vbuild P T_impl_Term [(0, t126), (4, t139)] w_75 fun t140 w_76 =>
 vstore P T_impl_Term t8 t140 w_76 fun _ w_77 =>
 vlv P T_impl_Term t8 w_77 fun r8_7 w_78 =>
 R r8_7 w_78))))))
def A_spec_l2Term : Ann := { ord := [], loops := [], cuts := [(8195, []), (53263, []), (53261, [89])] }
theorem k_spec_l2Term (v0 v1 v2 v3 : Value) (w : World) (R : Value → World → Prop) : vc PP A_spec_l2Term ((Tryz.f112.body).getD .skip) (retF PP Tryz.f112.results.toList R) (nthV [v0, v1, v2, v3]) w = F_spec_l2Term PP v0 v1 v2 v3 w R := by kernel_rfl
theorem c_spec_l2Term {v0 v1 v2 v3 : Value} {w : World} {R : Value → World → Prop} (h : F_spec_l2Term PP v0 v1 v2 v3 w R) : vcall PP n_spec_l2Term #[v0, v1, v2, v3] w R :=
  call_of_vc (T := A_spec_l2Term) (c := (Tryz.f112.body).getD .skip) (n := 141) mixed Tryz.func112 rfl rfl (by kernel_rfl) (by kernel_rfl) rfl (by rw [k_spec_l2Term]; exact h)
def F_spec_l3Zero (P : Program) (v0 : Value) (w : World) (R : Value → World → Prop) : Prop :=
 valloc P T_impl_Term w fun t2 w_1 =>
 vbuild P T_impl_Term [(0, (.int .i64 20)), (1, v0)] w_1 fun t4 w_2 =>
 vstore P T_impl_Term t2 t4 w_2 fun _ w_3 =>
 vlv P T_impl_Term t2 w_3 fun r2 w_4 =>
 R r2 w_4
def A_spec_l3Zero : Ann := { ord := [], loops := [], cuts := [] }
theorem k_spec_l3Zero (v0 : Value) (w : World) (R : Value → World → Prop) : vc PP A_spec_l3Zero ((Tryz.f113.body).getD .skip) (retF PP Tryz.f113.results.toList R) (nthV [v0]) w = F_spec_l3Zero PP v0 w R := by kernel_rfl
theorem c_spec_l3Zero {v0 : Value} {w : World} {R : Value → World → Prop} (h : F_spec_l3Zero PP v0 w R) : vcall PP n_spec_l3Zero #[v0] w R :=
  call_of_vc (T := A_spec_l3Zero) (c := (Tryz.f113.body).getD .skip) (n := 5) mixed Tryz.func113 rfl rfl (by kernel_rfl) (by kernel_rfl) rfl (by rw [k_spec_l3Zero]; exact h)
def F_spec_l12Rd_of (P : Program) (v0 v1 : Value) (w : World) (R : Value → World → Prop) : Prop :=
 vbi P .len [T_Lstring] T_int [v1] w fun t8 w_1 =>
 vcall P n_spec_l12Rd_pick #[v0, t8] w_1 fun t9 w_2 =>
 viaddr P T_Lstring v1 t9 w_2 fun t10 w_3 =>
 vload P T_string t10 w_3 fun t11 w_4 =>
 R t11 w_4
def A_spec_l12Rd_of : Ann := { ord := [], loops := [], cuts := [] }
theorem k_spec_l12Rd_of (v0 v1 : Value) (w : World) (R : Value → World → Prop) : vc PP A_spec_l12Rd_of ((Tryz.f114.body).getD .skip) (retF PP Tryz.f114.results.toList R) (nthV [v0, v1]) w = F_spec_l12Rd_of PP v0 v1 w R := by kernel_rfl
theorem c_spec_l12Rd_of {v0 v1 : Value} {w : World} {R : Value → World → Prop} (h : F_spec_l12Rd_of PP v0 v1 w R) : vcall PP n_spec_l12Rd_of #[v0, v1] w R :=
  call_of_vc (T := A_spec_l12Rd_of) (c := (Tryz.f114.body).getD .skip) (n := 12) mixed Tryz.func114 rfl rfl (by kernel_rfl) (by kernel_rfl) rfl (by rw [k_spec_l12Rd_of]; exact h)
def F_spec_l2Arity (P : Program) (v0 : Value) (w : World) (R : Value → World → Prop) : Prop :=
 vjoin (fun J =>
 vbin P .eql T_int true v0 (.int .i64 20) w fun t5 w_2 =>
 vif t5 (
 J [t5] w_2) (
 vbin P .eql T_int true v0 (.int .i64 21) w_2 fun t6 w_3 =>
 vif t6 (
 J [t6] w_3) (
 vbin P .eql T_int true v0 (.int .i64 24) w_3 fun t7 w_4 =>
 J [t7] w_4))) (fun u _ w_1 =>
 vif (sl 0 u) (
 R (.int .i64 0) w_1) (
 vbin P .eql T_int true v0 (.int .i64 1) w_1 fun t9 w_5 =>
 vif t9 (
 vif t9 (
 R (.int .i64 1) w_5) (
 vbin P .eql T_int true v0 (.int .i64 23) w_5 fun t14 w_6 =>
 vif t14 (
 R (.int .i64 3) w_6) (
 vbin P .eql T_int true v0 (.int .i64 26) w_6 fun t16 w_7 =>
 vif t16 (
 vif t16 (
 R (.int .i64 2) w_7) (
 vbin P .geq T_int true v0 (.int .i64 3) w_7 fun t19 w_8 =>
 vif t19 (
 vbin P .leq T_int true v0 (.int .i64 17) w_8 fun t22 w_9 =>
 vif t22 (
 R (.int .i64 2) w_9) (
 R (.int .i64 (-1)) w_9)) (
 R (.int .i64 (-1)) w_8))) (
 vbin P .eql T_int true v0 (.int .i64 27) w_7 fun t17 w_10 =>
 vif t17 (
 R (.int .i64 2) w_10) (
 vbin P .geq T_int true v0 (.int .i64 3) w_10 fun t19_1 w_11 =>
 vif t19_1 (
 vbin P .leq T_int true v0 (.int .i64 17) w_11 fun t22_1 w_12 =>
 vif t22_1 (
 R (.int .i64 2) w_12) (
 R (.int .i64 (-1)) w_12)) (
 R (.int .i64 (-1)) w_11)))))) (
 vbin P .eql T_int true v0 (.int .i64 2) w_5 fun t10 w_13 =>
 vif t10 (
 vif t10 (
 R (.int .i64 1) w_13) (
 vbin P .eql T_int true v0 (.int .i64 23) w_13 fun t14_1 w_14 =>
 vif t14_1 (
 R (.int .i64 3) w_14) (
 vbin P .eql T_int true v0 (.int .i64 26) w_14 fun t16_1 w_15 =>
 vif t16_1 (
 vif t16_1 (
 R (.int .i64 2) w_15) (
 vbin P .geq T_int true v0 (.int .i64 3) w_15 fun t19_2 w_16 =>
 vif t19_2 (
 vbin P .leq T_int true v0 (.int .i64 17) w_16 fun t22_2 w_17 =>
 vif t22_2 (
 R (.int .i64 2) w_17) (
 R (.int .i64 (-1)) w_17)) (
 R (.int .i64 (-1)) w_16))) (
 vbin P .eql T_int true v0 (.int .i64 27) w_15 fun t17_1 w_18 =>
 vif t17_1 (
 R (.int .i64 2) w_18) (
 vbin P .geq T_int true v0 (.int .i64 3) w_18 fun t19_3 w_19 =>
 vif t19_3 (
 vbin P .leq T_int true v0 (.int .i64 17) w_19 fun t22_3 w_20 =>
 vif t22_3 (
 R (.int .i64 2) w_20) (
 R (.int .i64 (-1)) w_20)) (
 R (.int .i64 (-1)) w_19)))))) (
 vbin P .eql T_int true v0 (.int .i64 22) w_13 fun t11 w_21 =>
 vif t11 (
 vif t11 (
 R (.int .i64 1) w_21) (
 vbin P .eql T_int true v0 (.int .i64 23) w_21 fun t14_2 w_22 =>
 vif t14_2 (
 R (.int .i64 3) w_22) (
 vbin P .eql T_int true v0 (.int .i64 26) w_22 fun t16_2 w_23 =>
 vif t16_2 (
 vif t16_2 (
 R (.int .i64 2) w_23) (
 vbin P .geq T_int true v0 (.int .i64 3) w_23 fun t19_4 w_24 =>
 vif t19_4 (
 vbin P .leq T_int true v0 (.int .i64 17) w_24 fun t22_4 w_25 =>
 vif t22_4 (
 R (.int .i64 2) w_25) (
 R (.int .i64 (-1)) w_25)) (
 R (.int .i64 (-1)) w_24))) (
 vbin P .eql T_int true v0 (.int .i64 27) w_23 fun t17_2 w_26 =>
 vif t17_2 (
 R (.int .i64 2) w_26) (
 vbin P .geq T_int true v0 (.int .i64 3) w_26 fun t19_5 w_27 =>
 vif t19_5 (
 vbin P .leq T_int true v0 (.int .i64 17) w_27 fun t22_5 w_28 =>
 vif t22_5 (
 R (.int .i64 2) w_28) (
 R (.int .i64 (-1)) w_28)) (
 R (.int .i64 (-1)) w_27)))))) (
 vbin P .eql T_int true v0 (.int .i64 25) w_21 fun t12 w_29 =>
 vif t12 (
 R (.int .i64 1) w_29) (
 vbin P .eql T_int true v0 (.int .i64 23) w_29 fun t14_3 w_30 =>
 vif t14_3 (
 R (.int .i64 3) w_30) (
 vbin P .eql T_int true v0 (.int .i64 26) w_30 fun t16_3 w_31 =>
 vif t16_3 (
 vif t16_3 (
 R (.int .i64 2) w_31) (
 vbin P .geq T_int true v0 (.int .i64 3) w_31 fun t19_6 w_32 =>
 vif t19_6 (
 vbin P .leq T_int true v0 (.int .i64 17) w_32 fun t22_6 w_33 =>
 vif t22_6 (
 R (.int .i64 2) w_33) (
 R (.int .i64 (-1)) w_33)) (
 R (.int .i64 (-1)) w_32))) (
 vbin P .eql T_int true v0 (.int .i64 27) w_31 fun t17_3 w_34 =>
 vif t17_3 (
 R (.int .i64 2) w_34) (
 vbin P .geq T_int true v0 (.int .i64 3) w_34 fun t19_7 w_35 =>
 vif t19_7 (
 vbin P .leq T_int true v0 (.int .i64 17) w_35 fun t22_7 w_36 =>
 vif t22_7 (
 R (.int .i64 2) w_36) (
 R (.int .i64 (-1)) w_36)) (
 R (.int .i64 (-1)) w_35))))))))))
def A_spec_l2Arity : Ann := { ord := [], loops := [], cuts := [(12293, [4])] }
theorem k_spec_l2Arity (v0 : Value) (w : World) (R : Value → World → Prop) : vc PP A_spec_l2Arity ((Tryz.f115.body).getD .skip) (retF PP Tryz.f115.results.toList R) (nthV [v0]) w = F_spec_l2Arity PP v0 w R := by kernel_rfl
theorem c_spec_l2Arity {v0 : Value} {w : World} {R : Value → World → Prop} (h : F_spec_l2Arity PP v0 w R) : vcall PP n_spec_l2Arity #[v0] w R :=
  call_of_vc (T := A_spec_l2Arity) (c := (Tryz.f115.body).getD .skip) (n := 24) mixed Tryz.func115 rfl rfl (by kernel_rfl) (by kernel_rfl) rfl (by rw [k_spec_l2Arity]; exact h)
def F_impl_folder_fixed (P : Program) (v0 v1 : Value) (w : World) (R : Value → World → Prop) : Prop :=
 vbox P T_impl_folder v0 w fun t2 w_1 =>
 vbox P T_impl_Term v1 w_1 fun t3 w_2 =>
 valloc P T_impl_Term w_2 fun t4 w_3 =>
 vjoin (fun J =>
 vfaddr P T_impl_Term t3 4 w_3 fun t6 w_5 =>
 vload P T_Limpl_Term t6 w_5 fun t7 w_6 =>
 vbi P .len [T_Limpl_Term] T_int [t7] w_6 fun t8 w_7 =>
 vbin P .eql T_int true t8 (.int .i64 0) w_7 fun t9 w_8 =>
 vif t9 (
 vbuild P T_impl_Term [] w_8 fun t15 w_9 =>
 vstore P T_impl_Term t4 t15 w_9 fun _ w_10 =>
 vlv P T_impl_Term t4 w_10 fun r4 w_11 =>
 R (.tuple #[r4, (.bool false)]) w_11) (
 vfaddr P T_impl_Term t3 4 w_8 fun t11 w_12 =>
 vload P T_Limpl_Term t11 w_12 fun t12 w_13 =>
 vcall P n_slices_ContainsFunc_Limpl_Term_impl_Term #[t12, (.func (.func n_impl_folder_fixed_1) #[] #[])] w_13 fun t13 w_14 =>
 vif t13 (
 vbuild P T_impl_Term [] w_14 fun t15_1 w_15 =>
 vstore P T_impl_Term t4 t15_1 w_15 fun _ w_16 =>
 vlv P T_impl_Term t4 w_16 fun r4_1 w_17 =>
 R (.tuple #[r4_1, (.bool false)]) w_17) (
 J [] w_14))) (fun _ _ w_4 =>
 vdraw w_4 fun w_18 =>
 vload P T_impl_folder t2 w_18 fun t16 w_19 => w_19 = w_18 ∧
 vload P T_impl_Term t3 w_18 fun t17 w_20 => w_20 = w_18 ∧
 vfaddr P T_impl_folder t2 1 w_18 fun t19 w_21 => w_21 = w_18 ∧
 vload P T_M_map_int_impl_kind t19 w_18 fun t20 w_22 => w_22 = w_18 ∧
 vfaddr P T_impl_folder t2 0 w_18 fun t21 w_23 => w_23 = w_18 ∧
 vload P T_Limpl_Decl t21 w_18 fun t22 w_24 => w_24 = w_18 ∧
 vload P T_impl_Term t3 w_18 fun t23 w_25 => w_25 = w_18 ∧
 vcall P n_impl_folder_sort #[t16, t17] w_18 fun t18 w_26 => (vload P T_impl_Term t3 w_26 fun v x => v = t23 ∧ x = w_26) ∧ (vload P T_Limpl_Decl t21 w_26 fun v x => v = t22 ∧ x = w_26) ∧ (vfaddr P T_impl_folder t2 0 w_26 fun v x => v = t21 ∧ x = w_26) ∧ (vload P T_M_map_int_impl_kind t19 w_26 fun v x => v = t20 ∧ x = w_26) ∧ (vfaddr P T_impl_folder t2 1 w_26 fun v x => v = t19 ∧ x = w_26) ∧
 vcall P n_impl_valueOf #[t20, t22, t23, (.map none)] w_26 fun t24 w_27 =>
 vfield P T_impl_Vec t24 1 w_27 fun t25 w_28 => w_28 = w_27 ∧
 vcall P n_impl_constant #[t18, t25] w_27 fun t26 w_29 =>
 vstore P T_impl_Term t4 t26 w_29 fun _ w_30 =>
 vlv P T_impl_Term t4 w_30 fun r4_2 w_31 =>
 R (.tuple #[r4_2, (.bool true)]) w_31)
def A_impl_folder_fixed : Ann := { ord := [(3, [0, 1, 3, 4, 5, 6, 7, 2, 8, 9, 10, 11, 12], [(0, [2, 8, 9, 10, 11, 12]), (1, [2, 8, 9, 10, 11, 12]), (3, [4, 8, 9, 10, 11, 12]), (4, [8, 9, 10, 11, 12]), (5, [6, 8, 9, 10, 11, 12]), (6, [8, 9, 10, 11, 12]), (7, [8, 9, 10, 11, 12]), (2, [8, 9, 10, 11, 12]), (8, [9, 10, 11, 12]), (9, [10, 11, 12]), (10, [11, 12]), (11, [12])])], loops := [], cuts := [(8195, [])] }
theorem k_impl_folder_fixed (v0 v1 : Value) (w : World) (R : Value → World → Prop) : vc PP A_impl_folder_fixed ((Tryz.f116.body).getD .skip) (retF PP Tryz.f116.results.toList R) (nthV [v0, v1]) w = F_impl_folder_fixed PP v0 v1 w R := by kernel_rfl
theorem c_impl_folder_fixed {v0 v1 : Value} {w : World} {R : Value → World → Prop} (h : F_impl_folder_fixed PP v0 v1 w R) : vcall PP n_impl_folder_fixed #[v0, v1] w R :=
  call_of_vc (T := A_impl_folder_fixed) (c := (Tryz.f116.body).getD .skip) (n := 27) mixed Tryz.func116 rfl rfl (by kernel_rfl) (by kernel_rfl) rfl (by rw [k_impl_folder_fixed]; exact h)
def F_impl_folder_branches (P : Program) (v0 v1 : Value) (w : World) (R : Value → World → Prop) : Prop :=
 vbox P T_impl_folder v0 w fun _ w_1 =>
 vbox P T_impl_Term v1 w_1 fun t3 w_2 =>
 valloc P T_impl_Term w_2 fun t4 w_3 =>
 vjoin (fun J =>
 vjoin (fun J_1 =>
 vfaddr P T_impl_Term t3 0 w_3 fun t7 w_6 =>
 vload P T_int t7 w_6 fun t8 w_7 =>
 vbin P .eql T_int true t8 (.int .i64 25) w_7 fun t9 w_8 =>
 vif t9 (
 vfaddr P T_impl_Term t3 4 w_8 fun t11 w_9 =>
 vload P T_Limpl_Term t11 w_9 fun t12 w_10 =>
 viaddr P T_Limpl_Term t12 (.int .i64 0) w_10 fun t13 w_11 =>
 vfaddr P T_impl_Term t13 0 w_11 fun t14 w_12 =>
 vload P T_int t14 w_12 fun t15 w_13 =>
 vbin P .eql T_int true t15 (.int .i64 25) w_13 fun t16 w_14 =>
 J_1 [t16] w_14) (
 J_1 [(.bool false)] w_8)) (fun u_1 _ w_5 =>
 vif (sl 0 u_1) (
 vfaddr P T_impl_Term t3 4 w_5 fun t18 w_15 =>
 vload P T_Limpl_Term t18 w_15 fun t19 w_16 =>
 viaddr P T_Limpl_Term t19 (.int .i64 0) w_16 fun t20 w_17 =>
 vfaddr P T_impl_Term t20 4 w_17 fun t21 w_18 =>
 vload P T_Limpl_Term t21 w_18 fun t22 w_19 =>
 viaddr P T_Limpl_Term t22 (.int .i64 0) w_19 fun t23 w_20 =>
 vload P T_impl_Term t23 w_20 fun t24 w_21 =>
 vstore P T_impl_Term t4 t24 w_21 fun _ w_22 =>
 vlv P T_impl_Term t4 w_22 fun r4 w_23 =>
 R (.tuple #[r4, (.bool true)]) w_23) (
 vfaddr P T_impl_Term t3 0 w_5 fun t26 w_24 =>
 vload P T_int t26 w_24 fun t27 w_25 =>
 vbin P .neq T_int true t27 (.int .i64 23) w_25 fun t28 w_26 =>
 vif t28 (
 vbuild P T_impl_Term [] w_26 fun t29 w_27 =>
 vstore P T_impl_Term t4 t29 w_27 fun _ w_28 =>
 vlv P T_impl_Term t4 w_28 fun r4_1 w_29 =>
 R (.tuple #[r4_1, (.bool false)]) w_29) (
 vfaddr P T_impl_Term t3 4 w_26 fun t31 w_30 =>
 vload P T_Limpl_Term t31 w_30 fun t32 w_31 =>
 viaddr P T_Limpl_Term t32 (.int .i64 0) w_31 fun t33 w_32 =>
 vload P T_impl_Term t33 w_32 fun t34 w_33 =>
 vcall P n_impl_is #[t34, (.int .i64 1)] w_33 fun t35 w_34 =>
 vif t35 (
 vfaddr P T_impl_Term t3 4 w_34 fun t36 w_35 =>
 vload P T_Limpl_Term t36 w_35 fun t37 w_36 =>
 viaddr P T_Limpl_Term t37 (.int .i64 1) w_36 fun t38 w_37 =>
 vload P T_impl_Term t38 w_37 fun t39 w_38 =>
 vstore P T_impl_Term t4 t39 w_38 fun _ w_39 =>
 vlv P T_impl_Term t4 w_39 fun r4_2 w_40 =>
 R (.tuple #[r4_2, (.bool true)]) w_40) (
 vfaddr P T_impl_Term t3 4 w_34 fun t41 w_41 =>
 vload P T_Limpl_Term t41 w_41 fun t42 w_42 =>
 viaddr P T_Limpl_Term t42 (.int .i64 0) w_42 fun t43 w_43 =>
 vload P T_impl_Term t43 w_43 fun t44 w_44 =>
 vcall P n_impl_is #[t44, (.int .i64 0)] w_44 fun t45 w_45 =>
 vif t45 (
 vfaddr P T_impl_Term t3 4 w_45 fun t46 w_46 =>
 vload P T_Limpl_Term t46 w_46 fun t47 w_47 =>
 viaddr P T_Limpl_Term t47 (.int .i64 2) w_47 fun t48 w_48 =>
 vload P T_impl_Term t48 w_48 fun t49 w_49 =>
 vstore P T_impl_Term t4 t49 w_49 fun _ w_50 =>
 vlv P T_impl_Term t4 w_50 fun r4_3 w_51 =>
 R (.tuple #[r4_3, (.bool true)]) w_51) (
 J [] w_45)))))) (fun _ _ w_4 =>
 vdraw w_4 fun w_52 =>
 vfaddr P T_impl_Term t3 4 w_52 fun t50 w_53 => w_53 = w_52 ∧
 vload P T_Limpl_Term t50 w_52 fun t51 w_54 => w_54 = w_52 ∧
 viaddr P T_Limpl_Term t51 (.int .i64 1) w_52 fun t52 w_55 => w_55 = w_52 ∧
 vload P T_impl_Term t52 w_52 fun t53 w_56 => w_56 = w_52 ∧
 vfaddr P T_impl_Term t3 4 w_52 fun t54 w_57 => w_57 = w_52 ∧
 vload P T_Limpl_Term t54 w_52 fun t55 w_58 => w_58 = w_52 ∧
 viaddr P T_Limpl_Term t55 (.int .i64 2) w_52 fun t56 w_59 => w_59 = w_52 ∧
 vload P T_impl_Term t56 w_52 fun t57 w_60 => w_60 = w_52 ∧
 vfaddr P T_impl_Term t3 4 w_52 fun t59 w_61 => w_61 = w_52 ∧
 vload P T_Limpl_Term t59 w_52 fun t60 w_62 => w_62 = w_52 ∧
 viaddr P T_Limpl_Term t60 (.int .i64 1) w_52 fun t61 w_63 => w_63 = w_52 ∧
 vload P T_impl_Term t61 w_52 fun t62 w_64 => w_64 = w_52 ∧
 vcall P n_impl_TermSame #[t53, t57] w_52 fun t58 w_65 => (vload P T_impl_Term t61 w_65 fun v x => v = t62 ∧ x = w_65) ∧ (viaddr P T_Limpl_Term t60 (.int .i64 1) w_65 fun v x => v = t61 ∧ x = w_65) ∧ (vload P T_Limpl_Term t59 w_65 fun v x => v = t60 ∧ x = w_65) ∧ (vfaddr P T_impl_Term t3 4 w_65 fun v x => v = t59 ∧ x = w_65) ∧
 vcall P n_impl_chosen #[t58, t62] w_65 fun t63 w_66 =>
 vextract P t63 0 w_66 fun t64 w_67 => w_67 = w_66 ∧
 vextract P t63 1 w_66 fun t65 w_68 => w_68 = w_66 ∧
 vstore P T_impl_Term t4 t64 w_66 fun _ w_69 =>
 vlv P T_impl_Term t4 w_69 fun r4_4 w_70 =>
 R (.tuple #[r4_4, t65]) w_70)
def A_impl_folder_branches : Ann := { ord := [(9, [0, 1, 2, 3, 4, 5, 6, 7, 9, 10, 11, 12, 8, 13, 14, 15, 16, 17], [(0, [1, 2, 3, 8, 13, 14, 15, 16, 17]), (1, [2, 3, 8, 13, 14, 15, 16, 17]), (2, [3, 8, 13, 14, 15, 16, 17]), (3, [8, 13, 14, 15, 16, 17]), (4, [5, 6, 7, 8, 13, 14, 15, 16, 17]), (5, [6, 7, 8, 13, 14, 15, 16, 17]), (6, [7, 8, 13, 14, 15, 16, 17]), (7, [8, 13, 14, 15, 16, 17]), (9, [10, 11, 12, 13, 14, 15, 16, 17]), (10, [11, 12, 13, 14, 15, 16, 17]), (11, [12, 13, 14, 15, 16, 17]), (12, [13, 14, 15, 16, 17]), (8, [13, 14, 15, 16, 17]), (13, [14, 15, 16, 17]), (14, [16, 17]), (15, [16, 17]), (16, [17])])], loops := [], cuts := [(8201, []), (8194, [6])] }
theorem k_impl_folder_branches (v0 v1 : Value) (w : World) (R : Value → World → Prop) : vc PP A_impl_folder_branches ((Tryz.f117.body).getD .skip) (retF PP Tryz.f117.results.toList R) (nthV [v0, v1]) w = F_impl_folder_branches PP v0 v1 w R := by kernel_rfl
theorem c_impl_folder_branches {v0 v1 : Value} {w : World} {R : Value → World → Prop} (h : F_impl_folder_branches PP v0 v1 w R) : vcall PP n_impl_folder_branches #[v0, v1] w R :=
  call_of_vc (T := A_impl_folder_branches) (c := (Tryz.f117.body).getD .skip) (n := 66) mixed Tryz.func117 rfl rfl (by kernel_rfl) (by kernel_rfl) rfl (by rw [k_impl_folder_branches]; exact h)
def F_impl_folder_truths (P : Program) (v0 v1 : Value) (w : World) (R : Value → World → Prop) : Prop :=
 vbox P T_impl_folder v0 w fun _ w_1 =>
 vbox P T_impl_Term v1 w_1 fun t3 w_2 =>
 valloc P T_impl_Term w_2 fun t4 w_3 =>
 vload P T_impl_Term t3 w_3 fun t10 w_4 =>
 vbuildS P T_Lint 2 [(0, (.int .i64 26)), (1, (.int .i64 27))] w_4 fun t11 w_5 =>
 vcall P n_impl_among #[t10, t11] w_5 fun t12 w_6 =>
 vun P .not t12 w_6 fun t13 w_7 =>
 vif t13 (
 vbuild P T_impl_Term [] w_7 fun t14 w_8 =>
 vstore P T_impl_Term t4 t14 w_8 fun _ w_9 =>
 vlv P T_impl_Term t4 w_9 fun r4 w_10 =>
 R (.tuple #[r4, (.bool false)]) w_10) (
 vjoin (fun J =>
 vfaddr P T_impl_Term t3 0 w_7 fun t15 w_12 =>
 vload P T_int t15 w_12 fun t16 w_13 =>
 vbin P .eql T_int true t16 (.int .i64 27) w_13 fun t17 w_14 =>
 vif t17 (
 J [(.int .i64 0), (.int .i64 1)] w_14) (
 J [(.int .i64 1), (.int .i64 0)] w_14)) (fun u _ w_11 =>
 vjoin (fun J_1 =>
 vdraw w_11 fun w_16 =>
 vfaddr P T_impl_Term t3 4 w_16 fun t18 w_17 => w_17 = w_16 ∧
 vload P T_Limpl_Term t18 w_16 fun t19 w_18 => w_18 = w_16 ∧
 viaddr P T_Limpl_Term t19 (.int .i64 0) w_16 fun t20 w_19 => w_19 = w_16 ∧
 vload P T_impl_Term t20 w_16 fun t21 w_20 => w_20 = w_16 ∧
 vfaddr P T_impl_Term t3 4 w_16 fun t22 w_21 => w_21 = w_16 ∧
 vload P T_Limpl_Term t22 w_16 fun t23 w_22 => w_22 = w_16 ∧
 viaddr P T_Limpl_Term t23 (.int .i64 1) w_16 fun t24 w_23 => w_23 = w_16 ∧
 vload P T_impl_Term t24 w_16 fun t25 w_24 => w_24 = w_16 ∧
 (valloc P T_impl_Term w_16 fun t8 w_25 => (vload P T_impl_Term t24 w_25 fun v x => v = t25 ∧ x = w_25) ∧ (viaddr P T_Limpl_Term t23 (.int .i64 1) w_25 fun v x => v = t24 ∧ x = w_25) ∧ (vload P T_Limpl_Term t22 w_25 fun v x => v = t23 ∧ x = w_25) ∧ (vfaddr P T_impl_Term t3 4 w_25 fun v x => v = t22 ∧ x = w_25) ∧ (vload P T_impl_Term t20 w_25 fun v x => v = t21 ∧ x = w_25) ∧ (viaddr P T_Limpl_Term t19 (.int .i64 0) w_25 fun v x => v = t20 ∧ x = w_25) ∧ (vload P T_Limpl_Term t18 w_25 fun v x => v = t19 ∧ x = w_25) ∧ (vfaddr P T_impl_Term t3 4 w_25 fun v x => v = t18 ∧ x = w_25) ∧
 (valloc P T_impl_Term w_25 fun t9 w_26 => (vload P T_impl_Term t24 w_26 fun v x => v = t25 ∧ x = w_26) ∧ (viaddr P T_Limpl_Term t23 (.int .i64 1) w_26 fun v x => v = t24 ∧ x = w_26) ∧ (vload P T_Limpl_Term t22 w_26 fun v x => v = t23 ∧ x = w_26) ∧ (vfaddr P T_impl_Term t3 4 w_26 fun v x => v = t22 ∧ x = w_26) ∧ (vload P T_impl_Term t20 w_26 fun v x => v = t21 ∧ x = w_26) ∧ (viaddr P T_Limpl_Term t19 (.int .i64 0) w_26 fun v x => v = t20 ∧ x = w_26) ∧ (vload P T_Limpl_Term t18 w_26 fun v x => v = t19 ∧ x = w_26) ∧ (vfaddr P T_impl_Term t3 4 w_26 fun v x => v = t18 ∧ x = w_26) ∧
 (vstore P T_impl_Term t8 t21 w_26 fun _ w_27 => (vload P T_impl_Term t24 w_27 fun v x => v = t25 ∧ x = w_27) ∧ (viaddr P T_Limpl_Term t23 (.int .i64 1) w_27 fun v x => v = t24 ∧ x = w_27) ∧ (vload P T_Limpl_Term t22 w_27 fun v x => v = t23 ∧ x = w_27) ∧ (vfaddr P T_impl_Term t3 4 w_27 fun v x => v = t22 ∧ x = w_27) ∧
 (vstore P T_impl_Term t9 t25 w_27 fun _ w_28 =>
 J_1 [t8, t9] w_28) ∧
 True) ∧
 True) ∧
 True) ∧
 (valloc P T_impl_Term w_16 fun t9_1 w_29 => (vload P T_impl_Term t24 w_29 fun v x => v = t25 ∧ x = w_29) ∧ (viaddr P T_Limpl_Term t23 (.int .i64 1) w_29 fun v x => v = t24 ∧ x = w_29) ∧ (vload P T_Limpl_Term t22 w_29 fun v x => v = t23 ∧ x = w_29) ∧ (vfaddr P T_impl_Term t3 4 w_29 fun v x => v = t22 ∧ x = w_29) ∧ (vload P T_impl_Term t20 w_29 fun v x => v = t21 ∧ x = w_29) ∧ (viaddr P T_Limpl_Term t19 (.int .i64 0) w_29 fun v x => v = t20 ∧ x = w_29) ∧ (vload P T_Limpl_Term t18 w_29 fun v x => v = t19 ∧ x = w_29) ∧ (vfaddr P T_impl_Term t3 4 w_29 fun v x => v = t18 ∧ x = w_29) ∧
 (valloc P T_impl_Term w_29 fun t8_1 w_30 => (vload P T_impl_Term t24 w_30 fun v x => v = t25 ∧ x = w_30) ∧ (viaddr P T_Limpl_Term t23 (.int .i64 1) w_30 fun v x => v = t24 ∧ x = w_30) ∧ (vload P T_Limpl_Term t22 w_30 fun v x => v = t23 ∧ x = w_30) ∧ (vfaddr P T_impl_Term t3 4 w_30 fun v x => v = t22 ∧ x = w_30) ∧ (vload P T_impl_Term t20 w_30 fun v x => v = t21 ∧ x = w_30) ∧ (viaddr P T_Limpl_Term t19 (.int .i64 0) w_30 fun v x => v = t20 ∧ x = w_30) ∧ (vload P T_Limpl_Term t18 w_30 fun v x => v = t19 ∧ x = w_30) ∧ (vfaddr P T_impl_Term t3 4 w_30 fun v x => v = t18 ∧ x = w_30) ∧
 (vstore P T_impl_Term t8_1 t21 w_30 fun _ w_31 => (vload P T_impl_Term t24 w_31 fun v x => v = t25 ∧ x = w_31) ∧ (viaddr P T_Limpl_Term t23 (.int .i64 1) w_31 fun v x => v = t24 ∧ x = w_31) ∧ (vload P T_Limpl_Term t22 w_31 fun v x => v = t23 ∧ x = w_31) ∧ (vfaddr P T_impl_Term t3 4 w_31 fun v x => v = t22 ∧ x = w_31) ∧
 (vstore P T_impl_Term t9_1 t25 w_31 fun _ w_32 =>
 J_1 [t8_1, t9_1] w_32) ∧
 True) ∧
 True) ∧
 True) ∧
 True) (fun u_1 _ w_15 =>
 vjoin (fun J_2 =>
 vjoin (fun J_3 =>
 vload P T_impl_Term (sl 0 u_1) w_15 fun t27 w_35 =>
 vcall P n_impl_is #[t27, (sl 0 u)] w_35 fun t29 w_36 =>
 vif t29 (
 J_3 [(.bool true)] w_36) (
 vload P T_impl_Term (sl 0 u_1) w_36 fun t31 w_37 =>
 vload P T_impl_Term (sl 1 u_1) w_37 fun t32 w_38 =>
 vcall P n_impl_TermSame #[t31, t32] w_38 fun t33 w_39 =>
 J_3 [t33] w_39)) (fun u_3 _ w_34 =>
 vif (sl 0 u_3) (
 vload P T_impl_Term (sl 1 u_1) w_34 fun t35 w_40 =>
 vstore P T_impl_Term t4 t35 w_40 fun _ w_41 =>
 vlv P T_impl_Term t4 w_41 fun r4_1 w_42 =>
 R (.tuple #[r4_1, (.bool true)]) w_42) (
 vload P T_impl_Term (sl 1 u_1) w_34 fun t37 w_43 =>
 vcall P n_impl_is #[t37, (sl 0 u)] w_43 fun t39 w_44 =>
 vif t39 (
 vload P T_impl_Term (sl 0 u_1) w_44 fun t40 w_45 =>
 vstore P T_impl_Term t4 t40 w_45 fun _ w_46 =>
 vlv P T_impl_Term t4 w_46 fun r4_2 w_47 =>
 R (.tuple #[r4_2, (.bool true)]) w_47) (
 J_2 [] w_44)))) (fun _ _ w_33 =>
 vload P T_impl_Term (sl 0 u_1) w_33 fun t41 w_48 =>
 vcall P n_impl_is #[t41, (sl 1 u)] w_48 fun t43 w_49 =>
 vif t43 (
 vcall P n_impl_constant #[(.int .i64 0), (sl 1 u)] w_49 fun t50 w_50 =>
 vcall P n_impl_chosen #[(.bool true), t50] w_50 fun t51 w_51 =>
 vextract P t51 0 w_51 fun t52 w_52 =>
 vextract P t51 1 w_52 fun t53 w_53 =>
 vstore P T_impl_Term t4 t52 w_53 fun _ w_54 =>
 vlv P T_impl_Term t4 w_54 fun r4_3 w_55 =>
 R (.tuple #[r4_3, t53]) w_55) (
 vload P T_impl_Term (sl 1 u_1) w_49 fun t45 w_56 =>
 vcall P n_impl_is #[t45, (sl 1 u)] w_56 fun t47 w_57 =>
 vcall P n_impl_constant #[(.int .i64 0), (sl 1 u)] w_57 fun t50_1 w_58 =>
 vcall P n_impl_chosen #[t47, t50_1] w_58 fun t51_1 w_59 =>
 vextract P t51_1 0 w_59 fun t52_1 w_60 =>
 vextract P t51_1 1 w_60 fun t53_1 w_61 =>
 vstore P T_impl_Term t4 t52_1 w_61 fun _ w_62 =>
 vlv P T_impl_Term t4 w_62 fun r4_4 w_63 =>
 R (.tuple #[r4_4, t53_1]) w_63)))))
def A_impl_folder_truths : Ann := { ord := [], loops := [], cuts := [(20486, [6, 7]), (28679, [8, 9]), (32779, []), (32776, [26])], trees := [(6, (.st 0 (.st 1 (.st 2 (.st 3 (.st 4 (.st 5 (.st 6 (.st 7 (.alt 8 (.alt 9 (.alt 10 (.alt 11 .nil .no) .no) .no) (.alt 9 (.alt 8 (.alt 10 (.alt 11 .nil .no) .no) .no) .no)))))))))), [(0, [1, 2, 3, 10, 11]), (1, [2, 3, 10, 11]), (2, [3, 10, 11]), (3, [10, 11]), (4, [5, 6, 7, 11]), (5, [6, 7, 11]), (6, [7, 11]), (7, [11]), (8, [10, 11]), (9, [10, 11]), (10, [11])])] }
theorem k_impl_folder_truths (v0 v1 : Value) (w : World) (R : Value → World → Prop) : vc PP A_impl_folder_truths ((Tryz.f118.body).getD .skip) (retF PP Tryz.f118.results.toList R) (nthV [v0, v1]) w = F_impl_folder_truths PP v0 v1 w R := by kernel_rfl
theorem c_impl_folder_truths {v0 v1 : Value} {w : World} {R : Value → World → Prop} (h : F_impl_folder_truths PP v0 v1 w R) : vcall PP n_impl_folder_truths #[v0, v1] w R :=
  call_of_vc (T := A_impl_folder_truths) (c := (Tryz.f118.body).getD .skip) (n := 54) mixed Tryz.func118 rfl rfl (by kernel_rfl) (by kernel_rfl) rfl (by rw [k_impl_folder_truths]; exact h)
def F_impl_folder_layers (P : Program) (v0 v1 : Value) (w : World) (R : Value → World → Prop) : Prop :=
 vbox P T_impl_folder v0 w fun t2 w_1 =>
 vbox P T_impl_Term v1 w_1 fun t3 w_2 =>
 valloc P T_impl_Term w_2 fun t4 w_3 =>
 vfaddr P T_impl_Term t3 0 w_3 fun t6 w_4 =>
 vload P T_int t6 w_4 fun t7 w_5 =>
 vbin P .eql T_int true t7 (.int .i64 22) w_5 fun t9 w_6 =>
 vif t9 (
 vdraw w_6 fun w_7 =>
 vfaddr P T_impl_Term t3 2 w_7 fun t10 w_8 => w_8 = w_7 ∧
 vload P T_int t10 w_7 fun t11 w_9 => w_9 = w_7 ∧
 vbin P .eql T_int true t11 (.int .i64 0) w_7 fun t12 w_10 => w_10 = w_7 ∧
 vif t12 (
 vfaddr P T_impl_Term t3 1 w_7 fun t14 w_11 => w_11 = w_7 ∧
 vload P T_int t14 w_7 fun t15 w_12 => w_12 = w_7 ∧
 vload P T_impl_folder t2 w_7 fun t16 w_13 => w_13 = w_7 ∧
 vfaddr P T_impl_Term t3 4 w_7 fun t17 w_14 => w_14 = w_7 ∧
 vload P T_Limpl_Term t17 w_7 fun t18 w_15 => w_15 = w_7 ∧
 viaddr P T_Limpl_Term t18 (.int .i64 0) w_7 fun t19 w_16 => w_16 = w_7 ∧
 vload P T_impl_Term t19 w_7 fun t20 w_17 => w_17 = w_7 ∧
 vfaddr P T_impl_Term t3 4 w_7 fun t25 w_18 => w_18 = w_7 ∧
 vload P T_Limpl_Term t25 w_7 fun t26 w_19 => w_19 = w_7 ∧
 viaddr P T_Limpl_Term t26 (.int .i64 0) w_7 fun t27 w_20 => w_20 = w_7 ∧
 vload P T_impl_Term t27 w_7 fun t28 w_21 => w_21 = w_7 ∧
 vcall P n_impl_folder_sort #[t16, t20] w_7 fun t21 w_22 => (vload P T_impl_Term t27 w_22 fun v x => v = t28 ∧ x = w_22) ∧ (viaddr P T_Limpl_Term t26 (.int .i64 0) w_22 fun v x => v = t27 ∧ x = w_22) ∧ (vload P T_Limpl_Term t25 w_22 fun v x => v = t26 ∧ x = w_22) ∧ (vfaddr P T_impl_Term t3 4 w_22 fun v x => v = t25 ∧ x = w_22) ∧ (vload P T_int t14 w_22 fun v x => v = t15 ∧ x = w_22) ∧ (vfaddr P T_impl_Term t3 1 w_22 fun v x => v = t14 ∧ x = w_22) ∧
 vbin P .sub T_int true t21 (.int .i64 1) w_22 fun t22 w_23 => w_23 = w_22 ∧
 vbin P .eql T_int false t15 t22 w_22 fun t23 w_24 => w_24 = w_22 ∧
 vcall P n_impl_chosen #[t23, t28] w_22 fun t29 w_25 =>
 vextract P t29 0 w_25 fun t30 w_26 => w_26 = w_25 ∧
 vextract P t29 1 w_25 fun t31 w_27 => w_27 = w_25 ∧
 vstore P T_impl_Term t4 t30 w_25 fun _ w_28 =>
 vlv P T_impl_Term t4 w_28 fun r4 w_29 =>
 R (.tuple #[r4, t31]) w_29) (
 vfaddr P T_impl_Term t3 4 w_7 fun t25_1 w_30 => w_30 = w_7 ∧
 vload P T_Limpl_Term t25_1 w_7 fun t26_1 w_31 => w_31 = w_7 ∧
 viaddr P T_Limpl_Term t26_1 (.int .i64 0) w_7 fun t27_1 w_32 => w_32 = w_7 ∧
 vload P T_impl_Term t27_1 w_7 fun t28_1 w_33 => w_33 = w_7 ∧
 vcall P n_impl_chosen #[(.bool false), t28_1] w_7 fun t29_1 w_34 =>
 vextract P t29_1 0 w_34 fun t30_1 w_35 => w_35 = w_34 ∧
 vextract P t29_1 1 w_34 fun t31_1 w_36 => w_36 = w_34 ∧
 vstore P T_impl_Term t4 t30_1 w_34 fun _ w_37 =>
 vlv P T_impl_Term t4 w_37 fun r4_1 w_38 =>
 R (.tuple #[r4_1, t31_1]) w_38)) (
 vjoin (fun J =>
 vbin P .eql T_int true t7 (.int .i64 1) w_6 fun t33 w_40 =>
 vif t33 (
 J [t33] w_40) (
 vbin P .eql T_int true t7 (.int .i64 2) w_40 fun t34 w_41 =>
 J [t34] w_41)) (fun u _ w_39 =>
 vif (sl 0 u) (
 vdraw w_39 fun w_42 =>
 vfaddr P T_impl_Term t3 4 w_42 fun t35 w_43 => w_43 = w_42 ∧
 vload P T_Limpl_Term t35 w_42 fun t36 w_44 => w_44 = w_42 ∧
 viaddr P T_Limpl_Term t36 (.int .i64 0) w_42 fun t37 w_45 => w_45 = w_42 ∧
 vfaddr P T_impl_Term t37 0 w_42 fun t38 w_46 => w_46 = w_42 ∧
 vload P T_int t38 w_42 fun t39 w_47 => w_47 = w_42 ∧
 vfaddr P T_impl_Term t3 0 w_42 fun t40 w_48 => w_48 = w_42 ∧
 vload P T_int t40 w_42 fun t41 w_49 => w_49 = w_42 ∧
 vbin P .eql T_int false t39 t41 w_42 fun t42 w_50 => w_50 = w_42 ∧
 vif t42 (
 vfaddr P T_impl_Term t3 4 w_42 fun t43 w_51 =>
 vload P T_Limpl_Term t43 w_51 fun t44 w_52 =>
 viaddr P T_Limpl_Term t44 (.int .i64 0) w_52 fun t45 w_53 =>
 vfaddr P T_impl_Term t45 4 w_53 fun t46 w_54 =>
 vload P T_Limpl_Term t46 w_54 fun t47 w_55 =>
 viaddr P T_Limpl_Term t47 (.int .i64 0) w_55 fun t48 w_56 =>
 vload P T_impl_Term t48 w_56 fun t49 w_57 =>
 vstore P T_impl_Term t4 t49 w_57 fun _ w_58 =>
 vlv P T_impl_Term t4 w_58 fun r4_2 w_59 =>
 R (.tuple #[r4_2, (.bool true)]) w_59) (
 vbuild P T_impl_Term [] w_42 fun t50 w_60 =>
 vstore P T_impl_Term t4 t50 w_60 fun _ w_61 =>
 vlv P T_impl_Term t4 w_61 fun r4_3 w_62 =>
 R (.tuple #[r4_3, (.bool false)]) w_62)) (
 vbuild P T_impl_Term [] w_39 fun t50_1 w_63 =>
 vstore P T_impl_Term t4 t50_1 w_63 fun _ w_64 =>
 vlv P T_impl_Term t4 w_64 fun r4_4 w_65 =>
 R (.tuple #[r4_4, (.bool false)]) w_65)))
def A_impl_folder_layers : Ann := { ord := [(3, [0, 1, 2, 3, 4, 5, 6, 7, 8, 9, 10, 15, 16, 17, 18, 11, 12, 13, 14, 19, 20, 21, 22, 23], [(0, [1, 2, 3, 4, 5, 6, 7, 8, 9, 10, 11, 12, 13, 14, 19, 20, 21, 22, 23]), (1, [2, 3, 4, 5, 6, 7, 8, 9, 10, 11, 12, 13, 14, 19, 20, 21, 22, 23]), (2, [3, 4, 5, 6, 7, 8, 9, 10, 11, 12, 13, 14, 19, 20, 21, 22, 23]), (3, [4, 5, 6, 7, 8, 9, 10, 11, 12, 13, 14, 19, 20, 21, 22, 23]), (4, [5, 13, 14, 19, 20, 21, 22, 23]), (5, [13, 14, 19, 20, 21, 22, 23]), (6, [11, 12, 13, 14, 19, 20, 21, 22, 23]), (7, [8, 9, 10, 11, 12, 13, 14, 19, 20, 21, 22, 23]), (8, [9, 10, 11, 12, 13, 14, 19, 20, 21, 22, 23]), (9, [10, 11, 12, 13, 14, 19, 20, 21, 22, 23]), (10, [11, 12, 13, 14, 19, 20, 21, 22, 23]), (15, [16, 17, 18, 19, 20, 21, 22, 23]), (16, [17, 18, 19, 20, 21, 22, 23]), (17, [18, 19, 20, 21, 22, 23]), (18, [19, 20, 21, 22, 23]), (11, [12, 13, 14, 19, 20, 21, 22, 23]), (12, [13, 14, 19, 20, 21, 22, 23]), (13, [14, 19, 20, 21, 22, 23]), (14, [19, 20, 21, 22, 23]), (19, [20, 21, 22, 23]), (20, [22, 23]), (21, [22, 23]), (22, [23])]), (6, [0, 1, 2, 3, 4, 5, 6, 7], [(0, [1, 2, 3, 4, 7]), (1, [2, 3, 4, 7]), (2, [3, 4, 7]), (3, [4, 7]), (4, [7]), (5, [6, 7]), (6, [7])])], loops := [], cuts := [(20486, [32])] }
theorem k_impl_folder_layers (v0 v1 : Value) (w : World) (R : Value → World → Prop) : vc PP A_impl_folder_layers ((Tryz.f119.body).getD .skip) (retF PP Tryz.f119.results.toList R) (nthV [v0, v1]) w = F_impl_folder_layers PP v0 v1 w R := by kernel_rfl
theorem c_impl_folder_layers {v0 v1 : Value} {w : World} {R : Value → World → Prop} (h : F_impl_folder_layers PP v0 v1 w R) : vcall PP n_impl_folder_layers #[v0, v1] w R :=
  call_of_vc (T := A_impl_folder_layers) (c := (Tryz.f119.body).getD .skip) (n := 51) mixed Tryz.func119 rfl rfl (by kernel_rfl) (by kernel_rfl) rfl (by rw [k_impl_folder_layers]; exact h)
def F_impl_folder_twins (P : Program) (v0 v1 : Value) (w : World) (R : Value → World → Prop) : Prop :=
 vbox P T_impl_folder v0 w fun t2 w_1 =>
 vbox P T_impl_Term v1 w_1 fun t3 w_2 =>
 valloc P T_impl_Term w_2 fun t4 w_3 =>
 vjoin (fun J =>
 vdraw w_3 fun w_5 =>
 vfaddr P T_impl_Term t3 4 w_5 fun t6 w_6 => w_6 = w_5 ∧
 vload P T_Limpl_Term t6 w_5 fun t7 w_7 => w_7 = w_5 ∧
 vbi P .len [T_Limpl_Term] T_int [t7] w_5 fun t8 w_8 => w_8 = w_5 ∧
 vbin P .neq T_int true t8 (.int .i64 2) w_5 fun t9 w_9 => w_9 = w_5 ∧
 vif t9 (
 vbuild P T_impl_Term [] w_5 fun t22 w_10 =>
 vstore P T_impl_Term t4 t22 w_10 fun _ w_11 =>
 vlv P T_impl_Term t4 w_11 fun r4 w_12 =>
 R (.tuple #[r4, (.bool false)]) w_12) (
 vfaddr P T_impl_Term t3 4 w_5 fun t11 w_13 => w_13 = w_5 ∧
 vload P T_Limpl_Term t11 w_5 fun t12 w_14 => w_14 = w_5 ∧
 viaddr P T_Limpl_Term t12 (.int .i64 0) w_5 fun t13 w_15 => w_15 = w_5 ∧
 vload P T_impl_Term t13 w_5 fun t14 w_16 => w_16 = w_5 ∧
 vfaddr P T_impl_Term t3 4 w_5 fun t15 w_17 => w_17 = w_5 ∧
 vload P T_Limpl_Term t15 w_5 fun t16 w_18 => w_18 = w_5 ∧
 viaddr P T_Limpl_Term t16 (.int .i64 1) w_5 fun t17 w_19 => w_19 = w_5 ∧
 vload P T_impl_Term t17 w_5 fun t18 w_20 => w_20 = w_5 ∧
 vcall P n_impl_TermSame #[t14, t18] w_5 fun t19 w_21 =>
 vun P .not t19 w_21 fun t20 w_22 => w_22 = w_21 ∧
 vif t20 (
 vbuild P T_impl_Term [] w_21 fun t22_1 w_23 =>
 vstore P T_impl_Term t4 t22_1 w_23 fun _ w_24 =>
 vlv P T_impl_Term t4 w_24 fun r4_1 w_25 =>
 R (.tuple #[r4_1, (.bool false)]) w_25) (
 J [] w_21))) (fun _ _ w_4 =>
 vfaddr P T_impl_Term t3 0 w_4 fun t23 w_26 =>
 vload P T_int t23 w_26 fun t24 w_27 =>
 vjoin (fun J_1 =>
 vbin P .eql T_int true t24 (.int .i64 3) w_27 fun t26 w_29 =>
 vif t26 (
 J_1 [t26] w_29) (
 vbin P .eql T_int true t24 (.int .i64 4) w_29 fun t27 w_30 =>
 J_1 [t27] w_30)) (fun u_1 _ w_28 =>
 vif (sl 0 u_1) (
 vfaddr P T_impl_Term t3 4 w_28 fun t28 w_31 =>
 vload P T_Limpl_Term t28 w_31 fun t29 w_32 =>
 viaddr P T_Limpl_Term t29 (.int .i64 0) w_32 fun t30 w_33 =>
 vload P T_impl_Term t30 w_33 fun t31 w_34 =>
 vstore P T_impl_Term t4 t31 w_34 fun _ w_35 =>
 vlv P T_impl_Term t4 w_35 fun r4_2 w_36 =>
 R (.tuple #[r4_2, (.bool true)]) w_36) (
 vjoin (fun J_2 =>
 vbin P .eql T_int true t24 (.int .i64 5) w_28 fun t33 w_38 =>
 vif t33 (
 J_2 [t33] w_38) (
 vbin P .eql T_int true t24 (.int .i64 7) w_38 fun t34 w_39 =>
 J_2 [t34] w_39)) (fun u_2 _ w_37 =>
 vif (sl 0 u_2) (
 vload P T_impl_folder t2 w_37 fun t35 w_40 =>
 vload P T_impl_Term t3 w_40 fun t36 w_41 =>
 vcall P n_impl_folder_sort #[t35, t36] w_41 fun t37 w_42 =>
 vcall P n_impl_constant #[t37, (.int .i64 0)] w_42 fun t38 w_43 =>
 vstore P T_impl_Term t4 t38 w_43 fun _ w_44 =>
 vlv P T_impl_Term t4 w_44 fun r4_3 w_45 =>
 R (.tuple #[r4_3, (.bool true)]) w_45) (
 vbin P .eql T_int true t24 (.int .i64 15) w_37 fun t40 w_46 =>
 vif t40 (
 vcall P n_impl_constant #[(.int .i64 0), (.int .i64 1)] w_46 fun t41 w_47 =>
 vstore P T_impl_Term t4 t41 w_47 fun _ w_48 =>
 vlv P T_impl_Term t4 w_48 fun r4_4 w_49 =>
 R (.tuple #[r4_4, (.bool true)]) w_49) (
 vbin P .eql T_int true t24 (.int .i64 16) w_46 fun t43 w_50 =>
 vif t43 (
 vif t43 (
 vcall P n_impl_constant #[(.int .i64 0), (.int .i64 0)] w_50 fun t45 w_51 =>
 vstore P T_impl_Term t4 t45 w_51 fun _ w_52 =>
 vlv P T_impl_Term t4 w_52 fun r4_5 w_53 =>
 R (.tuple #[r4_5, (.bool true)]) w_53) (
 vbuild P T_impl_Term [] w_50 fun t46 w_54 =>
 vstore P T_impl_Term t4 t46 w_54 fun _ w_55 =>
 vlv P T_impl_Term t4 w_55 fun r4_6 w_56 =>
 R (.tuple #[r4_6, (.bool false)]) w_56)) (
 vbin P .eql T_int true t24 (.int .i64 17) w_50 fun t44 w_57 =>
 vif t44 (
 vcall P n_impl_constant #[(.int .i64 0), (.int .i64 0)] w_57 fun t45_1 w_58 =>
 vstore P T_impl_Term t4 t45_1 w_58 fun _ w_59 =>
 vlv P T_impl_Term t4 w_59 fun r4_7 w_60 =>
 R (.tuple #[r4_7, (.bool true)]) w_60) (
 vbuild P T_impl_Term [] w_57 fun t46_1 w_61 =>
 vstore P T_impl_Term t4 t46_1 w_61 fun _ w_62 =>
 vlv P T_impl_Term t4 w_62 fun r4_8 w_63 =>
 R (.tuple #[r4_8, (.bool false)]) w_63))))))))
def A_impl_folder_twins : Ann := { ord := [(1, [0, 1, 2, 3, 4, 5, 6, 7, 8, 9, 10, 11, 12, 13, 14, 15], [(0, [1, 2, 3, 4, 5, 6, 7, 8, 9, 10, 11, 12, 13, 14, 15]), (1, [2, 3, 4, 5, 6, 7, 8, 9, 10, 11, 12, 13, 14, 15]), (2, [3, 4, 5, 6, 7, 8, 9, 10, 11, 12, 13, 14, 15]), (3, [4, 5, 6, 7, 8, 9, 10, 11, 12, 13, 14, 15]), (4, [5, 6, 7, 8, 9, 10, 11, 12, 13, 14, 15]), (5, [6, 7, 8, 13, 14, 15]), (6, [7, 8, 13, 14, 15]), (7, [8, 13, 14, 15]), (8, [13, 14, 15]), (9, [10, 11, 12, 13, 14, 15]), (10, [11, 12, 13, 14, 15]), (11, [12, 13, 14, 15]), (12, [13, 14, 15]), (13, [14, 15]), (14, [15])])], loops := [], cuts := [(8195, []), (20486, [25]), (32777, [32])] }
theorem k_impl_folder_twins (v0 v1 : Value) (w : World) (R : Value → World → Prop) : vc PP A_impl_folder_twins ((Tryz.f120.body).getD .skip) (retF PP Tryz.f120.results.toList R) (nthV [v0, v1]) w = F_impl_folder_twins PP v0 v1 w R := by kernel_rfl
theorem c_impl_folder_twins {v0 v1 : Value} {w : World} {R : Value → World → Prop} (h : F_impl_folder_twins PP v0 v1 w R) : vcall PP n_impl_folder_twins #[v0, v1] w R :=
  call_of_vc (T := A_impl_folder_twins) (c := (Tryz.f120.body).getD .skip) (n := 47) mixed Tryz.func120 rfl rfl (by kernel_rfl) (by kernel_rfl) rfl (by rw [k_impl_folder_twins]; exact h)
end Go.Proofs.YtcfgmgjofmbfhaaGreatDoor
end
