import Derived.Test.YtcfgmgjofmbfhaaGreatDoorWsgP2
/- A part of the proof: F0, F1. -/
set_option linter.unusedVariables false
set_option linter.unusedSimpArgs false
set_option linter.unnecessarySimpa false
set_option linter.unusedSectionVars false
section
namespace Go.Proofs.YtcfgmgjofmbfhaaGreatDoor
open Go Go.Vc Go.Proofs
def F_laws_FnFoldKids (P : Program) (v0 : Value) (w : World) (R : Value → World → Prop) : Prop :=
 vbi P .len [T_Luint8] T_int [v0] w fun t9 w_1 =>
 vbin P .gtr T_int true t9 (.int .i64 1048576) w_1 fun t10 w_2 =>
 vif t10 (
 R (.bool true) w_2) (
 vcall P n_spec_DrawTermFold #[v0] w_2 fun t13 w_3 =>
 vextract P t13 0 w_3 fun t14 w_4 =>
 vextract P t13 1 w_4 fun t15 w_5 =>
 valloc P T_impl_Term w_5 fun t4 w_6 =>
 vstore P T_impl_Term t4 t15 w_6 fun _ w_7 =>
 vload P T_impl_Term t4 w_7 fun t17 w_8 =>
 vcall P n_impl_TermFold #[t14, t17] w_8 fun t18 w_9 =>
 valloc P T_impl_Term w_9 fun t5 w_10 =>
 vstore P T_impl_Term t5 t18 w_10 fun _ w_11 =>
 vjoin (fun J =>
 vdraw w_11 fun w_13 =>
 vload P T_impl_Term t5 w_13 fun t19 w_14 => w_14 = w_13 ∧
 vload P T_impl_Term t4 w_13 fun t21 w_15 => w_15 = w_13 ∧
 vcall P n_spec_TermFold #[t14, t21] w_13 fun t22 w_16 => (vload P T_impl_Term t5 w_16 fun v x => v = t19 ∧ x = w_16) ∧
 vcall P n_impl_TermSame #[t19, t22] w_16 fun t23 w_17 =>
 vun P .not t23 w_17 fun t24 w_18 => w_18 = w_17 ∧
 vif t24 (
 vdraw w_17 fun w_19 =>
 vload P T_impl_Term t5 w_19 fun t31 w_20 => w_20 = w_19 ∧
 vload P T_impl_Term t4 w_19 fun t33 w_21 => w_21 = w_19 ∧
 vcall P n_spec_TermFold #[t14, t33] w_19 fun t34 w_22 => (vload P T_impl_Term t5 w_22 fun v x => v = t31 ∧ x = w_22) ∧
 vcall P n_impl_TermSame #[t31, t34] w_22 fun t35 w_23 =>
 R t35 w_23) (
 vload P T_impl_Term t4 w_17 fun t27 w_24 => w_24 = w_17 ∧
 vcall P n_spec_TermSort #[t14, t27] w_17 fun t28 w_25 =>
 vbin P .lss T_int true t28 (.int .i64 0) w_25 fun t29 w_26 => w_26 = w_25 ∧
 vif t29 (
 vdraw w_25 fun w_27 =>
 vload P T_impl_Term t5 w_27 fun t31_1 w_28 => w_28 = w_27 ∧
 vload P T_impl_Term t4 w_27 fun t33_1 w_29 => w_29 = w_27 ∧
 vcall P n_spec_TermFold #[t14, t33_1] w_27 fun t34_1 w_30 => (vload P T_impl_Term t5 w_30 fun v x => v = t31_1 ∧ x = w_30) ∧
 vcall P n_impl_TermSame #[t31_1, t34_1] w_30 fun t35_1 w_31 =>
 R t35_1 w_31) (
 J [] w_25))) (fun _ _ w_12 =>
 vload P T_impl_Term t4 w_12 fun t36 w_32 =>
 valloc P T_impl_Term w_32 fun t6 w_33 =>
 vstore P T_impl_Term t6 t36 w_33 fun _ w_34 =>
 vfaddr P T_impl_Term t6 4 w_34 fun t37 w_35 =>
 vstore P T_Limpl_Term t37 (.slice none 0 0) w_35 fun _ w_36 =>
 vloop [(.int .i64 0)] w_36 fun C u_1 _ w_37 =>
 vfaddr P T_impl_Term t4 4 w_37 fun t39 w_38 =>
 vload P T_Limpl_Term t39 w_38 fun t40 w_39 =>
 vbi P .len [T_Limpl_Term] T_int [t40] w_39 fun t41 w_40 =>
 vbin P .lss T_int false (sl 0 u_1) t41 w_40 fun t42 w_41 =>
 vif t42 (
 vdraw w_41 fun w_42 =>
 vfaddr P T_impl_Term t6 4 w_42 fun t45 w_43 => w_43 = w_42 ∧
 vload P T_Limpl_Term t45 w_42 fun t46 w_44 => w_44 = w_42 ∧
 vfaddr P T_impl_Term t4 4 w_42 fun t48 w_45 => w_45 = w_42 ∧
 vload P T_Limpl_Term t48 w_42 fun t49 w_46 => w_46 = w_42 ∧
 viaddr P T_Limpl_Term t49 (sl 0 u_1) w_42 fun t51 w_47 => w_47 = w_42 ∧
 vload P T_impl_Term t51 w_42 fun t52 w_48 => w_48 = w_42 ∧
 vcall P n_impl_TermFold #[t14, t52] w_42 fun t53 w_49 => (vload P T_Limpl_Term t45 w_49 fun v x => v = t46 ∧ x = w_49) ∧ (vfaddr P T_impl_Term t6 4 w_49 fun v x => v = t45 ∧ x = w_49) ∧
 vbuildS P T_Limpl_Term 1 [(0, t53)] w_49 fun t54 w_50 => (vload P T_Limpl_Term t45 w_50 fun v x => v = t46 ∧ x = w_50) ∧ (vfaddr P T_impl_Term t6 4 w_50 fun v x => v = t45 ∧ x = w_50) ∧
 vbi P .append [T_Limpl_Term, T_Limpl_Term] T_Limpl_Term [t46, t54] w_50 fun t55 w_51 =>
 vfaddr P T_impl_Term t6 4 w_51 fun t56 w_52 => w_52 = w_51 ∧
 vstore P T_Limpl_Term t56 t55 w_51 fun _ w_53 =>
 vbin P .add T_int true (sl 0 u_1) (.int .i64 1) w_53 fun t44 w_54 =>
 C [t44] w_54) (
 vdraw w_41 fun w_55 =>
 vload P T_impl_Term t6 w_55 fun t58 w_56 => w_56 = w_55 ∧
 vload P T_impl_Term t5 w_55 fun t60 w_57 => w_57 = w_55 ∧
 vcall P n_impl_TermOne #[t14, t58] w_55 fun t59 w_58 => (vload P T_impl_Term t5 w_58 fun v x => v = t60 ∧ x = w_58) ∧
 vcall P n_impl_TermSame #[t59, t60] w_58 fun t61 w_59 =>
 R t61 w_59)))
def A_laws_FnFoldKids : Ann := { ord := [(5, [0, 1, 2, 3, 4, 5, 6, 7, 8, 9, 10, 11], [(0, [4, 5, 6, 7, 8, 9, 10, 11]), (1, [3, 4, 5, 6, 7, 8, 9, 10, 11]), (2, [3, 4, 5, 6, 7, 8, 9, 10, 11]), (3, [4, 5, 6, 7, 8, 9, 10, 11]), (4, [5, 6, 7, 8, 9, 10, 11]), (5, [6, 7, 8, 9, 10, 11]), (6, [7, 8, 9, 10, 11]), (7, [9, 10, 11]), (8, [9, 10, 11]), (9, [10, 11]), (10, [11])]), (6, [0, 1, 2, 3, 4, 5], [(0, [4, 5]), (1, [3, 4, 5]), (2, [3, 4, 5]), (3, [4, 5]), (4, [5])]), (12, [0, 1, 2, 3, 4, 5, 6, 7, 8, 9, 10, 11, 12], [(0, [1, 10, 11, 12]), (1, [10, 11, 12]), (2, [8, 9, 10, 11, 12]), (3, [4, 6, 7, 8, 9, 10, 11, 12]), (4, [6, 7, 8, 9, 10, 11, 12]), (5, [6, 7, 8, 9, 10, 11, 12]), (6, [7, 8, 9, 10, 11, 12]), (7, [8, 9, 10, 11, 12]), (8, [9, 10, 11, 12]), (9, [10, 11, 12]), (10, [11, 12]), (11, [12])]), (13, [0, 1, 3, 2, 4, 5], [(0, [2, 4, 5]), (1, [2, 4, 5]), (3, [4, 5]), (2, [4, 5]), (4, [5])])], loops := [(10, [7])], cuts := [(24583, [])] }
theorem k_laws_FnFoldKids (v0 : Value) (w : World) (R : Value → World → Prop) : vc PP A_laws_FnFoldKids ((Tryz.f3.body).getD .skip) (retF PP Tryz.f3.results.toList R) (nthV [v0]) w = F_laws_FnFoldKids PP v0 w R := by kernel_rfl
theorem c_laws_FnFoldKids {v0 : Value} {w : World} {R : Value → World → Prop} (h : F_laws_FnFoldKids PP v0 w R) : vcall PP n_laws_FnFoldKids #[v0] w R :=
  call_of_vc (T := A_laws_FnFoldKids) (c := (Tryz.f3.body).getD .skip) (n := 62) mixed Tryz.func3 rfl rfl (by kernel_rfl) (by kernel_rfl) rfl (by rw [k_laws_FnFoldKids]; exact h)
def F_spec_DrawTermFold (P : Program) (v0 : Value) (w : World) (R : Value → World → Prop) : Prop :=
 valloc P T_impl_Term w fun t3 w_1 =>
 vcall P n_spec_l12Open #[v0] w_1 fun t5 w_2 =>
 vcall P n_spec_l3Draw #[t5] w_2 fun t6 w_3 =>
 vextract P t6 0 w_3 fun t7 w_4 =>
 vextract P t6 1 w_4 fun t8 w_5 =>
 vstore P T_impl_Term t3 t8 w_5 fun _ w_6 =>
 vlv P T_impl_Term t3 w_6 fun r3 w_7 =>
 R (.tuple #[t7, r3]) w_7
def A_spec_DrawTermFold : Ann := { ord := [], loops := [], cuts := [] }
theorem k_spec_DrawTermFold (v0 : Value) (w : World) (R : Value → World → Prop) : vc PP A_spec_DrawTermFold ((Tryz.f11.body).getD .skip) (retF PP Tryz.f11.results.toList R) (nthV [v0]) w = F_spec_DrawTermFold PP v0 w R := by kernel_rfl
theorem c_spec_DrawTermFold {v0 : Value} {w : World} {R : Value → World → Prop} (h : F_spec_DrawTermFold PP v0 w R) : vcall PP n_spec_DrawTermFold #[v0] w R :=
  call_of_vc (T := A_spec_DrawTermFold) (c := (Tryz.f11.body).getD .skip) (n := 9) mixed Tryz.func11 rfl rfl (by kernel_rfl) (by kernel_rfl) rfl (by rw [k_spec_DrawTermFold]; exact h)
def F_impl_TermFold (P : Program) (v0 v1 : Value) (w : World) (R : Value → World → Prop) : Prop :=
 vbox P T_impl_Term v1 w fun t3 w_1 =>
 valloc P T_impl_Term w_1 fun t4 w_2 =>
 vload P T_impl_Term t3 w_2 fun t6 w_3 =>
 vcall P n_impl_TermSort #[v0, t6] w_3 fun t7 w_4 =>
 vbin P .eql T_int true t7 (.int .i64 (-1)) w_4 fun t8 w_5 =>
 vif t8 (
 vbuild P T_impl_Term [] w_5 fun t9 w_6 =>
 vstore P T_impl_Term t4 t9 w_6 fun _ w_7 =>
 vlv P T_impl_Term t4 w_7 fun r4 w_8 =>
 R r4 w_8) (
 vdraw w_5 fun w_9 =>
 vload P T_impl_Term t3 w_9 fun t13 w_10 => w_10 = w_9 ∧
 vcall P n_impl_kinds #[] w_9 fun t11 w_11 => (vload P T_impl_Term t3 w_11 fun v x => v = t13 ∧ x = w_11) ∧
 vbuild P T_impl_folder [(0, v0), (1, t11)] w_11 fun t12 w_12 => w_12 = w_11 ∧
 vcall P n_impl_folder_fold #[t12, t13] w_11 fun t14 w_13 =>
 vcall P n_impl_copyTerm #[t14] w_13 fun t15 w_14 =>
 vstore P T_impl_Term t4 t15 w_14 fun _ w_15 =>
 vlv P T_impl_Term t4 w_15 fun r4_1 w_16 =>
 R r4_1 w_16)
def A_impl_TermFold : Ann := { ord := [(3, [0, 3, 1, 2, 4, 5, 6], [(0, [2, 4, 5, 6]), (3, [4, 5, 6]), (1, [2, 4, 5, 6]), (2, [4, 5, 6]), (4, [5, 6]), (5, [6])])], loops := [], cuts := [] }
theorem k_impl_TermFold (v0 v1 : Value) (w : World) (R : Value → World → Prop) : vc PP A_impl_TermFold ((Tryz.f12.body).getD .skip) (retF PP Tryz.f12.results.toList R) (nthV [v0, v1]) w = F_impl_TermFold PP v0 v1 w R := by kernel_rfl
theorem c_impl_TermFold {v0 v1 : Value} {w : World} {R : Value → World → Prop} (h : F_impl_TermFold PP v0 v1 w R) : vcall PP n_impl_TermFold #[v0, v1] w R :=
  call_of_vc (T := A_impl_TermFold) (c := (Tryz.f12.body).getD .skip) (n := 16) mixed Tryz.func12 rfl rfl (by kernel_rfl) (by kernel_rfl) rfl (by rw [k_impl_TermFold]; exact h)
def F_impl_TermSame (P : Program) (v0 v1 : Value) (w : World) (R : Value → World → Prop) : Prop :=
 vbox P T_impl_Term v0 w fun t2 w_1 =>
 vbox P T_impl_Term v1 w_1 fun t3 w_2 =>
 vfaddr P T_impl_Term t2 0 w_2 fun t5 w_3 =>
 vload P T_int t5 w_3 fun t6 w_4 =>
 vfaddr P T_impl_Term t3 0 w_4 fun t7 w_5 =>
 vload P T_int t7 w_5 fun t8 w_6 =>
 vbin P .eql T_int false t6 t8 w_6 fun t9 w_7 =>
 vif t9 (
 vfaddr P T_impl_Term t2 1 w_7 fun t11 w_8 =>
 vload P T_int t11 w_8 fun t12 w_9 =>
 vfaddr P T_impl_Term t3 1 w_9 fun t13 w_10 =>
 vload P T_int t13 w_10 fun t14 w_11 =>
 vbin P .eql T_int false t12 t14 w_11 fun t15 w_12 =>
 vif t15 (
 vfaddr P T_impl_Term t2 2 w_12 fun t18 w_13 =>
 vload P T_int t18 w_13 fun t19 w_14 =>
 vfaddr P T_impl_Term t3 2 w_14 fun t20 w_15 =>
 vload P T_int t20 w_15 fun t21 w_16 =>
 vbin P .eql T_int false t19 t21 w_16 fun t22 w_17 =>
 vif t22 (
 vfaddr P T_impl_Term t2 3 w_17 fun t25 w_18 =>
 vload P T_string t25 w_18 fun t26 w_19 =>
 vfaddr P T_impl_Term t3 3 w_19 fun t27 w_20 =>
 vload P T_string t27 w_20 fun t28 w_21 =>
 vbin P .eql T_string false t26 t28 w_21 fun t29 w_22 =>
 vif t29 (
 vfaddr P T_impl_Term t2 4 w_22 fun t32 w_23 =>
 vload P T_Limpl_Term t32 w_23 fun t33 w_24 =>
 vfaddr P T_impl_Term t3 4 w_24 fun t34 w_25 =>
 vload P T_Limpl_Term t34 w_25 fun t35 w_26 =>
 vcall P n_slices_EqualFunc_Limpl_Term_Limpl_Term_impl_Term_impl_Term #[t33, t35, (.func (.func n_impl_TermSame) #[] #[])] w_26 fun t36 w_27 =>
 R t36 w_27) (
 R (.bool false) w_22)) (
 R (.bool false) w_17)) (
 R (.bool false) w_12)) (
 R (.bool false) w_7)
def A_impl_TermSame : Ann := { ord := [], loops := [], cuts := [] }
theorem k_impl_TermSame (v0 v1 : Value) (w : World) (R : Value → World → Prop) : vc PP A_impl_TermSame ((Tryz.f13.body).getD .skip) (retF PP Tryz.f13.results.toList R) (nthV [v0, v1]) w = F_impl_TermSame PP v0 v1 w R := by kernel_rfl
theorem c_impl_TermSame {v0 v1 : Value} {w : World} {R : Value → World → Prop} (h : F_impl_TermSame PP v0 v1 w R) : vcall PP n_impl_TermSame #[v0, v1] w R :=
  call_of_vc (T := A_impl_TermSame) (c := (Tryz.f13.body).getD .skip) (n := 38) mixed Tryz.func13 rfl rfl (by kernel_rfl) (by kernel_rfl) rfl (by rw [k_impl_TermSame]; exact h)
def F_spec_TermFold (P : Program) (v0 v1 : Value) (w : World) (R : Value → World → Prop) : Prop :=
 vbox P T_impl_Term v1 w fun t3 w_1 =>
 valloc P T_impl_Term w_1 fun t4 w_2 =>
 vload P T_impl_Term t3 w_2 fun t6 w_3 =>
 vcall P n_spec_TermSort #[v0, t6] w_3 fun t7 w_4 =>
 vbin P .lss T_int true t7 (.int .i64 0) w_4 fun t8 w_5 =>
 vif t8 (
 vbuild P T_impl_Term [] w_5 fun t9 w_6 =>
 vstore P T_impl_Term t4 t9 w_6 fun _ w_7 =>
 vlv P T_impl_Term t4 w_7 fun r4 w_8 =>
 R r4 w_8) (
 vload P T_impl_Term t3 w_5 fun t11 w_9 =>
 vcall P n_spec_l3Fold #[v0, t11] w_9 fun t12 w_10 =>
 vcall P n_spec_l3Copy #[t12] w_10 fun t13 w_11 =>
 vstore P T_impl_Term t4 t13 w_11 fun _ w_12 =>
 vlv P T_impl_Term t4 w_12 fun r4_1 w_13 =>
 R r4_1 w_13)
def A_spec_TermFold : Ann := { ord := [], loops := [], cuts := [] }
theorem k_spec_TermFold (v0 v1 : Value) (w : World) (R : Value → World → Prop) : vc PP A_spec_TermFold ((Tryz.f14.body).getD .skip) (retF PP Tryz.f14.results.toList R) (nthV [v0, v1]) w = F_spec_TermFold PP v0 v1 w R := by kernel_rfl
theorem c_spec_TermFold {v0 v1 : Value} {w : World} {R : Value → World → Prop} (h : F_spec_TermFold PP v0 v1 w R) : vcall PP n_spec_TermFold #[v0, v1] w R :=
  call_of_vc (T := A_spec_TermFold) (c := (Tryz.f14.body).getD .skip) (n := 14) mixed Tryz.func14 rfl rfl (by kernel_rfl) (by kernel_rfl) rfl (by rw [k_spec_TermFold]; exact h)
def F_spec_TermSort (P : Program) (v0 v1 : Value) (w : World) (R : Value → World → Prop) : Prop :=
 vbox P T_impl_Term v1 w fun t3 w_1 =>
 vload P T_impl_Term t3 w_1 fun t8 w_2 =>
 vcall P n_spec_TermMany #[t8] w_2 fun t9 w_3 =>
 vextract P t9 0 w_3 fun t10 w_4 =>
 vextract P t9 1 w_4 fun t11 w_5 =>
 vcall P n_spec_DeclOk #[v0] w_5 fun t13 w_6 =>
 vun P .not t13 w_6 fun t14 w_7 =>
 vif t14 (
 R (.int .i64 (-1)) w_7) (
 vbin P .gtr T_int true t10 (.int .i64 20) w_7 fun t17 w_8 =>
 vif t17 (
 R (.int .i64 (-1)) w_8) (
 vbin P .gtr T_int true t11 (.int .i64 7) w_8 fun t21 w_9 =>
 vif t21 (
 R (.int .i64 (-1)) w_9) (
 vload P T_impl_Term t3 w_9 fun t24 w_10 =>
 vcall P n_spec_l2Sort #[v0, t24] w_10 fun t25 w_11 =>
 R t25 w_11)))
def A_spec_TermSort : Ann := { ord := [], loops := [], cuts := [] }
theorem k_spec_TermSort (v0 v1 : Value) (w : World) (R : Value → World → Prop) : vc PP A_spec_TermSort ((Tryz.f15.body).getD .skip) (retF PP Tryz.f15.results.toList R) (nthV [v0, v1]) w = F_spec_TermSort PP v0 v1 w R := by kernel_rfl
theorem c_spec_TermSort {v0 v1 : Value} {w : World} {R : Value → World → Prop} (h : F_spec_TermSort PP v0 v1 w R) : vcall PP n_spec_TermSort #[v0, v1] w R :=
  call_of_vc (T := A_spec_TermSort) (c := (Tryz.f15.body).getD .skip) (n := 26) mixed Tryz.func15 rfl rfl (by kernel_rfl) (by kernel_rfl) rfl (by rw [k_spec_TermSort]; exact h)
def F_impl_TermOne (P : Program) (v0 v1 : Value) (w : World) (R : Value → World → Prop) : Prop :=
 vbox P T_impl_Term v1 w fun t3 w_1 =>
 valloc P T_impl_Term w_1 fun t4 w_2 =>
 vload P T_impl_Term t3 w_2 fun t6 w_3 =>
 vcall P n_impl_TermSort #[v0, t6] w_3 fun t7 w_4 =>
 vbin P .eql T_int true t7 (.int .i64 (-1)) w_4 fun t8 w_5 =>
 vif t8 (
 vbuild P T_impl_Term [] w_5 fun t9 w_6 =>
 vstore P T_impl_Term t4 t9 w_6 fun _ w_7 =>
 vlv P T_impl_Term t4 w_7 fun r4 w_8 =>
 R r4 w_8) (
 vdraw w_5 fun w_9 =>
 vload P T_impl_Term t3 w_9 fun t13 w_10 => w_10 = w_9 ∧
 vcall P n_impl_kinds #[] w_9 fun t11 w_11 => (vload P T_impl_Term t3 w_11 fun v x => v = t13 ∧ x = w_11) ∧
 vbuild P T_impl_folder [(0, v0), (1, t11)] w_11 fun t12 w_12 => w_12 = w_11 ∧
 vcall P n_impl_folder_one #[t12, t13] w_11 fun t14 w_13 =>
 vcall P n_impl_copyTerm #[t14] w_13 fun t15 w_14 =>
 vstore P T_impl_Term t4 t15 w_14 fun _ w_15 =>
 vlv P T_impl_Term t4 w_15 fun r4_1 w_16 =>
 R r4_1 w_16)
def A_impl_TermOne : Ann := { ord := [(3, [0, 3, 1, 2, 4, 5, 6], [(0, [2, 4, 5, 6]), (3, [4, 5, 6]), (1, [2, 4, 5, 6]), (2, [4, 5, 6]), (4, [5, 6]), (5, [6])])], loops := [], cuts := [] }
theorem k_impl_TermOne (v0 v1 : Value) (w : World) (R : Value → World → Prop) : vc PP A_impl_TermOne ((Tryz.f16.body).getD .skip) (retF PP Tryz.f16.results.toList R) (nthV [v0, v1]) w = F_impl_TermOne PP v0 v1 w R := by kernel_rfl
theorem c_impl_TermOne {v0 v1 : Value} {w : World} {R : Value → World → Prop} (h : F_impl_TermOne PP v0 v1 w R) : vcall PP n_impl_TermOne #[v0, v1] w R :=
  call_of_vc (T := A_impl_TermOne) (c := (Tryz.f16.body).getD .skip) (n := 16) mixed Tryz.func16 rfl rfl (by kernel_rfl) (by kernel_rfl) rfl (by rw [k_impl_TermOne]; exact h)
end Go.Proofs.YtcfgmgjofmbfhaaGreatDoor
end
section
namespace Go.Proofs.YtcfgmgjofmbfhaaGreatDoor
open Go Go.Vc Go.Proofs
def F_impl_DeclOk (P : Program) (v0 : Value) (w : World) (R : Value → World → Prop) : Prop :=
 vbi P .len [T_Limpl_Decl] T_int [v0] w fun t7 w_1 =>
 vbin P .gtr T_int true t7 (.int .i64 4) w_1 fun t8 w_2 =>
 vif t8 (
 R (.bool false) w_2) (
 vbi P .len [T_Limpl_Decl] T_int [v0] w_2 fun t10 w_3 =>
 vloop [(.int .i64 0), (.int .i64 0)] w_3 fun C u _ w_4 =>
 vbin P .lss T_int false (sl 1 u) t10 w_4 fun t12 w_5 =>
 vif t12 (
 viaddr P T_Limpl_Decl v0 (sl 1 u) w_5 fun t14 w_6 =>
 vload P T_impl_Decl t14 w_6 fun t15 w_7 =>
 valloc P T_impl_Decl w_7 fun t5 w_8 =>
 vstore P T_impl_Decl t5 t15 w_8 fun _ w_9 =>
 vjoin (fun J =>
 vfaddr P T_impl_Decl t5 0 w_9 fun t16 w_11 =>
 vload P T_string t16 w_11 fun t17 w_12 =>
 vbi P .len [T_string] T_int [t17] w_12 fun t18 w_13 =>
 vbin P .lss T_int true t18 (.int .i64 1) w_13 fun t19 w_14 =>
 vif t19 (
 R (.bool false) w_14) (
 vfaddr P T_impl_Decl t5 0 w_14 fun t21 w_15 =>
 vload P T_string t21 w_15 fun t22 w_16 =>
 vbi P .len [T_string] T_int [t22] w_16 fun t23 w_17 =>
 vbin P .gtr T_int true t23 (.int .i64 4) w_17 fun t24 w_18 =>
 vif t24 (
 R (.bool false) w_18) (
 vfaddr P T_impl_Decl t5 0 w_18 fun t27 w_19 =>
 vload P T_string t27 w_19 fun t28 w_20 =>
 vbin P .eql T_string true t28 (.string { data := #[116, 114, 117, 101] }) w_20 fun t29 w_21 =>
 vif t29 (
 R (.bool false) w_21) (
 vfaddr P T_impl_Decl t5 0 w_21 fun t32 w_22 =>
 vload P T_string t32 w_22 fun t33 w_23 =>
 vcall P n_strings_Trim #[t33, (.string { data := #[97, 98, 99, 100, 101, 102, 103, 104, 105, 106, 107, 108, 109, 110, 111, 112, 113, 114, 115, 116, 117, 118, 119, 120, 121, 122] })] w_23 fun t34 w_24 =>
 vbin P .neq T_string true t34 (.string { data := #[] }) w_24 fun t35 w_25 =>
 vif t35 (
 R (.bool false) w_25) (
 J [] w_25))))) (fun _ _ w_10 =>
 vslice P T_Limpl_Decl v0 none (some (sl 1 u)) none w_10 fun t39 w_26 =>
 vmkF P (.func n_impl_DeclOk_1) [] [t5] w_26 fun t40 w_27 =>
 vcall P n_slices_ContainsFunc_Limpl_Decl_impl_Decl #[t39, t40] w_27 fun t41 w_28 =>
 vif t41 (
 R (.bool false) w_28) (
 vfaddr P T_impl_Decl t5 1 w_28 fun t43 w_29 =>
 vload P T_int t43 w_29 fun t44 w_30 =>
 vbin P .lss T_int true t44 (.int .i64 1) w_30 fun t45 w_31 =>
 vif t45 (
 R (.bool false) w_31) (
 vfaddr P T_impl_Decl t5 1 w_31 fun t48 w_32 =>
 vload P T_int t48 w_32 fun t49 w_33 =>
 vbin P .gtr T_int true t49 (.int .i64 4) w_33 fun t50 w_34 =>
 vif t50 (
 R (.bool false) w_34) (
 vfaddr P T_impl_Decl t5 1 w_34 fun t53 w_35 =>
 vload P T_int t53 w_35 fun t54 w_36 =>
 vbin P .add T_int false (sl 0 u) t54 w_36 fun t55 w_37 =>
 vbin P .add T_int true (sl 1 u) (.int .i64 1) w_37 fun t56 w_38 =>
 C [t55, t56] w_38))))) (
 vbin P .leq T_int true (sl 0 u) (.int .i64 8) w_5 fun t58 w_39 =>
 R t58 w_39))
def A_impl_DeclOk : Ann := { ord := [], loops := [(5, [3, 11])], cuts := [(32777, [])] }
theorem k_impl_DeclOk (v0 : Value) (w : World) (R : Value → World → Prop) : vc PP A_impl_DeclOk ((Tryz.f27.body).getD .skip) (retF PP Tryz.f27.results.toList R) (nthV [v0]) w = F_impl_DeclOk PP v0 w R := by kernel_rfl
theorem c_impl_DeclOk {v0 : Value} {w : World} {R : Value → World → Prop} (h : F_impl_DeclOk PP v0 w R) : vcall PP n_impl_DeclOk #[v0] w R :=
  call_of_vc (T := A_impl_DeclOk) (c := (Tryz.f27.body).getD .skip) (n := 59) mixed Tryz.func27 rfl rfl (by kernel_rfl) (by kernel_rfl) rfl (by rw [k_impl_DeclOk]; exact h)
def F_impl_TermSort (P : Program) (v0 v1 : Value) (w : World) (R : Value → World → Prop) : Prop :=
 vbox P T_impl_Term v1 w fun t3 w_1 =>
 vload P T_impl_Term t3 w_1 fun t8 w_2 =>
 vcall P n_impl_TermMany #[t8] w_2 fun t9 w_3 =>
 vextract P t9 0 w_3 fun t10 w_4 =>
 vextract P t9 1 w_4 fun _ w_5 =>
 vcall P n_impl_DeclOk #[v0] w_5 fun t13 w_6 =>
 vun P .not t13 w_6 fun t14 w_7 =>
 vif t14 (
 R (.int .i64 (-1)) w_7) (
 vbin P .gtr T_int true t10 (.int .i64 20) w_7 fun t17 w_8 =>
 vif t17 (
 R (.int .i64 (-1)) w_8) (
 vdraw w_8 fun w_9 =>
 vload P T_impl_Term t3 w_9 fun t21 w_10 => w_10 = w_9 ∧
 vcall P n_impl_kinds #[] w_9 fun t19 w_11 => (vload P T_impl_Term t3 w_11 fun v x => v = t21 ∧ x = w_11) ∧
 vcall P n_impl_sortOf #[t19, v0, t21] w_11 fun t22 w_12 =>
 R t22 w_12))
def A_impl_TermSort : Ann := { ord := [(4, [1, 2, 0, 3, 4], [(1, [3, 4]), (2, [3, 4]), (0, [3, 4]), (3, [4])])], loops := [], cuts := [] }
theorem k_impl_TermSort (v0 v1 : Value) (w : World) (R : Value → World → Prop) : vc PP A_impl_TermSort ((Tryz.f32.body).getD .skip) (retF PP Tryz.f32.results.toList R) (nthV [v0, v1]) w = F_impl_TermSort PP v0 v1 w R := by kernel_rfl
theorem c_impl_TermSort {v0 v1 : Value} {w : World} {R : Value → World → Prop} (h : F_impl_TermSort PP v0 v1 w R) : vcall PP n_impl_TermSort #[v0, v1] w R :=
  call_of_vc (T := A_impl_TermSort) (c := (Tryz.f32.body).getD .skip) (n := 23) mixed Tryz.func32 rfl rfl (by kernel_rfl) (by kernel_rfl) rfl (by rw [k_impl_TermSort]; exact h)
def F_impl_TermMany (P : Program) (v0 : Value) (w : World) (R : Value → World → Prop) : Prop :=
 vbox P T_impl_Term v0 w fun t1 w_1 =>
 valloc P T_int w_1 fun t4 w_2 =>
 vstore P T_int t4 (.int .i64 0) w_2 fun _ w_3 =>
 vload P T_impl_Term t1 w_3 fun t6 w_4 =>
 vcall P n_impl_count #[t6, (.int .i64 1), t4] w_4 fun t7 w_5 =>
 vload P T_int t4 w_5 fun t8 w_6 =>
 vbin P .gtr T_int true t8 (.int .i64 20) w_6 fun t9 w_7 =>
 vif t9 (
 R (.tuple #[(.int .i64 21), (.int .i64 8)]) w_7) (
 vbin P .gtr T_int true t7 (.int .i64 7) w_7 fun t12 w_8 =>
 vif t12 (
 R (.tuple #[(.int .i64 21), (.int .i64 8)]) w_8) (
 vload P T_int t4 w_8 fun t14 w_9 =>
 R (.tuple #[t14, t7]) w_9))
def A_impl_TermMany : Ann := { ord := [], loops := [], cuts := [] }
theorem k_impl_TermMany (v0 : Value) (w : World) (R : Value → World → Prop) : vc PP A_impl_TermMany ((Tryz.f34.body).getD .skip) (retF PP Tryz.f34.results.toList R) (nthV [v0]) w = F_impl_TermMany PP v0 w R := by kernel_rfl
theorem c_impl_TermMany {v0 : Value} {w : World} {R : Value → World → Prop} (h : F_impl_TermMany PP v0 w R) : vcall PP n_impl_TermMany #[v0] w R :=
  call_of_vc (T := A_impl_TermMany) (c := (Tryz.f34.body).getD .skip) (n := 16) mixed Tryz.func34 rfl rfl (by kernel_rfl) (by kernel_rfl) rfl (by rw [k_impl_TermMany]; exact h)
def F_impl_TermFixed (P : Program) (v0 : Value) (w : World) (R : Value → World → Prop) : Prop :=
 vbox P T_impl_Term v0 w fun t1 w_1 =>
 vfaddr P T_impl_Term t1 3 w_1 fun t5 w_2 =>
 vload P T_string t5 w_2 fun t6 w_3 =>
 vbin P .neq T_string true t6 (.string { data := #[] }) w_3 fun t7 w_4 =>
 vif t7 (
 R (.tuple #[(.int .i64 0), (.bool false)]) w_4) (
 vjoin (fun J =>
 vfaddr P T_impl_Term t1 0 w_4 fun t9 w_6 =>
 vload P T_int t9 w_6 fun t10 w_7 =>
 vbin P .eql T_int true t10 (.int .i64 20) w_7 fun t11 w_8 =>
 vif t11 (
 vfaddr P T_impl_Term t1 4 w_8 fun t13 w_9 =>
 vload P T_Limpl_Term t13 w_9 fun t14 w_10 =>
 vbi P .len [T_Limpl_Term] T_int [t14] w_10 fun t15 w_11 =>
 vbin P .eql T_int true t15 (.int .i64 0) w_11 fun t16 w_12 =>
 vif t16 (
 vfaddr P T_impl_Term t1 1 w_12 fun t19 w_13 =>
 vload P T_int t19 w_13 fun t20 w_14 =>
 vfaddr P T_impl_Term t1 2 w_14 fun t21 w_15 =>
 vload P T_int t21 w_15 fun t22 w_16 =>
 vbuild P T_impl_Vec [(0, t20), (1, t22)] w_16 fun t23 w_17 =>
 vcall P n_impl_VecOk #[t23] w_17 fun t24 w_18 =>
 J [t24] w_18) (
 J [(.bool false)] w_12)) (
 J [(.bool false)] w_8)) (fun u _ w_5 =>
 vif (sl 0 u) (
 vfaddr P T_impl_Term t1 2 w_5 fun t26 w_19 =>
 vload P T_int t26 w_19 fun t27 w_20 =>
 R (.tuple #[t27, (.bool true)]) w_20) (
 vload P T_impl_Term t1 w_5 fun t29 w_21 =>
 vbuild P T_impl_Term [(0, (.int .i64 24))] w_21 fun t30 w_22 =>
 vcall P n_impl_TermSame #[t29, t30] w_22 fun t31 w_23 =>
 vif t31 (
 R (.tuple #[(.int .i64 1), (.bool true)]) w_23) (
 vdraw w_23 fun w_24 =>
 vfaddr P T_impl_Term t1 0 w_24 fun t33 w_25 => w_25 = w_24 ∧
 vload P T_int t33 w_24 fun t34 w_26 => w_26 = w_24 ∧
 vbin P .eql T_int true t34 (.int .i64 25) w_24 fun t35 w_27 => w_27 = w_24 ∧
 vif t35 (
 vload P T_impl_Term t1 w_24 fun t37 w_28 => w_28 = w_24 ∧
 vcall P n_impl_falseTerm #[] w_24 fun t38 w_29 => (vload P T_impl_Term t1 w_29 fun v x => v = t37 ∧ x = w_29) ∧
 vcall P n_impl_TermSame #[t37, t38] w_29 fun t39 w_30 =>
 vif t39 (
 R (.tuple #[(.int .i64 0), (.bool true)]) w_30) (
 R (.tuple #[(.int .i64 0), (.bool false)]) w_30)) (
 R (.tuple #[(.int .i64 0), (.bool false)]) w_24)))))
def A_impl_TermFixed : Ann := { ord := [(7, [0, 1, 2, 3, 4, 5, 6, 7, 8], [(0, [1, 2, 3, 4, 5, 6, 7, 8]), (1, [2, 3, 4, 5, 6, 7, 8]), (2, [3, 4, 5, 6, 7, 8]), (3, [4, 5, 6, 7, 8]), (4, [6, 7, 8]), (5, [6, 7, 8]), (6, [7, 8]), (7, [8])])], loops := [], cuts := [(16388, [8])] }
theorem k_impl_TermFixed (v0 : Value) (w : World) (R : Value → World → Prop) : vc PP A_impl_TermFixed ((Tryz.f36.body).getD .skip) (retF PP Tryz.f36.results.toList R) (nthV [v0]) w = F_impl_TermFixed PP v0 w R := by kernel_rfl
theorem c_impl_TermFixed {v0 : Value} {w : World} {R : Value → World → Prop} (h : F_impl_TermFixed PP v0 w R) : vcall PP n_impl_TermFixed #[v0] w R :=
  call_of_vc (T := A_impl_TermFixed) (c := (Tryz.f36.body).getD .skip) (n := 41) mixed Tryz.func36 rfl rfl (by kernel_rfl) (by kernel_rfl) rfl (by rw [k_impl_TermFixed]; exact h)
def F_spec_TermFixed (P : Program) (v0 : Value) (w : World) (R : Value → World → Prop) : Prop :=
 vbox P T_impl_Term v0 w fun t1 w_1 =>
 vload P T_impl_Term t1 w_1 fun t5 w_2 =>
 vbuild P T_impl_Term [(0, (.int .i64 24))] w_2 fun t6 w_3 =>
 vcall P n_spec_TermSame #[t5, t6] w_3 fun t7 w_4 =>
 vif t7 (
 R (.tuple #[(.int .i64 1), (.bool true)]) w_4) (
 vdraw w_4 fun w_5 =>
 vload P T_impl_Term t1 w_5 fun t9 w_6 => w_6 = w_5 ∧
 vcall P n_spec_l3False #[] w_5 fun t10 w_7 => (vload P T_impl_Term t1 w_7 fun v x => v = t9 ∧ x = w_7) ∧
 vcall P n_spec_TermSame #[t9, t10] w_7 fun t11 w_8 =>
 vif t11 (
 R (.tuple #[(.int .i64 0), (.bool true)]) w_8) (
 vfaddr P T_impl_Term t1 0 w_8 fun t13 w_9 =>
 vload P T_int t13 w_9 fun t14 w_10 =>
 vbin P .eql T_int true t14 (.int .i64 20) w_10 fun t15 w_11 =>
 vif t15 (
 vfaddr P T_impl_Term t1 4 w_11 fun t17 w_12 =>
 vload P T_Limpl_Term t17 w_12 fun t18 w_13 =>
 vbi P .len [T_Limpl_Term] T_int [t18] w_13 fun t19 w_14 =>
 vbin P .eql T_int true t19 (.int .i64 0) w_14 fun t20 w_15 =>
 vif t20 (
 vfaddr P T_impl_Term t1 3 w_15 fun t23 w_16 =>
 vload P T_string t23 w_16 fun t24 w_17 =>
 vbin P .eql T_string true t24 (.string { data := #[] }) w_17 fun t25 w_18 =>
 vif t25 (
 vfaddr P T_impl_Term t1 1 w_18 fun t28 w_19 =>
 vload P T_int t28 w_19 fun t29 w_20 =>
 vfaddr P T_impl_Term t1 2 w_20 fun t30 w_21 =>
 vload P T_int t30 w_21 fun t31 w_22 =>
 vbuild P T_impl_Vec [(0, t29), (1, t31)] w_22 fun t32 w_23 =>
 vcall P n_spec_VecOk #[t32] w_23 fun t33 w_24 =>
 vif t33 (
 vfaddr P T_impl_Term t1 2 w_24 fun t35 w_25 =>
 vload P T_int t35 w_25 fun t36 w_26 =>
 R (.tuple #[t36, (.bool true)]) w_26) (
 R (.tuple #[(.int .i64 0), (.bool false)]) w_24)) (
 R (.tuple #[(.int .i64 0), (.bool false)]) w_18)) (
 R (.tuple #[(.int .i64 0), (.bool false)]) w_15)) (
 R (.tuple #[(.int .i64 0), (.bool false)]) w_11)))
def A_spec_TermFixed : Ann := { ord := [(3, [0, 1, 2, 3], [(0, [2, 3]), (1, [2, 3]), (2, [3])])], loops := [], cuts := [] }
theorem k_spec_TermFixed (v0 : Value) (w : World) (R : Value → World → Prop) : vc PP A_spec_TermFixed ((Tryz.f37.body).getD .skip) (retF PP Tryz.f37.results.toList R) (nthV [v0]) w = F_spec_TermFixed PP v0 w R := by kernel_rfl
theorem c_spec_TermFixed {v0 : Value} {w : World} {R : Value → World → Prop} (h : F_spec_TermFixed PP v0 w R) : vcall PP n_spec_TermFixed #[v0] w R :=
  call_of_vc (T := A_spec_TermFixed) (c := (Tryz.f37.body).getD .skip) (n := 37) mixed Tryz.func37 rfl rfl (by kernel_rfl) (by kernel_rfl) rfl (by rw [k_spec_TermFixed]; exact h)
def F_spec_l3Draw (P : Program) (v0 : Value) (w : World) (R : Value → World → Prop) : Prop :=
 valloc P T_impl_Term w fun t3 w_1 =>
 vcall P n_spec_l2Decls #[v0] w_1 fun t9 w_2 =>
 vbuildS P T_Lint 6 [(0, (.int .i64 0)), (1, (.int .i64 0)), (2, (.int .i64 1)), (3, (.int .i64 2)), (4, (.int .i64 3)), (5, (.int .i64 4))] w_2 fun t13 w_3 =>
 vcall P n_spec_l12Rd_num #[v0, t13] w_3 fun t14 w_4 =>
 vcall P n_spec_l2Some #[v0, t9, t14] w_4 fun t15 w_5 =>
 valloc P T_impl_Term w_5 fun t5 w_6 =>
 vstore P T_impl_Term t5 t15 w_6 fun _ w_7 =>
 vcall P n_spec_l12Rd_pick #[v0, (.int .i64 3)] w_7 fun t17 w_8 =>
 vloop [t17] w_8 fun C u _ w_9 =>
 vbin P .gtr T_int true (sl 0 u) (.int .i64 0) w_9 fun t19 w_10 =>
 vif t19 (
 vload P T_impl_Term t5 w_10 fun t24 w_11 =>
 vcall P n_spec_l3Dull #[v0, t9, t24] w_11 fun t25 w_12 =>
 valloc P T_impl_Term w_12 fun t7 w_13 =>
 vstore P T_impl_Term t7 t25 w_13 fun _ w_14 =>
 vload P T_impl_Term t7 w_14 fun t27 w_15 =>
 vcall P n_spec_TermSort #[t9, t27] w_15 fun t28 w_16 =>
 vbin P .geq T_int true t28 (.int .i64 0) w_16 fun t29 w_17 =>
 vif t29 (
 vload P T_impl_Term t7 w_17 fun t30 w_18 =>
 vstore P T_impl_Term t5 t30 w_18 fun _ w_19 =>
 vbin P .sub T_int true (sl 0 u) (.int .i64 1) w_19 fun t21 w_20 =>
 C [t21] w_20) (
 vbin P .sub T_int true (sl 0 u) (.int .i64 1) w_17 fun t21_1 w_21 =>
 C [t21_1] w_21)) (
 vdraw w_10 fun w_22 =>
 vload P T_impl_Term t5 w_22 fun t35 w_23 => w_23 = w_22 ∧
 vcall P n_spec_l2Spoil #[v0, t9] w_22 fun t33 w_24 => (vload P T_impl_Term t5 w_24 fun v x => v = t35 ∧ x = w_24) ∧
 vcall P n_spec_l2Bent #[v0, t35] w_24 fun t36 w_25 =>
 vstore P T_impl_Term t3 t36 w_25 fun _ w_26 =>
 vlv P T_impl_Term t3 w_26 fun r3 w_27 =>
 R (.tuple #[t33, r3]) w_27)
def A_spec_l3Draw : Ann := { ord := [(9, [0, 1, 3, 4, 2, 5, 6, 7], [(0, [2, 5, 6, 7]), (1, [2, 5, 6, 7]), (3, [5, 6, 7]), (4, [5, 6, 7]), (2, [5, 6, 7]), (5, [6, 7]), (6, [7])])], loops := [(4, [6])], cuts := [] }
theorem k_spec_l3Draw (v0 : Value) (w : World) (R : Value → World → Prop) : vc PP A_spec_l3Draw ((Tryz.f39.body).getD .skip) (retF PP Tryz.f39.results.toList R) (nthV [v0]) w = F_spec_l3Draw PP v0 w R := by kernel_rfl
theorem c_spec_l3Draw {v0 : Value} {w : World} {R : Value → World → Prop} (h : F_spec_l3Draw PP v0 w R) : vcall PP n_spec_l3Draw #[v0] w R :=
  call_of_vc (T := A_spec_l3Draw) (c := (Tryz.f39.body).getD .skip) (n := 37) mixed Tryz.func39 rfl rfl (by kernel_rfl) (by kernel_rfl) rfl (by rw [k_spec_l3Draw]; exact h)
def F_spec_l12Open (P : Program) (v0 : Value) (w : World) (R : Value → World → Prop) : Prop :=
 vbi P .len [T_Luint8] T_int [v0] w fun t4 w_1 =>
 vbin P .gtr T_int true t4 (.int .i64 2000) w_1 fun t5 w_2 =>
 vif t5 (
 vslice P T_Luint8 v0 none (some (.int .i64 2000)) none w_2 fun t7 w_3 =>
 vbuild P T_spec_l12Rd [(0, t7)] w_3 fun t9 w_4 =>
 vbox P T_spec_l12Rd t9 w_4 fun t10 w_5 =>
 R t10 w_5) (
 vbuild P T_spec_l12Rd [(0, v0)] w_2 fun t9_1 w_6 =>
 vbox P T_spec_l12Rd t9_1 w_6 fun t10_1 w_7 =>
 R t10_1 w_7)
def A_spec_l12Open : Ann := { ord := [], loops := [], cuts := [] }
theorem k_spec_l12Open (v0 : Value) (w : World) (R : Value → World → Prop) : vc PP A_spec_l12Open ((Tryz.f40.body).getD .skip) (retF PP Tryz.f40.results.toList R) (nthV [v0]) w = F_spec_l12Open PP v0 w R := by kernel_rfl
theorem c_spec_l12Open {v0 : Value} {w : World} {R : Value → World → Prop} (h : F_spec_l12Open PP v0 w R) : vcall PP n_spec_l12Open #[v0] w R :=
  call_of_vc (T := A_spec_l12Open) (c := (Tryz.f40.body).getD .skip) (n := 11) mixed Tryz.func40 rfl rfl (by kernel_rfl) (by kernel_rfl) rfl (by rw [k_spec_l12Open]; exact h)
def F_impl_copyTerm (P : Program) (v0 : Value) (w : World) (R : Value → World → Prop) : Prop :=
 vbox P T_impl_Term v0 w fun t1 w_1 =>
 valloc P T_impl_Term w_1 fun t2 w_2 =>
 vfaddr P T_impl_Term t1 4 w_2 fun t6 w_3 =>
 vload P T_Limpl_Term t6 w_3 fun t7 w_4 =>
 vfaddr P T_impl_Term t1 4 w_4 fun t8 w_5 =>
 vstore P T_Limpl_Term t8 (.slice none 0 0) w_5 fun _ w_6 =>
 vbi P .len [T_Limpl_Term] T_int [t7] w_6 fun t10 w_7 =>
 vloop [(.int .i64 0)] w_7 fun C u _ w_8 =>
 vbin P .lss T_int false (sl 0 u) t10 w_8 fun t12 w_9 =>
 vif t12 (
 viaddr P T_Limpl_Term t7 (sl 0 u) w_9 fun t13 w_10 =>
 vload P T_impl_Term t13 w_10 fun t14 w_11 =>
 valloc P T_impl_Term w_11 fun t5 w_12 =>
 vstore P T_impl_Term t5 t14 w_12 fun _ w_13 =>
 vdraw w_13 fun w_14 =>
 vfaddr P T_impl_Term t1 4 w_14 fun t15 w_15 => w_15 = w_14 ∧
 vload P T_Limpl_Term t15 w_14 fun t16 w_16 => w_16 = w_14 ∧
 vload P T_impl_Term t5 w_14 fun t17 w_17 => w_17 = w_14 ∧
 vcall P n_impl_copyTerm #[t17] w_14 fun t18 w_18 => (vload P T_Limpl_Term t15 w_18 fun v x => v = t16 ∧ x = w_18) ∧ (vfaddr P T_impl_Term t1 4 w_18 fun v x => v = t15 ∧ x = w_18) ∧
 vbuildS P T_Limpl_Term 1 [(0, t18)] w_18 fun t19 w_19 => (vload P T_Limpl_Term t15 w_19 fun v x => v = t16 ∧ x = w_19) ∧ (vfaddr P T_impl_Term t1 4 w_19 fun v x => v = t15 ∧ x = w_19) ∧
 vbi P .append [T_Limpl_Term, T_Limpl_Term] T_Limpl_Term [t16, t19] w_19 fun t20 w_20 =>
 vfaddr P T_impl_Term t1 4 w_20 fun t21 w_21 => w_21 = w_20 ∧
 vstore P T_Limpl_Term t21 t20 w_20 fun _ w_22 =>
 vbin P .add T_int true (sl 0 u) (.int .i64 1) w_22 fun t22 w_23 =>
 C [t22] w_23) (
 vload P T_impl_Term t1 w_9 fun t23 w_24 =>
 vstore P T_impl_Term t2 t23 w_24 fun _ w_25 =>
 vlv P T_impl_Term t2 w_25 fun r2 w_26 =>
 R r2 w_26)
def A_impl_copyTerm : Ann := { ord := [(6, [0, 1, 2, 3, 4, 5, 6, 7], [(0, [1, 5, 6, 7]), (1, [5, 6, 7]), (2, [3, 4, 5, 6, 7]), (3, [4, 5, 6, 7]), (4, [5, 6, 7]), (5, [6, 7]), (6, [7])])], loops := [(4, [11])], cuts := [] }
theorem k_impl_copyTerm (v0 : Value) (w : World) (R : Value → World → Prop) : vc PP A_impl_copyTerm ((Tryz.f41.body).getD .skip) (retF PP Tryz.f41.results.toList R) (nthV [v0]) w = F_impl_copyTerm PP v0 w R := by kernel_rfl
theorem c_impl_copyTerm {v0 : Value} {w : World} {R : Value → World → Prop} (h : F_impl_copyTerm PP v0 w R) : vcall PP n_impl_copyTerm #[v0] w R :=
  call_of_vc (T := A_impl_copyTerm) (c := (Tryz.f41.body).getD .skip) (n := 24) mixed Tryz.func41 rfl rfl (by kernel_rfl) (by kernel_rfl) rfl (by rw [k_impl_copyTerm]; exact h)
def F_impl_kinds (P : Program) (w : World) (R : Value → World → Prop) : Prop :=
 vmkM P T_M_map_int_impl_kind none w fun t4 w_1 =>
 vbuild P T_impl_named [(0, (.string { data := #[110, 111, 116] })), (1, (.int .i64 1))] w_1 fun t5 w_2 =>
 vbuild P T_impl_unKind [(0, t5)] w_2 fun t6 w_3 =>
 vmkI P T_impl_unKind t6 w_3 fun t7 w_4 =>
 vmset P T_M_map_int_impl_kind t4 (.int .i64 1) t7 w_4 fun _ w_5 =>
 vbuild P T_impl_named [(0, (.string { data := #[110, 101, 103] })), (1, (.int .i64 1))] w_5 fun t8 w_6 =>
 vbuild P T_impl_unKind [(0, t8)] w_6 fun t9 w_7 =>
 vmkI P T_impl_unKind t9 w_7 fun t10 w_8 =>
 vmset P T_M_map_int_impl_kind t4 (.int .i64 2) t10 w_8 fun _ w_9 =>
 vbuild P T_impl_named [(0, (.string { data := #[99, 97, 116] })), (1, (.int .i64 2))] w_9 fun t11 w_10 =>
 vbuild P T_impl_catKind [(0, t11)] w_10 fun t12 w_11 =>
 vmkI P T_impl_catKind t12 w_11 fun t13 w_12 =>
 vmset P T_M_map_int_impl_kind t4 (.int .i64 14) t13 w_12 fun _ w_13 =>
 vbuild P T_impl_named [(0, (.string { data := #[115, 97, 109, 101] })), (1, (.int .i64 2))] w_13 fun t14 w_14 =>
 vbuild P T_impl_cmpKind [(0, t14)] w_14 fun t15 w_15 =>
 vmkI P T_impl_cmpKind t15 w_15 fun t16 w_16 =>
 vmset P T_M_map_int_impl_kind t4 (.int .i64 15) t16 w_16 fun _ w_17 =>
 vbuild P T_impl_named [(0, (.string { data := #[108, 101, 115, 115] })), (1, (.int .i64 2))] w_17 fun t17 w_18 =>
 vbuild P T_impl_cmpKind [(0, t17)] w_18 fun t18 w_19 =>
 vmkI P T_impl_cmpKind t18 w_19 fun t19 w_20 =>
 vmset P T_M_map_int_impl_kind t4 (.int .i64 16) t19 w_20 fun _ w_21 =>
 vbuild P T_impl_named [(0, (.string { data := #[117, 110, 100, 101, 114] })), (1, (.int .i64 2))] w_21 fun t20 w_22 =>
 vbuild P T_impl_cmpKind [(0, t20)] w_22 fun t21 w_23 =>
 vmkI P T_impl_cmpKind t21 w_23 fun t22 w_24 =>
 vmset P T_M_map_int_impl_kind t4 (.int .i64 17) t22 w_24 fun _ w_25 =>
 vbuild P T_impl_vecKind [] w_25 fun t23 w_26 =>
 vmkI P T_impl_vecKind t23 w_26 fun t24 w_27 =>
 vmset P T_M_map_int_impl_kind t4 (.int .i64 20) t24 w_27 fun _ w_28 =>
 vbuild P T_impl_nameKind [] w_28 fun t25 w_29 =>
 vmkI P T_impl_nameKind t25 w_29 fun t26 w_30 =>
 vmset P T_M_map_int_impl_kind t4 (.int .i64 21) t26 w_30 fun _ w_31 =>
 vbuild P T_impl_named [(0, (.string { data := #[99, 117, 116] })), (1, (.int .i64 1))] w_31 fun t27 w_32 =>
 vbuild P T_impl_cutKind [(0, t27)] w_32 fun t28 w_33 =>
 vmkI P T_impl_cutKind t28 w_33 fun t29 w_34 =>
 vmset P T_M_map_int_impl_kind t4 (.int .i64 22) t29 w_34 fun _ w_35 =>
 vbuild P T_impl_named [(0, (.string { data := #[105, 102] })), (1, (.int .i64 3))] w_35 fun t30 w_36 =>
 vbuild P T_impl_ifKind [(0, t30)] w_36 fun t31 w_37 =>
 vmkI P T_impl_ifKind t31 w_37 fun t32 w_38 =>
 vmset P T_M_map_int_impl_kind t4 (.int .i64 23) t32 w_38 fun _ w_39 =>
 vbuild P T_impl_named [(0, (.string { data := #[116, 114, 117, 101] })), (1, (.int .i64 0))] w_39 fun t33 w_40 =>
 vbuild P T_impl_boolKind [(0, t33), (1, (.func (.func n_impl_kinds_1) #[] #[]))] w_40 fun t34 w_41 =>
 vmkI P T_impl_boolKind t34 w_41 fun t35 w_42 =>
 vmset P T_M_map_int_impl_kind t4 (.int .i64 24) t35 w_42 fun _ w_43 =>
 vbuild P T_impl_named [(0, (.string { data := #[110, 111] })), (1, (.int .i64 1))] w_43 fun t36 w_44 =>
 vbuild P T_impl_boolKind [(0, t36), (1, (.func (.func n_impl_kinds_2) #[] #[]))] w_44 fun t37 w_45 =>
 vmkI P T_impl_boolKind t37 w_45 fun t38 w_46 =>
 vmset P T_M_map_int_impl_kind t4 (.int .i64 25) t38 w_46 fun _ w_47 =>
 vbuild P T_impl_named [(0, (.string { data := #[98, 111, 116, 104] })), (1, (.int .i64 2))] w_47 fun t39 w_48 =>
 vbuild P T_impl_boolKind [(0, t39), (1, (.func (.func n_impl_kinds_3) #[] #[]))] w_48 fun t40 w_49 =>
 vmkI P T_impl_boolKind t40 w_49 fun t41 w_50 =>
 vmset P T_M_map_int_impl_kind t4 (.int .i64 26) t41 w_50 fun _ w_51 =>
 vbuild P T_impl_named [(0, (.string { data := #[97, 110, 121] })), (1, (.int .i64 2))] w_51 fun t42 w_52 =>
 vbuild P T_impl_boolKind [(0, t42), (1, (.func (.func n_impl_kinds_4) #[] #[]))] w_52 fun t43 w_53 =>
 vmkI P T_impl_boolKind t43 w_53 fun t44 w_54 =>
 vmset P T_M_map_int_impl_kind t4 (.int .i64 27) t44 w_54 fun _ w_55 =>
 vbuildS P T_Lstring 11 [(0, (.string { data := #[97, 110, 100] })), (1, (.string { data := #[111, 114] })), (2, (.string { data := #[120, 111, 114] })), (3, (.string { data := #[97, 100, 100] })), (4, (.string { data := #[115, 117, 98] })), (5, (.string { data := #[109, 117, 108] })), (6, (.string { data := #[100, 105, 118] })), (7, (.string { data := #[114, 101, 109] })), (8, (.string { data := #[115, 104, 108] })), (9, (.string { data := #[115, 104, 114] })), (10, (.string { data := #[115, 97, 114] }))] w_55 fun t46 w_56 =>
 vbi P .len [T_Lstring] T_int [t46] w_56 fun t47 w_57 =>
 vloop [(.int .i64 0)] w_57 fun C u _ w_58 =>
 vbin P .lss T_int false (sl 0 u) t47 w_58 fun t49 w_59 =>
 vif t49 (
 viaddr P T_Lstring t46 (sl 0 u) w_59 fun t51 w_60 =>
 vload P T_string t51 w_60 fun t52 w_61 =>
 vbin P .add T_int true (.int .i64 3) (sl 0 u) w_61 fun t55 w_62 =>
 vbuild P T_impl_named [(0, t52), (1, (.int .i64 2))] w_62 fun t57 w_63 =>
 vbuild P T_impl_binKind [(0, t57)] w_63 fun t58 w_64 =>
 vmkI P T_impl_binKind t58 w_64 fun t59 w_65 =>
 vmset P T_M_map_int_impl_kind t4 t55 t59 w_65 fun _ w_66 =>
 vbin P .add T_int true (sl 0 u) (.int .i64 1) w_66 fun t60 w_67 =>
 C [t60] w_67) (
 R t4 w_59)
def A_impl_kinds : Ann := { ord := [], loops := [(3, [48])], cuts := [] }
theorem k_impl_kinds (w : World) (R : Value → World → Prop) : vc PP A_impl_kinds ((Tryz.f42.body).getD .skip) (retF PP Tryz.f42.results.toList R) (nthV []) w = F_impl_kinds PP  w R := by kernel_rfl
theorem c_impl_kinds {w : World} {R : Value → World → Prop} (h : F_impl_kinds PP  w R) : vcall PP n_impl_kinds #[] w R :=
  call_of_vc (T := A_impl_kinds) (c := (Tryz.f42.body).getD .skip) (n := 62) mixed Tryz.func42 rfl rfl (by kernel_rfl) (by kernel_rfl) rfl (by rw [k_impl_kinds]; exact h)
def F_impl_folder_fold (P : Program) (v0 v1 : Value) (w : World) (R : Value → World → Prop) : Prop :=
 vbox P T_impl_folder v0 w fun t2 w_1 =>
 vbox P T_impl_Term v1 w_1 fun t3 w_2 =>
 valloc P T_impl_Term w_2 fun t4 w_3 =>
 vfaddr P T_impl_Term t3 4 w_3 fun t8 w_4 =>
 vload P T_Limpl_Term t8 w_4 fun t9 w_5 =>
 vfaddr P T_impl_Term t3 4 w_5 fun t10 w_6 =>
 vstore P T_Limpl_Term t10 (.slice none 0 0) w_6 fun _ w_7 =>
 vbi P .len [T_Limpl_Term] T_int [t9] w_7 fun t12 w_8 =>
 vloop [(.int .i64 0)] w_8 fun C u _ w_9 =>
 vbin P .lss T_int false (sl 0 u) t12 w_9 fun t14 w_10 =>
 vif t14 (
 viaddr P T_Limpl_Term t9 (sl 0 u) w_10 fun t15 w_11 =>
 vload P T_impl_Term t15 w_11 fun t16 w_12 =>
 valloc P T_impl_Term w_12 fun t7 w_13 =>
 vstore P T_impl_Term t7 t16 w_13 fun _ w_14 =>
 vdraw w_14 fun w_15 =>
 vfaddr P T_impl_Term t3 4 w_15 fun t17 w_16 => w_16 = w_15 ∧
 vload P T_Limpl_Term t17 w_15 fun t18 w_17 => w_17 = w_15 ∧
 vload P T_impl_folder t2 w_15 fun t19 w_18 => w_18 = w_15 ∧
 vload P T_impl_Term t7 w_15 fun t20 w_19 => w_19 = w_15 ∧
 vcall P n_impl_folder_fold #[t19, t20] w_15 fun t21 w_20 => (vload P T_Limpl_Term t17 w_20 fun v x => v = t18 ∧ x = w_20) ∧ (vfaddr P T_impl_Term t3 4 w_20 fun v x => v = t17 ∧ x = w_20) ∧
 vbuildS P T_Limpl_Term 1 [(0, t21)] w_20 fun t22 w_21 => (vload P T_Limpl_Term t17 w_21 fun v x => v = t18 ∧ x = w_21) ∧ (vfaddr P T_impl_Term t3 4 w_21 fun v x => v = t17 ∧ x = w_21) ∧
 vbi P .append [T_Limpl_Term, T_Limpl_Term] T_Limpl_Term [t18, t22] w_21 fun t23 w_22 =>
 vfaddr P T_impl_Term t3 4 w_22 fun t24 w_23 => w_23 = w_22 ∧
 vstore P T_Limpl_Term t24 t23 w_22 fun _ w_24 =>
 vbin P .add T_int true (sl 0 u) (.int .i64 1) w_24 fun t25 w_25 =>
 C [t25] w_25) (
 vload P T_impl_folder t2 w_10 fun t26 w_26 =>
 vload P T_impl_Term t3 w_26 fun t27 w_27 =>
 vcall P n_impl_folder_one #[t26, t27] w_27 fun t28 w_28 =>
 vstore P T_impl_Term t4 t28 w_28 fun _ w_29 =>
 vlv P T_impl_Term t4 w_29 fun r4 w_30 =>
 R r4 w_30)
def A_impl_folder_fold : Ann := { ord := [(6, [0, 1, 2, 3, 4, 5, 6, 7, 8], [(0, [1, 6, 7, 8]), (1, [6, 7, 8]), (2, [4, 5, 6, 7, 8]), (3, [4, 5, 6, 7, 8]), (4, [5, 6, 7, 8]), (5, [6, 7, 8]), (6, [7, 8]), (7, [8])])], loops := [(4, [13])], cuts := [] }
theorem k_impl_folder_fold (v0 v1 : Value) (w : World) (R : Value → World → Prop) : vc PP A_impl_folder_fold ((Tryz.f43.body).getD .skip) (retF PP Tryz.f43.results.toList R) (nthV [v0, v1]) w = F_impl_folder_fold PP v0 v1 w R := by kernel_rfl
theorem c_impl_folder_fold {v0 v1 : Value} {w : World} {R : Value → World → Prop} (h : F_impl_folder_fold PP v0 v1 w R) : vcall PP n_impl_folder_fold #[v0, v1] w R :=
  call_of_vc (T := A_impl_folder_fold) (c := (Tryz.f43.body).getD .skip) (n := 29) mixed Tryz.func43 rfl rfl (by kernel_rfl) (by kernel_rfl) rfl (by rw [k_impl_folder_fold]; exact h)
def F_slices_EqualFunc_Limpl_Term_Limpl_Term_impl_Term_impl_Term (P : Program) (v0 v1 v2 : Value) (w : World) (R : Value → World → Prop) : Prop :=
 vbi P .len [T_Limpl_Term] T_int [v0] w fun t11 w_1 =>
 vbi P .len [T_Limpl_Term] T_int [v1] w_1 fun t13 w_2 =>
 vbin P .neq T_int false t11 t13 w_2 fun t14 w_3 =>
 vif t14 (
 R (.bool false) w_3) (
 vbi P .len [T_Limpl_Term] T_int [v0] w_3 fun t16 w_4 =>
 vloop [(.int .i64 0)] w_4 fun C u _ w_5 =>
 vbin P .lss T_int false (sl 0 u) t16 w_5 fun t18 w_6 =>
 vif t18 (
 viaddr P T_Limpl_Term v0 (sl 0 u) w_6 fun t20 w_7 =>
 vload P T_impl_Term t20 w_7 fun t21 w_8 =>
 valloc P T_impl_Term w_8 fun t8 w_9 =>
 vstore P T_impl_Term t8 t21 w_9 fun _ w_10 =>
 viaddr P T_Limpl_Term v1 (sl 0 u) w_10 fun t24 w_11 =>
 vload P T_impl_Term t24 w_11 fun t25 w_12 =>
 valloc P T_impl_Term w_12 fun t9 w_13 =>
 vstore P T_impl_Term t9 t25 w_13 fun _ w_14 =>
 vload P T_impl_Term t8 w_14 fun t27 w_15 =>
 vload P T_impl_Term t9 w_15 fun t28 w_16 =>
 vcallv P v2 #[t27, t28] w_16 fun t29 w_17 =>
 vun P .not t29 w_17 fun t30 w_18 =>
 vif t30 (
 R (.bool false) w_18) (
 vbin P .add T_int true (sl 0 u) (.int .i64 1) w_18 fun t31 w_19 =>
 C [t31] w_19)) (
 R (.bool true) w_6))
def A_slices_EqualFunc_Limpl_Term_Limpl_Term_impl_Term_impl_Term : Ann := { ord := [], loops := [(4, [17])], cuts := [] }
theorem k_slices_EqualFunc_Limpl_Term_Limpl_Term_impl_Term_impl_Term (v0 v1 v2 : Value) (w : World) (R : Value → World → Prop) : vc PP A_slices_EqualFunc_Limpl_Term_Limpl_Term_impl_Term_impl_Term ((Tryz.f44.body).getD .skip) (retF PP Tryz.f44.results.toList R) (nthV [v0, v1, v2]) w = F_slices_EqualFunc_Limpl_Term_Limpl_Term_impl_Term_impl_Term PP v0 v1 v2 w R := by kernel_rfl
theorem c_slices_EqualFunc_Limpl_Term_Limpl_Term_impl_Term_impl_Term {v0 v1 v2 : Value} {w : World} {R : Value → World → Prop} (h : F_slices_EqualFunc_Limpl_Term_Limpl_Term_impl_Term_impl_Term PP v0 v1 v2 w R) : vcall PP n_slices_EqualFunc_Limpl_Term_Limpl_Term_impl_Term_impl_Term #[v0, v1, v2] w R :=
  call_of_vc (T := A_slices_EqualFunc_Limpl_Term_Limpl_Term_impl_Term_impl_Term) (c := (Tryz.f44.body).getD .skip) (n := 32) mixed Tryz.func44 rfl rfl (by kernel_rfl) (by kernel_rfl) rfl (by rw [k_slices_EqualFunc_Limpl_Term_Limpl_Term_impl_Term_impl_Term]; exact h)
def F_spec_l3Copy (P : Program) (v0 : Value) (w : World) (R : Value → World → Prop) : Prop :=
 vbox P T_impl_Term v0 w fun t1 w_1 =>
 valloc P T_impl_Term w_1 fun t2 w_2 =>
 vfaddr P T_impl_Term t1 0 w_2 fun t5 w_3 =>
 vload P T_int t5 w_3 fun t6 w_4 =>
 vfaddr P T_impl_Term t1 1 w_4 fun t7 w_5 =>
 vload P T_int t7 w_5 fun t8 w_6 =>
 vfaddr P T_impl_Term t1 2 w_6 fun t9 w_7 =>
 vload P T_int t9 w_7 fun t10 w_8 =>
 vfaddr P T_impl_Term t1 3 w_8 fun t11 w_9 =>
 vload P T_string t11 w_9 fun t12 w_10 =>
 vbuild P T_impl_Term [(0, t6), (1, t8), (2, t10), (3, t12)] w_10 fun t13 w_11 =>
 valloc P T_impl_Term w_11 fun t3 w_12 =>
 vstore P T_impl_Term t3 t13 w_12 fun _ w_13 =>
 vloop [(.int .i64 0)] w_13 fun C u _ w_14 =>
 vfaddr P T_impl_Term t1 4 w_14 fun t15 w_15 =>
 vload P T_Limpl_Term t15 w_15 fun t16 w_16 =>
 vbi P .len [T_Limpl_Term] T_int [t16] w_16 fun t17 w_17 =>
 vbin P .lss T_int false (sl 0 u) t17 w_17 fun t18 w_18 =>
 vif t18 (
 vdraw w_18 fun w_19 =>
 vfaddr P T_impl_Term t3 4 w_19 fun t21 w_20 => w_20 = w_19 ∧
 vload P T_Limpl_Term t21 w_19 fun t22 w_21 => w_21 = w_19 ∧
 vfaddr P T_impl_Term t1 4 w_19 fun t23 w_22 => w_22 = w_19 ∧
 vload P T_Limpl_Term t23 w_19 fun t24 w_23 => w_23 = w_19 ∧
 viaddr P T_Limpl_Term t24 (sl 0 u) w_19 fun t26 w_24 => w_24 = w_19 ∧
 vload P T_impl_Term t26 w_19 fun t27 w_25 => w_25 = w_19 ∧
 vcall P n_spec_l3Copy #[t27] w_19 fun t28 w_26 => (vload P T_Limpl_Term t21 w_26 fun v x => v = t22 ∧ x = w_26) ∧ (vfaddr P T_impl_Term t3 4 w_26 fun v x => v = t21 ∧ x = w_26) ∧
 vbuildS P T_Limpl_Term 1 [(0, t28)] w_26 fun t29 w_27 => (vload P T_Limpl_Term t21 w_27 fun v x => v = t22 ∧ x = w_27) ∧ (vfaddr P T_impl_Term t3 4 w_27 fun v x => v = t21 ∧ x = w_27) ∧
 vbi P .append [T_Limpl_Term, T_Limpl_Term] T_Limpl_Term [t22, t29] w_27 fun t30 w_28 =>
 vfaddr P T_impl_Term t3 4 w_28 fun t31 w_29 => w_29 = w_28 ∧
 vstore P T_Limpl_Term t31 t30 w_28 fun _ w_30 =>
 vbin P .add T_int true (sl 0 u) (.int .i64 1) w_30 fun t20 w_31 =>
 C [t20] w_31) (
 vload P T_impl_Term t3 w_18 fun t32 w_32 =>
 vstore P T_impl_Term t2 t32 w_32 fun _ w_33 =>
 vlv P T_impl_Term t2 w_33 fun r2 w_34 =>
 R r2 w_34)
def A_spec_l3Copy : Ann := { ord := [(5, [0, 1, 2, 3, 4, 5, 6, 7, 8, 9, 10, 11], [(0, [1, 9, 10, 11]), (1, [9, 10, 11]), (2, [3, 5, 6, 7, 8, 9, 10, 11]), (3, [5, 6, 7, 8, 9, 10, 11]), (4, [5, 6, 7, 8, 9, 10, 11]), (5, [6, 7, 8, 9, 10, 11]), (6, [7, 8, 9, 10, 11]), (7, [8, 9, 10, 11]), (8, [9, 10, 11]), (9, [10, 11]), (10, [11])])], loops := [(3, [4])], cuts := [] }
theorem k_spec_l3Copy (v0 : Value) (w : World) (R : Value → World → Prop) : vc PP A_spec_l3Copy ((Tryz.f45.body).getD .skip) (retF PP Tryz.f45.results.toList R) (nthV [v0]) w = F_spec_l3Copy PP v0 w R := by kernel_rfl
theorem c_spec_l3Copy {v0 : Value} {w : World} {R : Value → World → Prop} (h : F_spec_l3Copy PP v0 w R) : vcall PP n_spec_l3Copy #[v0] w R :=
  call_of_vc (T := A_spec_l3Copy) (c := (Tryz.f45.body).getD .skip) (n := 33) mixed Tryz.func45 rfl rfl (by kernel_rfl) (by kernel_rfl) rfl (by rw [k_spec_l3Copy]; exact h)
def F_spec_l3Fold (P : Program) (v0 v1 : Value) (w : World) (R : Value → World → Prop) : Prop :=
 vbox P T_impl_Term v1 w fun t3 w_1 =>
 valloc P T_impl_Term w_1 fun t4 w_2 =>
 vfaddr P T_impl_Term t3 0 w_2 fun t7 w_3 =>
 vload P T_int t7 w_3 fun t8 w_4 =>
 vfaddr P T_impl_Term t3 1 w_4 fun t9 w_5 =>
 vload P T_int t9 w_5 fun t10 w_6 =>
 vfaddr P T_impl_Term t3 2 w_6 fun t11 w_7 =>
 vload P T_int t11 w_7 fun t12 w_8 =>
 vfaddr P T_impl_Term t3 3 w_8 fun t13 w_9 =>
 vload P T_string t13 w_9 fun t14 w_10 =>
 vbuild P T_impl_Term [(0, t8), (1, t10), (2, t12), (3, t14)] w_10 fun t15 w_11 =>
 valloc P T_impl_Term w_11 fun t5 w_12 =>
 vstore P T_impl_Term t5 t15 w_12 fun _ w_13 =>
 vloop [(.int .i64 0)] w_13 fun C u _ w_14 =>
 vfaddr P T_impl_Term t3 4 w_14 fun t17 w_15 =>
 vload P T_Limpl_Term t17 w_15 fun t18 w_16 =>
 vbi P .len [T_Limpl_Term] T_int [t18] w_16 fun t19 w_17 =>
 vbin P .lss T_int false (sl 0 u) t19 w_17 fun t20 w_18 =>
 vif t20 (
 vdraw w_18 fun w_19 =>
 vfaddr P T_impl_Term t5 4 w_19 fun t23 w_20 => w_20 = w_19 ∧
 vload P T_Limpl_Term t23 w_19 fun t24 w_21 => w_21 = w_19 ∧
 vfaddr P T_impl_Term t3 4 w_19 fun t26 w_22 => w_22 = w_19 ∧
 vload P T_Limpl_Term t26 w_19 fun t27 w_23 => w_23 = w_19 ∧
 viaddr P T_Limpl_Term t27 (sl 0 u) w_19 fun t29 w_24 => w_24 = w_19 ∧
 vload P T_impl_Term t29 w_19 fun t30 w_25 => w_25 = w_19 ∧
 vcall P n_spec_l3Fold #[v0, t30] w_19 fun t31 w_26 => (vload P T_Limpl_Term t23 w_26 fun v x => v = t24 ∧ x = w_26) ∧ (vfaddr P T_impl_Term t5 4 w_26 fun v x => v = t23 ∧ x = w_26) ∧
 vbuildS P T_Limpl_Term 1 [(0, t31)] w_26 fun t32 w_27 => (vload P T_Limpl_Term t23 w_27 fun v x => v = t24 ∧ x = w_27) ∧ (vfaddr P T_impl_Term t5 4 w_27 fun v x => v = t23 ∧ x = w_27) ∧
 vbi P .append [T_Limpl_Term, T_Limpl_Term] T_Limpl_Term [t24, t32] w_27 fun t33 w_28 =>
 vfaddr P T_impl_Term t5 4 w_28 fun t34 w_29 => w_29 = w_28 ∧
 vstore P T_Limpl_Term t34 t33 w_28 fun _ w_30 =>
 vbin P .add T_int true (sl 0 u) (.int .i64 1) w_30 fun t22 w_31 =>
 C [t22] w_31) (
 vload P T_impl_Term t5 w_18 fun t36 w_32 =>
 vcall P n_spec_l3One #[v0, t36] w_32 fun t37 w_33 =>
 vstore P T_impl_Term t4 t37 w_33 fun _ w_34 =>
 vlv P T_impl_Term t4 w_34 fun r4 w_35 =>
 R r4 w_35)
def A_spec_l3Fold : Ann := { ord := [(5, [0, 1, 2, 3, 4, 5, 6, 7, 8, 9, 10, 11, 12], [(0, [1, 10, 11, 12]), (1, [10, 11, 12]), (2, [8, 9, 10, 11, 12]), (3, [4, 6, 7, 8, 9, 10, 11, 12]), (4, [6, 7, 8, 9, 10, 11, 12]), (5, [6, 7, 8, 9, 10, 11, 12]), (6, [7, 8, 9, 10, 11, 12]), (7, [8, 9, 10, 11, 12]), (8, [9, 10, 11, 12]), (9, [10, 11, 12]), (10, [11, 12]), (11, [12])])], loops := [(3, [6])], cuts := [] }
theorem k_spec_l3Fold (v0 v1 : Value) (w : World) (R : Value → World → Prop) : vc PP A_spec_l3Fold ((Tryz.f46.body).getD .skip) (retF PP Tryz.f46.results.toList R) (nthV [v0, v1]) w = F_spec_l3Fold PP v0 v1 w R := by kernel_rfl
theorem c_spec_l3Fold {v0 v1 : Value} {w : World} {R : Value → World → Prop} (h : F_spec_l3Fold PP v0 v1 w R) : vcall PP n_spec_l3Fold #[v0, v1] w R :=
  call_of_vc (T := A_spec_l3Fold) (c := (Tryz.f46.body).getD .skip) (n := 38) mixed Tryz.func46 rfl rfl (by kernel_rfl) (by kernel_rfl) rfl (by rw [k_spec_l3Fold]; exact h)
def F_spec_TermMany (P : Program) (v0 : Value) (w : World) (R : Value → World → Prop) : Prop :=
 vbox P T_impl_Term v0 w fun t1 w_1 =>
 vloop [(.int .i64 1), (.int .i64 0), (.int .i64 0)] w_1 fun C u _ w_2 =>
 vjoin (fun J =>
 vfaddr P T_impl_Term t1 4 w_2 fun t10 w_4 =>
 vload P T_Limpl_Term t10 w_4 fun t11 w_5 =>
 vbi P .len [T_Limpl_Term] T_int [t11] w_5 fun t12 w_6 =>
 vbin P .lss T_int false (sl 2 u) t12 w_6 fun t13 w_7 =>
 vif t13 (
 vbin P .leq T_int true (sl 0 u) (.int .i64 20) w_7 fun t16 w_8 =>
 vif t16 (
 J [] w_8) (
 vbin P .add T_int true (sl 1 u) (.int .i64 1) w_8 fun t36 w_9 =>
 vbin P .gtr T_int true (sl 0 u) (.int .i64 20) w_9 fun t38 w_10 =>
 vif t38 (
 R (.tuple #[(.int .i64 21), (.int .i64 8)]) w_10) (
 vbin P .gtr T_int true t36 (.int .i64 7) w_10 fun t41 w_11 =>
 vif t41 (
 R (.tuple #[(.int .i64 21), (.int .i64 8)]) w_11) (
 R (.tuple #[(sl 0 u), t36]) w_11)))) (
 vbin P .add T_int true (sl 1 u) (.int .i64 1) w_7 fun t36_1 w_12 =>
 vbin P .gtr T_int true (sl 0 u) (.int .i64 20) w_12 fun t38_1 w_13 =>
 vif t38_1 (
 R (.tuple #[(.int .i64 21), (.int .i64 8)]) w_13) (
 vbin P .gtr T_int true t36_1 (.int .i64 7) w_13 fun t41_1 w_14 =>
 vif t41_1 (
 R (.tuple #[(.int .i64 21), (.int .i64 8)]) w_14) (
 R (.tuple #[(sl 0 u), t36_1]) w_14)))) (fun _ _ w_3 =>
 vfaddr P T_impl_Term t1 4 w_3 fun t21 w_15 =>
 vload P T_Limpl_Term t21 w_15 fun t22 w_16 =>
 viaddr P T_Limpl_Term t22 (sl 2 u) w_16 fun t24 w_17 =>
 vload P T_impl_Term t24 w_17 fun t25 w_18 =>
 vcall P n_spec_TermMany #[t25] w_18 fun t26 w_19 =>
 vextract P t26 0 w_19 fun t27 w_20 =>
 vextract P t26 1 w_20 fun t28 w_21 =>
 vbin P .add T_int false (sl 0 u) t27 w_21 fun t31 w_22 =>
 vcall P n_spec_l1Max #[(sl 1 u), t28] w_22 fun t34 w_23 =>
 vbin P .add T_int true (sl 2 u) (.int .i64 1) w_23 fun t19 w_24 =>
 C [t31, t34, t19] w_24)
def A_spec_TermMany : Ann := { ord := [], loops := [(4, [4, 5, 6])], cuts := [(20486, [])] }
theorem k_spec_TermMany (v0 : Value) (w : World) (R : Value → World → Prop) : vc PP A_spec_TermMany ((Tryz.f47.body).getD .skip) (retF PP Tryz.f47.results.toList R) (nthV [v0]) w = F_spec_TermMany PP v0 w R := by kernel_rfl
theorem c_spec_TermMany {v0 : Value} {w : World} {R : Value → World → Prop} (h : F_spec_TermMany PP v0 w R) : vcall PP n_spec_TermMany #[v0] w R :=
  call_of_vc (T := A_spec_TermMany) (c := (Tryz.f47.body).getD .skip) (n := 45) mixed Tryz.func47 rfl rfl (by kernel_rfl) (by kernel_rfl) rfl (by rw [k_spec_TermMany]; exact h)
def F_spec_DeclOk (P : Program) (v0 : Value) (w : World) (R : Value → World → Prop) : Prop :=
 vbi P .len [T_Limpl_Decl] T_int [v0] w fun t6 w_1 =>
 vbin P .gtr T_int true t6 (.int .i64 4) w_1 fun t7 w_2 =>
 vif t7 (
 R (.bool false) w_2) (
 vloop [(.int .i64 0), (.int .i64 0)] w_2 fun C u _ w_3 =>
 vbi P .len [T_Limpl_Decl] T_int [v0] w_3 fun t10 w_4 =>
 vbin P .lss T_int false (sl 1 u) t10 w_4 fun t11 w_5 =>
 vif t11 (
 vdraw w_5 fun w_6 =>
 viaddr P T_Limpl_Decl v0 (sl 1 u) w_6 fun t16 w_7 => w_7 = w_6 ∧
 vfaddr P T_impl_Decl t16 0 w_6 fun t17 w_8 => w_8 = w_6 ∧
 vload P T_string t17 w_6 fun t18 w_9 => w_9 = w_6 ∧
 vcall P n_spec_l2Name #[t18] w_6 fun t19 w_10 =>
 vun P .not t19 w_10 fun t20 w_11 => w_11 = w_10 ∧
 vif t20 (
 R (.bool false) w_10) (
 viaddr P T_Limpl_Decl v0 (sl 1 u) w_10 fun t24 w_12 => w_12 = w_10 ∧
 vfaddr P T_impl_Decl t24 1 w_10 fun t25 w_13 => w_13 = w_10 ∧
 vload P T_int t25 w_10 fun t26 w_14 => w_14 = w_10 ∧
 vbin P .lss T_int true t26 (.int .i64 1) w_10 fun t27 w_15 => w_15 = w_10 ∧
 vif t27 (
 R (.bool false) w_10) (
 viaddr P T_Limpl_Decl v0 (sl 1 u) w_10 fun t32 w_16 => w_16 = w_10 ∧
 vfaddr P T_impl_Decl t32 1 w_10 fun t33 w_17 => w_17 = w_10 ∧
 vload P T_int t33 w_10 fun t34 w_18 => w_18 = w_10 ∧
 vbin P .gtr T_int true t34 (.int .i64 4) w_10 fun t35 w_19 => w_19 = w_10 ∧
 vif t35 (
 R (.bool false) w_10) (
 vslice P T_Limpl_Decl v0 none (some (sl 1 u)) none w_10 fun t40 w_20 => w_20 = w_10 ∧
 viaddr P T_Limpl_Decl v0 (sl 1 u) w_10 fun t43 w_21 => w_21 = w_10 ∧
 vfaddr P T_impl_Decl t43 0 w_10 fun t44 w_22 => w_22 = w_10 ∧
 vload P T_string t44 w_10 fun t45 w_23 => w_23 = w_10 ∧
 vcall P n_spec_l2Find #[t40, t45] w_10 fun t46 w_24 =>
 vbin P .geq T_int true t46 (.int .i64 0) w_24 fun t47 w_25 => w_25 = w_24 ∧
 vif t47 (
 R (.bool false) w_24) (
 viaddr P T_Limpl_Decl v0 (sl 1 u) w_24 fun t52 w_26 =>
 vfaddr P T_impl_Decl t52 1 w_26 fun t53 w_27 =>
 vload P T_int t53 w_27 fun t54 w_28 =>
 vbin P .add T_int false (sl 0 u) t54 w_28 fun t55 w_29 =>
 vbin P .add T_int true (sl 1 u) (.int .i64 1) w_29 fun t13 w_30 =>
 C [t55, t13] w_30))))) (
 vbin P .leq T_int true (sl 0 u) (.int .i64 8) w_5 fun t57 w_31 =>
 R t57 w_31))
def A_spec_DeclOk : Ann := { ord := [(7, [0, 1, 2, 3, 4, 5, 6, 7, 8, 9, 10, 11, 12, 13, 14, 15, 16, 17, 18, 19, 20, 21, 22, 23, 24, 25, 26, 27, 28, 29, 30, 31, 32, 33, 34], [(0, [2, 3, 4, 5, 6, 7, 8, 9, 10, 11, 12, 13, 14, 15, 16, 17, 18, 19, 20, 21, 22, 23, 24, 25, 26, 27, 28, 29, 30, 31, 32, 33, 34]), (1, [2, 3, 4, 5, 6, 7, 8, 9, 10, 11, 12, 13, 14, 15, 16, 17, 18, 19, 20, 21, 22, 23, 24, 25, 26, 27, 28, 29, 30, 31, 32, 33, 34]), (2, [3, 4, 5, 6, 7, 8, 9, 10, 11, 12, 13, 14, 15, 16, 17, 18, 19, 20, 21, 22, 23, 24, 25, 26, 27, 28, 29, 30, 31, 32, 33, 34]), (3, [4, 5, 6, 7, 8, 9, 10, 11, 12, 13, 14, 15, 16, 17, 18, 19, 20, 21, 22, 23, 24, 25, 26, 27, 28, 29, 30, 31, 32, 33, 34]), (4, [5, 6, 7, 8, 9, 10, 11, 12, 13, 14, 15, 16, 17, 18, 19, 20, 21, 22, 23, 24, 25, 26, 27, 28, 29, 30, 31, 32, 33, 34]), (5, [6, 7, 8, 9, 10, 11, 12, 13, 14, 15, 16, 17, 18, 19, 20, 21, 22, 23, 24, 25, 26, 27, 28, 29, 30, 31, 32, 33, 34]), (6, [7, 8, 9, 10, 11, 12, 13, 14, 15, 16, 17, 18, 19, 20, 21, 22, 23, 24, 25, 26, 27, 28, 29, 30, 31, 32, 33, 34]), (7, [8, 9, 10, 11, 12, 13, 14, 15, 16, 17, 18, 19, 20, 21, 22, 23, 24, 25, 26, 27, 28, 29, 30, 31, 32, 33, 34]), (8, [10, 11, 12, 13, 14, 15, 16, 17, 18, 19, 20, 21, 22, 23, 24, 25, 26, 27, 28, 29, 30, 31, 32, 33, 34]), (9, [10, 11, 12, 13, 14, 15, 16, 17, 18, 19, 20, 21, 22, 23, 24, 25, 26, 27, 28, 29, 30, 31, 32, 33, 34]), (10, [11, 12, 13, 14, 15, 16, 17, 18, 19, 20, 21, 22, 23, 24, 25, 26, 27, 28, 29, 30, 31, 32, 33, 34]), (11, [12, 13, 14, 15, 16, 17, 18, 19, 20, 21, 22, 23, 24, 25, 26, 27, 28, 29, 30, 31, 32, 33, 34]), (12, [13, 14, 15, 16, 17, 18, 19, 20, 21, 22, 23, 24, 25, 26, 27, 28, 29, 30, 31, 32, 33, 34]), (13, [14, 15, 16, 17, 18, 19, 20, 21, 22, 23, 24, 25, 26, 27, 28, 29, 30, 31, 32, 33, 34]), (14, [15, 16, 17, 18, 19, 20, 21, 22, 23, 24, 25, 26, 27, 28, 29, 30, 31, 32, 33, 34]), (15, [16, 17, 18, 19, 20, 21, 22, 23, 24, 25, 26, 27, 28, 29, 30, 31, 32, 33, 34]), (16, [18, 19, 20, 21, 22, 23, 24, 25, 26, 27, 28, 29, 30, 31, 32, 33, 34]), (17, [18, 19, 20, 21, 22, 23, 24, 25, 26, 27, 28, 29, 30, 31, 32, 33, 34]), (18, [19, 20, 21, 22, 23, 24, 25, 26, 27, 28, 29, 30, 31, 32, 33, 34]), (19, [20, 21, 22, 23, 24, 25, 26, 27, 28, 29, 30, 31, 32, 33, 34]), (20, [21, 22, 23, 24, 25, 26, 27, 28, 29, 30, 31, 32, 33, 34]), (21, [22, 23, 24, 25, 26, 27, 28, 29, 30, 31, 32, 33, 34]), (22, [23, 24, 25, 26, 27, 28, 29, 30, 31, 32, 33, 34]), (23, [24, 25, 26, 27, 28, 29, 30, 31, 32, 33, 34]), (24, [26, 32, 33, 34]), (25, [26, 32, 33, 34]), (26, [32, 33, 34]), (27, [29, 30, 31, 32, 33, 34]), (28, [29, 30, 31, 32, 33, 34]), (29, [30, 31, 32, 33, 34]), (30, [31, 32, 33, 34]), (31, [32, 33, 34]), (32, [33, 34]), (33, [34])])], loops := [(5, [3, 4])], cuts := [] }
theorem k_spec_DeclOk (v0 : Value) (w : World) (R : Value → World → Prop) : vc PP A_spec_DeclOk ((Tryz.f48.body).getD .skip) (retF PP Tryz.f48.results.toList R) (nthV [v0]) w = F_spec_DeclOk PP v0 w R := by kernel_rfl
theorem c_spec_DeclOk {v0 : Value} {w : World} {R : Value → World → Prop} (h : F_spec_DeclOk PP v0 w R) : vcall PP n_spec_DeclOk #[v0] w R :=
  call_of_vc (T := A_spec_DeclOk) (c := (Tryz.f48.body).getD .skip) (n := 58) mixed Tryz.func48 rfl rfl (by kernel_rfl) (by kernel_rfl) rfl (by rw [k_spec_DeclOk]; exact h)
def F_spec_l2Sort (P : Program) (v0 v1 : Value) (w : World) (R : Value → World → Prop) : Prop :=
 vbox P T_impl_Term v1 w fun t3 w_1 =>
 vload P T_impl_Term t3 w_1 fun t8 w_2 =>
 vcall P n_spec_l2Plain #[t8] w_2 fun t9 w_3 =>
 vun P .not t9 w_3 fun t10 w_4 =>
 vif t10 (
 R (.int .i64 (-1)) w_4) (
 vfaddr P T_impl_Term t3 0 w_4 fun t11 w_5 =>
 vload P T_int t11 w_5 fun t12 w_6 =>
 vbin P .eql T_int true t12 (.int .i64 20) w_6 fun t14 w_7 =>
 vif t14 (
 vfaddr P T_impl_Term t3 1 w_7 fun t15 w_8 =>
 vload P T_int t15 w_8 fun t16 w_9 =>
 vfaddr P T_impl_Term t3 2 w_9 fun t17 w_10 =>
 vload P T_int t17 w_10 fun t18 w_11 =>
 vbuild P T_impl_Vec [(0, t16), (1, t18)] w_11 fun t19 w_12 =>
 vcall P n_spec_VecOk #[t19] w_12 fun t20 w_13 =>
 vif t20 (
 vfaddr P T_impl_Term t3 1 w_13 fun t21 w_14 =>
 vload P T_int t21 w_14 fun t22 w_15 =>
 R t22 w_15) (
 R (.int .i64 (-1)) w_13)) (
 vbin P .eql T_int true t12 (.int .i64 21) w_7 fun t24 w_16 =>
 vif t24 (
 vfaddr P T_impl_Term t3 3 w_16 fun t26 w_17 =>
 vload P T_string t26 w_17 fun t27 w_18 =>
 vcall P n_spec_l2Find #[v0, t27] w_18 fun t28 w_19 =>
 vbin P .lss T_int true t28 (.int .i64 0) w_19 fun t30 w_20 =>
 vif t30 (
 R (.int .i64 (-1)) w_20) (
 viaddr P T_Limpl_Decl v0 t28 w_20 fun t33 w_21 =>
 vfaddr P T_impl_Decl t33 1 w_21 fun t34 w_22 =>
 vload P T_int t34 w_22 fun t35 w_23 =>
 R t35 w_23)) (
 vbin P .eql T_int true t12 (.int .i64 24) w_16 fun t37 w_24 =>
 vif t37 (
 R (.int .i64 0) w_24) (
 vfaddr P T_impl_Term t3 4 w_24 fun t39 w_25 =>
 vload P T_Limpl_Term t39 w_25 fun t40 w_26 =>
 viaddr P T_Limpl_Term t40 (.int .i64 0) w_26 fun t41 w_27 =>
 vload P T_impl_Term t41 w_27 fun t42 w_28 =>
 vcall P n_spec_l2Sort #[v0, t42] w_28 fun t43 w_29 =>
 vfaddr P T_impl_Term t3 4 w_29 fun t44 w_30 =>
 vload P T_Limpl_Term t44 w_30 fun t45 w_31 =>
 vbi P .len [T_Limpl_Term] T_int [t45] w_31 fun t46 w_32 =>
 vbin P .eql T_int true t46 (.int .i64 1) w_32 fun t47 w_33 =>
 vif t47 (
 vload P T_impl_Term t3 w_33 fun t48 w_34 =>
 vcall P n_spec_l2One #[t48, t43] w_34 fun t50 w_35 =>
 R t50 w_35) (
 vfaddr P T_impl_Term t3 4 w_33 fun t52 w_36 =>
 vload P T_Limpl_Term t52 w_36 fun t53 w_37 =>
 viaddr P T_Limpl_Term t53 (.int .i64 1) w_37 fun t54 w_38 =>
 vload P T_impl_Term t54 w_38 fun t55 w_39 =>
 vcall P n_spec_l2Sort #[v0, t55] w_39 fun t56 w_40 =>
 vfaddr P T_impl_Term t3 4 w_40 fun t57 w_41 =>
 vload P T_Limpl_Term t57 w_41 fun t58 w_42 =>
 vbi P .len [T_Limpl_Term] T_int [t58] w_42 fun t59 w_43 =>
 vbin P .eql T_int true t59 (.int .i64 2) w_43 fun t60 w_44 =>
 vif t60 (
 vfaddr P T_impl_Term t3 0 w_44 fun t61 w_45 =>
 vload P T_int t61 w_45 fun t62 w_46 =>
 vcall P n_spec_l2Both #[t62, t43, t56] w_46 fun t65 w_47 =>
 R t65 w_47) (
 vbin P .neq T_int true t43 (.int .i64 0) w_44 fun t67 w_48 =>
 vif t67 (
 R (.int .i64 (-1)) w_48) (
 vfaddr P T_impl_Term t3 4 w_48 fun t71 w_49 =>
 vload P T_Limpl_Term t71 w_49 fun t72 w_50 =>
 viaddr P T_Limpl_Term t72 (.int .i64 2) w_50 fun t73 w_51 =>
 vload P T_impl_Term t73 w_51 fun t74 w_52 =>
 vcall P n_spec_l2Sort #[v0, t74] w_52 fun t75 w_53 =>
 vbin P .neq T_int false t56 t75 w_53 fun t76 w_54 =>
 vif t76 (
 R (.int .i64 (-1)) w_54) (
 R t56 w_54))))))))
def A_spec_l2Sort : Ann := { ord := [], loops := [], cuts := [] }
theorem k_spec_l2Sort (v0 v1 : Value) (w : World) (R : Value → World → Prop) : vc PP A_spec_l2Sort ((Tryz.f49.body).getD .skip) (retF PP Tryz.f49.results.toList R) (nthV [v0, v1]) w = F_spec_l2Sort PP v0 v1 w R := by kernel_rfl
theorem c_spec_l2Sort {v0 v1 : Value} {w : World} {R : Value → World → Prop} (h : F_spec_l2Sort PP v0 v1 w R) : vcall PP n_spec_l2Sort #[v0, v1] w R :=
  call_of_vc (T := A_spec_l2Sort) (c := (Tryz.f49.body).getD .skip) (n := 79) mixed Tryz.func49 rfl rfl (by kernel_rfl) (by kernel_rfl) rfl (by rw [k_spec_l2Sort]; exact h)
def F_impl_folder_one (P : Program) (v0 v1 : Value) (w : World) (R : Value → World → Prop) : Prop :=
 vbox P T_impl_folder v0 w fun t2 w_1 =>
 vbox P T_impl_Term v1 w_1 fun t3 w_2 =>
 valloc P T_impl_Term w_2 fun t4 w_3 =>
 vload P T_impl_folder t2 w_3 fun t9 w_4 =>
 vcall P n_impl_folder_rules #[t9] w_4 fun t10 w_5 =>
 vbi P .len [T_Lfunc_impl_Term_impl_Term_bool] T_int [t10] w_5 fun t11 w_6 =>
 vloop [(.int .i64 0)] w_6 fun C u _ w_7 =>
 vbin P .lss T_int false (sl 0 u) t11 w_7 fun t13 w_8 =>
 vif t13 (
 viaddr P T_Lfunc_impl_Term_impl_Term_bool t10 (sl 0 u) w_8 fun t14 w_9 =>
 vload P T_F_func_impl_Term_impl_Term_bool_132 t14 w_9 fun t15 w_10 =>
 vload P T_impl_Term t3 w_10 fun t18 w_11 =>
 vcallv P t15 #[t18] w_11 fun t19 w_12 =>
 vextract P t19 0 w_12 fun t20 w_13 =>
 vextract P t19 1 w_13 fun t21 w_14 =>
 valloc P T_impl_Term w_14 fun t7 w_15 =>
 vstore P T_impl_Term t7 t20 w_15 fun _ w_16 =>
 vif t21 (
 vload P T_impl_Term t7 w_16 fun t23 w_17 =>
 vstore P T_impl_Term t4 t23 w_17 fun _ w_18 =>
 vlv P T_impl_Term t4 w_18 fun r4 w_19 =>
 R r4 w_19) (
 vbin P .add T_int true (sl 0 u) (.int .i64 1) w_16 fun t24 w_20 =>
 C [t24] w_20)) (
 vload P T_impl_Term t3 w_8 fun t25 w_21 =>
 vstore P T_impl_Term t4 t25 w_21 fun _ w_22 =>
 vlv P T_impl_Term t4 w_22 fun r4_1 w_23 =>
 R r4_1 w_23)
def A_impl_folder_one : Ann := { ord := [], loops := [(2, [12])], cuts := [] }
theorem k_impl_folder_one (v0 v1 : Value) (w : World) (R : Value → World → Prop) : vc PP A_impl_folder_one ((Tryz.f50.body).getD .skip) (retF PP Tryz.f50.results.toList R) (nthV [v0, v1]) w = F_impl_folder_one PP v0 v1 w R := by kernel_rfl
theorem c_impl_folder_one {v0 v1 : Value} {w : World} {R : Value → World → Prop} (h : F_impl_folder_one PP v0 v1 w R) : vcall PP n_impl_folder_one #[v0, v1] w R :=
  call_of_vc (T := A_impl_folder_one) (c := (Tryz.f50.body).getD .skip) (n := 26) mixed Tryz.func50 rfl rfl (by kernel_rfl) (by kernel_rfl) rfl (by rw [k_impl_folder_one]; exact h)
def F_spec_l3One (P : Program) (v0 v1 : Value) (w : World) (R : Value → World → Prop) : Prop :=
 vbox P T_impl_Term v1 w fun t3 w_1 =>
 valloc P T_impl_Term w_1 fun t4 w_2 =>
 vload P T_impl_Term t3 w_2 fun t8 w_3 =>
 vcall P n_spec_l2Sort #[v0, t8] w_3 fun t9 w_4 =>
 vload P T_impl_Term t3 w_4 fun t10 w_5 =>
 vcall P n_spec_l3All #[t10] w_5 fun t11 w_6 =>
 vif t11 (
 vload P T_impl_Term t3 w_6 fun t13 w_7 =>
 vbuildS P T_Lint 0 [] w_7 fun t14 w_8 =>
 vcall P n_spec_l2Eval #[v0, t13, t14] w_8 fun t15 w_9 =>
 vbin P .eql T_int true t9 (.int .i64 0) w_9 fun t17 w_10 =>
 vif t17 (
 vbin P .eql T_int true t15 (.int .i64 1) w_10 fun t19 w_11 =>
 vcall P n_spec_l3Bool #[t19] w_11 fun t20 w_12 =>
 vstore P T_impl_Term t4 t20 w_12 fun _ w_13 =>
 vlv P T_impl_Term t4 w_13 fun r4 w_14 =>
 R r4 w_14) (
 vbuild P T_impl_Term [(0, (.int .i64 20)), (1, t9), (2, t15)] w_10 fun t23 w_15 =>
 vstore P T_impl_Term t4 t23 w_15 fun _ w_16 =>
 vlv P T_impl_Term t4 w_16 fun r4_1 w_17 =>
 R r4_1 w_17)) (
 vfaddr P T_impl_Term t3 4 w_6 fun t25 w_18 =>
 vload P T_Limpl_Term t25 w_18 fun t26 w_19 =>
 vbi P .len [T_Limpl_Term] T_int [t26] w_19 fun t27 w_20 =>
 vbin P .eql T_int true t27 (.int .i64 0) w_20 fun t28 w_21 =>
 vif t28 (
 vload P T_impl_Term t3 w_21 fun t29 w_22 =>
 vstore P T_impl_Term t4 t29 w_22 fun _ w_23 =>
 vlv P T_impl_Term t4 w_23 fun r4_2 w_24 =>
 R r4_2 w_24) (
 vfaddr P T_impl_Term t3 0 w_21 fun t31 w_25 =>
 vload P T_int t31 w_25 fun t32 w_26 =>
 vbin P .geq T_int true t32 (.int .i64 23) w_26 fun t33 w_27 =>
 vif t33 (
 vload P T_impl_Term t3 w_27 fun t34 w_28 =>
 vcall P n_spec_l3Logic #[t34] w_28 fun t35 w_29 =>
 vstore P T_impl_Term t4 t35 w_29 fun _ w_30 =>
 vlv P T_impl_Term t4 w_30 fun r4_3 w_31 =>
 R r4_3 w_31) (
 vfaddr P T_impl_Term t3 0 w_27 fun t37 w_32 =>
 vload P T_int t37 w_32 fun t38 w_33 =>
 vbin P .eql T_int true t38 (.int .i64 22) w_33 fun t39 w_34 =>
 vif t39 (
 vfaddr P T_impl_Term t3 4 w_34 fun t42 w_35 =>
 vload P T_Limpl_Term t42 w_35 fun t43 w_36 =>
 viaddr P T_Limpl_Term t43 (.int .i64 0) w_36 fun t44 w_37 =>
 vload P T_impl_Term t44 w_37 fun t45 w_38 =>
 vcall P n_spec_l2Sort #[v0, t45] w_38 fun t46 w_39 =>
 vbin P .eql T_int false t9 t46 w_39 fun t47 w_40 =>
 vif t47 (
 vfaddr P T_impl_Term t3 4 w_40 fun t48 w_41 =>
 vload P T_Limpl_Term t48 w_41 fun t49 w_42 =>
 viaddr P T_Limpl_Term t49 (.int .i64 0) w_42 fun t50 w_43 =>
 vload P T_impl_Term t50 w_43 fun t51 w_44 =>
 vstore P T_impl_Term t4 t51 w_44 fun _ w_45 =>
 vlv P T_impl_Term t4 w_45 fun r4_4 w_46 =>
 R r4_4 w_46) (
 vload P T_impl_Term t3 w_40 fun t52 w_47 =>
 vstore P T_impl_Term t4 t52 w_47 fun _ w_48 =>
 vlv P T_impl_Term t4 w_48 fun r4_5 w_49 =>
 R r4_5 w_49)) (
 vfaddr P T_impl_Term t3 4 w_34 fun t54 w_50 =>
 vload P T_Limpl_Term t54 w_50 fun t55 w_51 =>
 vbi P .len [T_Limpl_Term] T_int [t55] w_51 fun t56 w_52 =>
 vbin P .eql T_int true t56 (.int .i64 1) w_52 fun t57 w_53 =>
 vif t57 (
 vdraw w_53 fun w_54 =>
 vfaddr P T_impl_Term t3 4 w_54 fun t58 w_55 => w_55 = w_54 ∧
 vload P T_Limpl_Term t58 w_54 fun t59 w_56 => w_56 = w_54 ∧
 viaddr P T_Limpl_Term t59 (.int .i64 0) w_54 fun t60 w_57 => w_57 = w_54 ∧
 vfaddr P T_impl_Term t60 0 w_54 fun t61 w_58 => w_58 = w_54 ∧
 vload P T_int t61 w_54 fun t62 w_59 => w_59 = w_54 ∧
 vfaddr P T_impl_Term t3 0 w_54 fun t63 w_60 => w_60 = w_54 ∧
 vload P T_int t63 w_54 fun t64 w_61 => w_61 = w_54 ∧
 vbin P .eql T_int false t62 t64 w_54 fun t65 w_62 => w_62 = w_54 ∧
 vif t65 (
 vfaddr P T_impl_Term t3 4 w_54 fun t66 w_63 =>
 vload P T_Limpl_Term t66 w_63 fun t67 w_64 =>
 viaddr P T_Limpl_Term t67 (.int .i64 0) w_64 fun t68 w_65 =>
 vfaddr P T_impl_Term t68 4 w_65 fun t69 w_66 =>
 vload P T_Limpl_Term t69 w_66 fun t70 w_67 =>
 viaddr P T_Limpl_Term t70 (.int .i64 0) w_67 fun t71 w_68 =>
 vload P T_impl_Term t71 w_68 fun t72 w_69 =>
 vstore P T_impl_Term t4 t72 w_69 fun _ w_70 =>
 vlv P T_impl_Term t4 w_70 fun r4_6 w_71 =>
 R r4_6 w_71) (
 vload P T_impl_Term t3 w_54 fun t73 w_72 =>
 vstore P T_impl_Term t4 t73 w_72 fun _ w_73 =>
 vlv P T_impl_Term t4 w_73 fun r4_7 w_74 =>
 R r4_7 w_74)) (
 vdraw w_53 fun w_75 =>
 vload P T_impl_Term t3 w_75 fun t74 w_76 => w_76 = w_75 ∧
 vfaddr P T_impl_Term t3 4 w_75 fun t76 w_77 => w_77 = w_75 ∧
 vload P T_Limpl_Term t76 w_75 fun t77 w_78 => w_78 = w_75 ∧
 viaddr P T_Limpl_Term t77 (.int .i64 0) w_75 fun t78 w_79 => w_79 = w_75 ∧
 vload P T_impl_Term t78 w_75 fun t79 w_80 => w_80 = w_75 ∧
 vcall P n_spec_l2Sort #[v0, t79] w_75 fun t80 w_81 => (vload P T_impl_Term t3 w_81 fun v x => v = t74 ∧ x = w_81) ∧
 vcall P n_spec_l3Two #[t74, t80] w_81 fun t81 w_82 =>
 vstore P T_impl_Term t4 t81 w_82 fun _ w_83 =>
 vlv P T_impl_Term t4 w_83 fun r4_8 w_84 =>
 R r4_8 w_84)))))
def A_spec_l3One : Ann := { ord := [(16, [0, 1, 2, 3, 4, 5, 6, 7], [(0, [1, 2, 3, 4, 7]), (1, [2, 3, 4, 7]), (2, [3, 4, 7]), (3, [4, 7]), (4, [7]), (5, [6, 7]), (6, [7])]), (19, [0, 1, 2, 3, 4, 5, 6, 7, 8], [(0, [7, 8]), (1, [6, 7, 8]), (2, [3, 4, 5, 6, 7, 8]), (3, [4, 5, 6, 7, 8]), (4, [5, 6, 7, 8]), (5, [6, 7, 8]), (6, [7, 8]), (7, [8])])], loops := [], cuts := [] }
theorem k_spec_l3One (v0 v1 : Value) (w : World) (R : Value → World → Prop) : vc PP A_spec_l3One ((Tryz.f53.body).getD .skip) (retF PP Tryz.f53.results.toList R) (nthV [v0, v1]) w = F_spec_l3One PP v0 v1 w R := by kernel_rfl
theorem c_spec_l3One {v0 v1 : Value} {w : World} {R : Value → World → Prop} (h : F_spec_l3One PP v0 v1 w R) : vcall PP n_spec_l3One #[v0, v1] w R :=
  call_of_vc (T := A_spec_l3One) (c := (Tryz.f53.body).getD .skip) (n := 82) mixed Tryz.func53 rfl rfl (by kernel_rfl) (by kernel_rfl) rfl (by rw [k_spec_l3One]; exact h)
def F_slices_ContainsFunc_Limpl_Decl_impl_Decl (P : Program) (v0 v1 : Value) (w : World) (R : Value → World → Prop) : Prop :=
 vcall P n_slices_IndexFunc_Limpl_Decl_impl_Decl #[v0, v1] w fun t7 w_1 =>
 vbin P .geq T_int true t7 (.int .i64 0) w_1 fun t8 w_2 =>
 R t8 w_2
def A_slices_ContainsFunc_Limpl_Decl_impl_Decl : Ann := { ord := [], loops := [], cuts := [] }
theorem k_slices_ContainsFunc_Limpl_Decl_impl_Decl (v0 v1 : Value) (w : World) (R : Value → World → Prop) : vc PP A_slices_ContainsFunc_Limpl_Decl_impl_Decl ((Tryz.f62.body).getD .skip) (retF PP Tryz.f62.results.toList R) (nthV [v0, v1]) w = F_slices_ContainsFunc_Limpl_Decl_impl_Decl PP v0 v1 w R := by kernel_rfl
theorem c_slices_ContainsFunc_Limpl_Decl_impl_Decl {v0 v1 : Value} {w : World} {R : Value → World → Prop} (h : F_slices_ContainsFunc_Limpl_Decl_impl_Decl PP v0 v1 w R) : vcall PP n_slices_ContainsFunc_Limpl_Decl_impl_Decl #[v0, v1] w R :=
  call_of_vc (T := A_slices_ContainsFunc_Limpl_Decl_impl_Decl) (c := (Tryz.f62.body).getD .skip) (n := 9) mixed Tryz.func62 rfl rfl (by kernel_rfl) (by kernel_rfl) rfl (by rw [k_slices_ContainsFunc_Limpl_Decl_impl_Decl]; exact h)
def F_impl_DeclOk_1 (P : Program) (v0 v1 : Value) (w : World) (R : Value → World → Prop) : Prop :=
 vbox P T_impl_Decl v0 w fun t2 w_1 =>
 vfaddr P T_impl_Decl t2 0 w_1 fun t4 w_2 =>
 vload P T_string t4 w_2 fun t5 w_3 =>
 vfaddr P T_impl_Decl v1 0 w_3 fun t6 w_4 =>
 vload P T_string t6 w_4 fun t7 w_5 =>
 vbin P .eql T_string false t5 t7 w_5 fun t8 w_6 =>
 R t8 w_6
def A_impl_DeclOk_1 : Ann := { ord := [], loops := [], cuts := [] }
theorem k_impl_DeclOk_1 (v0 v1 : Value) (w : World) (R : Value → World → Prop) : vc PP A_impl_DeclOk_1 ((Tryz.f63.body).getD .skip) (retF PP Tryz.f63.results.toList R) (nthV [v0, v1]) w = F_impl_DeclOk_1 PP v0 v1 w R := by kernel_rfl
theorem c_impl_DeclOk_1 {v0 v1 : Value} {w : World} {R : Value → World → Prop} (h : F_impl_DeclOk_1 PP v0 v1 w R) : vcall PP n_impl_DeclOk_1 #[v0, v1] w R :=
  call_of_vc (T := A_impl_DeclOk_1) (c := (Tryz.f63.body).getD .skip) (n := 9) mixed Tryz.func63 rfl rfl (by kernel_rfl) (by kernel_rfl) rfl (by rw [k_impl_DeclOk_1]; exact h)
end Go.Proofs.YtcfgmgjofmbfhaaGreatDoor
end
