import Derived.Test.YtcfgmgjofmbfhaaGreatDoorWsjP2
import Derived.Test.YtcfgmgjofmbfhaaGreatDoorWsjP3
import Derived.Test.YtcfgmgjofmbfhaaGreatDoorWsjP4
import Derived.Test.YtcfgmgjofmbfhaaGreatDoorWsjP5
import Derived.Test.YtcfgmgjofmbfhaaGreatDoorWsjP6
/- A part of the proof: F5, Ta. -/
set_option linter.unusedVariables false
set_option linter.unusedSimpArgs false
set_option linter.unnecessarySimpa false
set_option linter.unusedSectionVars false
section
namespace Go.Proofs.YtcfgmgjofmbfhaaGreatDoor
open Go Go.Vc Go.Proofs
def F_impl_sorted (P : Program) (v0 v1 : Value) (w : World) (R : Value → World → Prop) : Prop :=
 vif v0 (
 R v1 w) (
 R (.int .i64 (-1)) w)
def A_impl_sorted : Ann := { ord := [], loops := [], cuts := [] }
theorem k_impl_sorted (v0 v1 : Value) (w : World) (R : Value → World → Prop) : vc PP A_impl_sorted ((Tryz.f183.body).getD .skip) (retF PP Tryz.f183.results.toList R) (nthV [v0, v1]) w = F_impl_sorted PP v0 v1 w R := by kernel_rfl
theorem c_impl_sorted {v0 v1 : Value} {w : World} {R : Value → World → Prop} (h : F_impl_sorted PP v0 v1 w R) : vcall PP n_impl_sorted #[v0, v1] w R :=
  call_of_vc (T := A_impl_sorted) (c := (Tryz.f183.body).getD .skip) (n := 7) mixed Tryz.func183 rfl rfl (by kernel_rfl) (by kernel_rfl) rfl (by rw [k_impl_sorted]; exact h)
def F_impl_VecUn (P : Program) (v0 v1 : Value) (w : World) (R : Value → World → Prop) : Prop :=
 vbox P T_impl_Vec v1 w fun t3 w_1 =>
 valloc P T_impl_Vec w_1 fun t4 w_2 =>
 vload P T_impl_Vec t3 w_2 fun t7 w_3 =>
 vcall P n_impl_VecOk #[t7] w_3 fun t8 w_4 =>
 vun P .not t8 w_4 fun t9 w_5 =>
 vif t9 (
 vbuild P T_impl_Vec [] w_5 fun t10 w_6 =>
 vstore P T_impl_Vec t4 t10 w_6 fun _ w_7 =>
 vlv P T_impl_Vec t4 w_7 fun r4 w_8 =>
 R (.tuple #[r4, (.bool false)]) w_8) (
 vbin P .eql T_int true v0 (.int .i64 1) w_5 fun t13 w_9 =>
 vif t13 (
 vdraw w_9 fun w_10 =>
 vload P T_impl_Vec t3 w_10 fun t14 w_11 => w_11 = w_10 ∧
 vload P T_impl_Vec t3 w_10 fun t15 w_12 => w_12 = w_10 ∧
 vcall P n_impl_Vec_raw #[t15] w_10 fun t16 w_13 => (vload P T_impl_Vec t3 w_13 fun v x => v = t14 ∧ x = w_13) ∧
 vun P .xor t16 w_13 fun t17 w_14 => w_14 = w_13 ∧
 vcall P n_impl_Vec_vec #[t14, t17] w_13 fun t18 w_15 =>
 vstore P T_impl_Vec t4 t18 w_15 fun _ w_16 =>
 vlv P T_impl_Vec t4 w_16 fun r4_1 w_17 =>
 R (.tuple #[r4_1, (.bool true)]) w_17) (
 vbin P .eql T_int true v0 (.int .i64 2) w_9 fun t21 w_18 =>
 vif t21 (
 vdraw w_18 fun w_19 =>
 vload P T_impl_Vec t3 w_19 fun t22 w_20 => w_20 = w_19 ∧
 vload P T_impl_Vec t3 w_19 fun t23 w_21 => w_21 = w_19 ∧
 vcall P n_impl_Vec_raw #[t23] w_19 fun t24 w_22 => (vload P T_impl_Vec t3 w_22 fun v x => v = t22 ∧ x = w_22) ∧
 vun P .neg t24 w_22 fun t25 w_23 => w_23 = w_22 ∧
 vcall P n_impl_Vec_vec #[t22, t25] w_22 fun t26 w_24 =>
 vstore P T_impl_Vec t4 t26 w_24 fun _ w_25 =>
 vlv P T_impl_Vec t4 w_25 fun r4_2 w_26 =>
 R (.tuple #[r4_2, (.bool true)]) w_26) (
 vbuild P T_impl_Vec [] w_18 fun t27 w_27 =>
 vstore P T_impl_Vec t4 t27 w_27 fun _ w_28 =>
 vlv P T_impl_Vec t4 w_28 fun r4_3 w_29 =>
 R (.tuple #[r4_3, (.bool false)]) w_29)))
def A_impl_VecUn : Ann := { ord := [(4, [0, 1, 2, 3, 4, 5, 6], [(0, [4, 5, 6]), (1, [2, 3, 4, 5, 6]), (2, [3, 4, 5, 6]), (3, [4, 5, 6]), (4, [5, 6]), (5, [6])]), (6, [0, 1, 2, 3, 4, 5, 6], [(0, [4, 5, 6]), (1, [2, 3, 4, 5, 6]), (2, [3, 4, 5, 6]), (3, [4, 5, 6]), (4, [5, 6]), (5, [6])])], loops := [], cuts := [] }
theorem k_impl_VecUn (v0 v1 : Value) (w : World) (R : Value → World → Prop) : vc PP A_impl_VecUn ((Tryz.f184.body).getD .skip) (retF PP Tryz.f184.results.toList R) (nthV [v0, v1]) w = F_impl_VecUn PP v0 v1 w R := by kernel_rfl
theorem c_impl_VecUn {v0 v1 : Value} {w : World} {R : Value → World → Prop} (h : F_impl_VecUn PP v0 v1 w R) : vcall PP n_impl_VecUn #[v0, v1] w R :=
  call_of_vc (T := A_impl_VecUn) (c := (Tryz.f184.body).getD .skip) (n := 28) mixed Tryz.func184 rfl rfl (by kernel_rfl) (by kernel_rfl) rfl (by rw [k_impl_VecUn]; exact h)
def F_impl_Vec_vec (P : Program) (v0 v1 : Value) (w : World) (R : Value → World → Prop) : Prop :=
 vbox P T_impl_Vec v0 w fun t2 w_1 =>
 valloc P T_impl_Vec w_1 fun t4 w_2 =>
 vdraw w_2 fun w_3 =>
 vfaddr P T_impl_Vec t2 0 w_3 fun t5 w_4 => w_4 = w_3 ∧
 vload P T_int t5 w_3 fun t6 w_5 => w_5 = w_3 ∧
 vfaddr P T_impl_Vec t2 0 w_3 fun t8 w_6 => w_6 = w_3 ∧
 vload P T_int t8 w_3 fun t9 w_7 => w_7 = w_3 ∧
 vcall P n_impl_raw_cut #[v1, t9] w_3 fun t10 w_8 => (vload P T_int t5 w_8 fun v x => v = t6 ∧ x = w_8) ∧ (vfaddr P T_impl_Vec t2 0 w_8 fun v x => v = t5 ∧ x = w_8) ∧
 vconv P T_impl_raw T_int t10 w_8 fun t11 w_9 => w_9 = w_8 ∧
 vbuild P T_impl_Vec [(0, t6), (1, t11)] w_8 fun t12 w_10 => w_10 = w_8 ∧
 vstore P T_impl_Vec t4 t12 w_8 fun _ w_11 =>
 vlv P T_impl_Vec t4 w_11 fun r4 w_12 =>
 R r4 w_12
def A_impl_Vec_vec : Ann := { ord := [(1, [0, 1, 2, 3, 4, 5, 6, 7, 8], [(0, [1, 7, 8]), (1, [7, 8]), (2, [5, 6, 7, 8]), (3, [4, 5, 6, 7, 8]), (4, [5, 6, 7, 8]), (5, [6, 7, 8]), (6, [7, 8]), (7, [8])])], loops := [], cuts := [] }
theorem k_impl_Vec_vec (v0 v1 : Value) (w : World) (R : Value → World → Prop) : vc PP A_impl_Vec_vec ((Tryz.f185.body).getD .skip) (retF PP Tryz.f185.results.toList R) (nthV [v0, v1]) w = F_impl_Vec_vec PP v0 v1 w R := by kernel_rfl
theorem c_impl_Vec_vec {v0 v1 : Value} {w : World} {R : Value → World → Prop} (h : F_impl_Vec_vec PP v0 v1 w R) : vcall PP n_impl_Vec_vec #[v0, v1] w R :=
  call_of_vc (T := A_impl_Vec_vec) (c := (Tryz.f185.body).getD .skip) (n := 13) mixed Tryz.func185 rfl rfl (by kernel_rfl) (by kernel_rfl) rfl (by rw [k_impl_Vec_vec]; exact h)
def F_impl_Vec_raw (P : Program) (v0 : Value) (w : World) (R : Value → World → Prop) : Prop :=
 vbox P T_impl_Vec v0 w fun t1 w_1 =>
 vfaddr P T_impl_Vec t1 1 w_1 fun t3 w_2 =>
 vload P T_int t3 w_2 fun t4 w_3 =>
 vconv P T_int T_impl_raw t4 w_3 fun t5 w_4 =>
 R t5 w_4
def A_impl_Vec_raw : Ann := { ord := [], loops := [], cuts := [] }
theorem k_impl_Vec_raw (v0 : Value) (w : World) (R : Value → World → Prop) : vc PP A_impl_Vec_raw ((Tryz.f186.body).getD .skip) (retF PP Tryz.f186.results.toList R) (nthV [v0]) w = F_impl_Vec_raw PP v0 w R := by kernel_rfl
theorem c_impl_Vec_raw {v0 : Value} {w : World} {R : Value → World → Prop} (h : F_impl_Vec_raw PP v0 w R) : vcall PP n_impl_Vec_raw #[v0] w R :=
  call_of_vc (T := A_impl_Vec_raw) (c := (Tryz.f186.body).getD .skip) (n := 6) mixed Tryz.func186 rfl rfl (by kernel_rfl) (by kernel_rfl) rfl (by rw [k_impl_Vec_raw]; exact h)
def F_impl_raw_cut (P : Program) (v0 v1 : Value) (w : World) (R : Value → World → Prop) : Prop :=
 vbin P .shl T_impl_raw true (.int .u64 1) v1 w fun t7 w_1 =>
 vbin P .sub T_impl_raw true t7 (.int .u64 1) w_1 fun t8 w_2 =>
 vbin P .and T_impl_raw false v0 t8 w_2 fun t9 w_3 =>
 R t9 w_3
def A_impl_raw_cut : Ann := { ord := [], loops := [], cuts := [] }
theorem k_impl_raw_cut (v0 v1 : Value) (w : World) (R : Value → World → Prop) : vc PP A_impl_raw_cut ((Tryz.f187.body).getD .skip) (retF PP Tryz.f187.results.toList R) (nthV [v0, v1]) w = F_impl_raw_cut PP v0 v1 w R := by kernel_rfl
theorem c_impl_raw_cut {v0 v1 : Value} {w : World} {R : Value → World → Prop} (h : F_impl_raw_cut PP v0 v1 w R) : vcall PP n_impl_raw_cut #[v0, v1] w R :=
  call_of_vc (T := A_impl_raw_cut) (c := (Tryz.f187.body).getD .skip) (n := 10) mixed Tryz.func187 rfl rfl (by kernel_rfl) (by kernel_rfl) rfl (by rw [k_impl_raw_cut]; exact h)
def F_impl_catKind_sort (P : Program) (v0 v1 v2 v3 : Value) (w : World) (R : Value → World → Prop) : Prop :=
 vbox P T_impl_catKind v0 w fun _ w_1 =>
 vbox P T_impl_Term v2 w_1 fun _ w_2 =>
 vdraw w_2 fun w_3 =>
 viaddr P T_Lint v3 (.int .i64 0) w_3 fun t10 w_4 => w_4 = w_3 ∧
 vload P T_int t10 w_3 fun t11 w_5 => w_5 = w_3 ∧
 vbin P .gtr T_int true t11 (.int .i64 0) w_3 fun t12 w_6 => w_6 = w_3 ∧
 vif t12 (
 viaddr P T_Lint v3 (.int .i64 1) w_3 fun t15 w_7 => w_7 = w_3 ∧
 vload P T_int t15 w_3 fun t16 w_8 => w_8 = w_3 ∧
 vbin P .gtr T_int true t16 (.int .i64 0) w_3 fun t17 w_9 => w_9 = w_3 ∧
 vif t17 (
 viaddr P T_Lint v3 (.int .i64 0) w_3 fun t21 w_10 => w_10 = w_3 ∧
 vload P T_int t21 w_3 fun t22 w_11 => w_11 = w_3 ∧
 viaddr P T_Lint v3 (.int .i64 1) w_3 fun t24 w_12 => w_12 = w_3 ∧
 vload P T_int t24 w_3 fun t25 w_13 => w_13 = w_3 ∧
 vbin P .add T_int false t22 t25 w_3 fun t26 w_14 => w_14 = w_3 ∧
 vbin P .leq T_int true t26 (.int .i64 4) w_3 fun t27 w_15 => w_15 = w_3 ∧
 viaddr P T_Lint v3 (.int .i64 0) w_3 fun t30 w_16 => w_16 = w_3 ∧
 vload P T_int t30 w_3 fun t31 w_17 => w_17 = w_3 ∧
 viaddr P T_Lint v3 (.int .i64 1) w_3 fun t33 w_18 => w_18 = w_3 ∧
 vload P T_int t33 w_3 fun t34 w_19 => w_19 = w_3 ∧
 vbin P .add T_int false t31 t34 w_3 fun t35 w_20 => w_20 = w_3 ∧
 vcall P n_impl_sorted #[t27, t35] w_3 fun t36 w_21 =>
 R t36 w_21) (
 viaddr P T_Lint v3 (.int .i64 0) w_3 fun t30_1 w_22 => w_22 = w_3 ∧
 vload P T_int t30_1 w_3 fun t31_1 w_23 => w_23 = w_3 ∧
 viaddr P T_Lint v3 (.int .i64 1) w_3 fun t33_1 w_24 => w_24 = w_3 ∧
 vload P T_int t33_1 w_3 fun t34_1 w_25 => w_25 = w_3 ∧
 vbin P .add T_int false t31_1 t34_1 w_3 fun t35_1 w_26 => w_26 = w_3 ∧
 vcall P n_impl_sorted #[(.bool false), t35_1] w_3 fun t36_1 w_27 =>
 R t36_1 w_27)) (
 viaddr P T_Lint v3 (.int .i64 0) w_3 fun t30_2 w_28 => w_28 = w_3 ∧
 vload P T_int t30_2 w_3 fun t31_2 w_29 => w_29 = w_3 ∧
 viaddr P T_Lint v3 (.int .i64 1) w_3 fun t33_2 w_30 => w_30 = w_3 ∧
 vload P T_int t33_2 w_3 fun t34_2 w_31 => w_31 = w_3 ∧
 vbin P .add T_int false t31_2 t34_2 w_3 fun t35_2 w_32 => w_32 = w_3 ∧
 vcall P n_impl_sorted #[(.bool false), t35_2] w_3 fun t36_2 w_33 =>
 R t36_2 w_33)
def A_impl_catKind_sort : Ann := { ord := [(1, [0, 1, 2, 3, 4, 5, 6, 7, 8, 9, 10, 11, 12, 13, 14, 15, 16, 17, 18, 19, 20, 21, 22, 23, 24, 25, 26, 27, 28], [(0, [1, 2, 3, 4, 5, 6, 7, 8, 9, 10, 11, 12, 13, 14, 15, 16, 17, 18, 19, 27, 28]), (1, [2, 3, 4, 5, 6, 7, 8, 9, 10, 11, 12, 13, 14, 15, 16, 17, 18, 19, 27, 28]), (2, [3, 4, 5, 6, 7, 8, 9, 10, 11, 12, 13, 14, 15, 16, 17, 18, 19, 27, 28]), (3, [4, 5, 6, 7, 8, 9, 10, 11, 12, 13, 14, 15, 16, 17, 18, 19, 27, 28]), (4, [5, 6, 7, 8, 9, 10, 11, 12, 13, 14, 15, 16, 17, 18, 19, 27, 28]), (5, [6, 7, 8, 9, 10, 11, 12, 13, 14, 15, 16, 17, 18, 19, 27, 28]), (6, [7, 8, 9, 10, 11, 12, 13, 14, 15, 16, 17, 18, 19, 27, 28]), (7, [8, 9, 10, 11, 12, 13, 14, 15, 16, 17, 18, 19, 27, 28]), (8, [9, 10, 11, 12, 13, 14, 15, 16, 17, 18, 19, 27, 28]), (9, [10, 11, 12, 13, 14, 15, 16, 17, 18, 19, 27, 28]), (10, [11, 12, 13, 14, 15, 16, 17, 18, 19, 27, 28]), (11, [12, 13, 17, 18, 19, 27, 28]), (12, [13, 17, 18, 19, 27, 28]), (13, [17, 18, 19, 27, 28]), (14, [15, 16, 17, 18, 19, 27, 28]), (15, [16, 17, 18, 19, 27, 28]), (16, [17, 18, 19, 27, 28]), (17, [18, 19, 27, 28]), (18, [19, 27, 28]), (19, [27, 28]), (20, [21, 22, 26, 27, 28]), (21, [22, 26, 27, 28]), (22, [26, 27, 28]), (23, [24, 25, 26, 27, 28]), (24, [25, 26, 27, 28]), (25, [26, 27, 28]), (26, [27, 28]), (27, [28])])], loops := [], cuts := [] }
theorem k_impl_catKind_sort (v0 v1 v2 v3 : Value) (w : World) (R : Value → World → Prop) : vc PP A_impl_catKind_sort ((Tryz.f188.body).getD .skip) (retF PP Tryz.f188.results.toList R) (nthV [v0, v1, v2, v3]) w = F_impl_catKind_sort PP v0 v1 v2 v3 w R := by kernel_rfl
theorem c_impl_catKind_sort {v0 v1 v2 v3 : Value} {w : World} {R : Value → World → Prop} (h : F_impl_catKind_sort PP v0 v1 v2 v3 w R) : vcall PP n_impl_catKind_sort #[v0, v1, v2, v3] w R :=
  call_of_vc (T := A_impl_catKind_sort) (c := (Tryz.f188.body).getD .skip) (n := 37) mixed Tryz.func188 rfl rfl (by kernel_rfl) (by kernel_rfl) rfl (by rw [k_impl_catKind_sort]; exact h)
def F_impl_catKind_value (P : Program) (v0 v1 v2 v3 : Value) (w : World) (R : Value → World → Prop) : Prop :=
 vbox P T_impl_catKind v0 w fun _ w_1 =>
 vbox P T_impl_Term v2 w_1 fun t6 w_2 =>
 vjoin (fun J =>
 vdraw w_2 fun w_4 =>
 vfaddr P T_impl_Term t6 0 w_4 fun t12 w_5 => w_5 = w_4 ∧
 vload P T_int t12 w_4 fun t13 w_6 => w_6 = w_4 ∧
 viaddr P T_Limpl_Vec v3 (.int .i64 0) w_4 fun t15 w_7 => w_7 = w_4 ∧
 vload P T_impl_Vec t15 w_4 fun t16 w_8 => w_8 = w_4 ∧
 viaddr P T_Limpl_Vec v3 (.int .i64 1) w_4 fun t18 w_9 => w_9 = w_4 ∧
 vload P T_impl_Vec t18 w_4 fun t19 w_10 => w_10 = w_4 ∧
 (vcall P n_impl_VecBin #[t13, t16, t19] w_4 fun t20 w_11 =>
 vextract P t20 0 w_11 fun t21 w_12 => w_12 = w_11 ∧
 vextract P t20 1 w_11 fun t22 w_13 => w_13 = w_11 ∧
 (valloc P T_impl_Vec w_11 fun t9 w_14 => (vextract P t20 1 w_14 fun v x => v = t22 ∧ x = w_14) ∧ (vextract P t20 0 w_14 fun v x => v = t21 ∧ x = w_14) ∧
 (vstore P T_impl_Vec t9 t21 w_14 fun _ w_15 => (vextract P t20 1 w_15 fun v x => v = t22 ∧ x = w_15) ∧
 J [t9] w_15) ∧
 True) ∧
 True) ∧
 (valloc P T_impl_Vec w_4 fun t9_1 w_16 => (vload P T_impl_Vec t18 w_16 fun v x => v = t19 ∧ x = w_16) ∧ (viaddr P T_Limpl_Vec v3 (.int .i64 1) w_16 fun v x => v = t18 ∧ x = w_16) ∧ (vload P T_impl_Vec t15 w_16 fun v x => v = t16 ∧ x = w_16) ∧ (viaddr P T_Limpl_Vec v3 (.int .i64 0) w_16 fun v x => v = t15 ∧ x = w_16) ∧ (vload P T_int t12 w_16 fun v x => v = t13 ∧ x = w_16) ∧ (vfaddr P T_impl_Term t6 0 w_16 fun v x => v = t12 ∧ x = w_16) ∧
 (vcall P n_impl_VecBin #[t13, t16, t19] w_16 fun t20_1 w_17 =>
 vextract P t20_1 0 w_17 fun t21_1 w_18 => w_18 = w_17 ∧
 vextract P t20_1 1 w_17 fun t22_1 w_19 => w_19 = w_17 ∧
 (vstore P T_impl_Vec t9_1 t21_1 w_17 fun _ w_20 => (vextract P t20_1 1 w_20 fun v x => v = t22_1 ∧ x = w_20) ∧
 J [t9_1] w_20) ∧
 True) ∧
 True) ∧
 True) (fun u _ w_3 =>
 vfaddr P T_impl_Vec (sl 0 u) 1 w_3 fun t23 w_21 =>
 vload P T_int t23 w_21 fun t24 w_22 =>
 R t24 w_22)
def A_impl_catKind_value : Ann := { ord := [], loops := [], cuts := [(8194, [9])], trees := [(1, (.st 0 (.st 1 (.st 2 (.st 3 (.st 4 (.st 5 (.st 6 (.st 7 (.alt 8 (.st 9 (.st 10 (.st 11 (.alt 12 (.alt 13 (.st 14 .nil) .no) .no)))) (.alt 12 (.alt 8 (.st 9 (.st 10 (.st 11 (.alt 13 (.st 14 .nil) .no)))) .no) .no)))))))))), [(0, [1, 8, 9, 10, 11, 13, 14]), (1, [8, 9, 10, 11, 13, 14]), (2, [3, 4, 8, 9, 10, 11, 13, 14]), (3, [4, 8, 9, 10, 11, 13, 14]), (4, [8, 9, 10, 11, 13, 14]), (5, [6, 7, 8, 9, 10, 11, 13, 14]), (6, [7, 8, 9, 10, 11, 13, 14]), (7, [8, 9, 10, 11, 13, 14]), (8, [9, 10, 11, 13, 14]), (9, [10, 11, 13, 14]), (10, [13, 14]), (11, [14]), (12, [13, 14]), (13, [14])])] }
theorem k_impl_catKind_value (v0 v1 v2 v3 : Value) (w : World) (R : Value → World → Prop) : vc PP A_impl_catKind_value ((Tryz.f189.body).getD .skip) (retF PP Tryz.f189.results.toList R) (nthV [v0, v1, v2, v3]) w = F_impl_catKind_value PP v0 v1 v2 v3 w R := by kernel_rfl
theorem c_impl_catKind_value {v0 v1 v2 v3 : Value} {w : World} {R : Value → World → Prop} (h : F_impl_catKind_value PP v0 v1 v2 v3 w R) : vcall PP n_impl_catKind_value #[v0, v1, v2, v3] w R :=
  call_of_vc (T := A_impl_catKind_value) (c := (Tryz.f189.body).getD .skip) (n := 25) mixed Tryz.func189 rfl rfl (by kernel_rfl) (by kernel_rfl) rfl (by rw [k_impl_catKind_value]; exact h)
def F_impl_VecBin (P : Program) (v0 v1 v2 : Value) (w : World) (R : Value → World → Prop) : Prop :=
 vbox P T_impl_Vec v1 w fun t4 w_1 =>
 vbox P T_impl_Vec v2 w_1 fun t5 w_2 =>
 valloc P T_impl_Vec w_2 fun t6 w_3 =>
 vjoin (fun J =>
 vload P T_impl_Vec t4 w_3 fun t9 w_5 =>
 vcall P n_impl_VecOk #[t9] w_5 fun t10 w_6 =>
 vun P .not t10 w_6 fun t11 w_7 =>
 vif t11 (
 vbuild P T_impl_Vec [] w_7 fun t17 w_8 =>
 vstore P T_impl_Vec t6 t17 w_8 fun _ w_9 =>
 vlv P T_impl_Vec t6 w_9 fun r6 w_10 =>
 R (.tuple #[r6, (.bool false)]) w_10) (
 vload P T_impl_Vec t5 w_7 fun t13 w_11 =>
 vcall P n_impl_VecOk #[t13] w_11 fun t14 w_12 =>
 vun P .not t14 w_12 fun t15 w_13 =>
 vif t15 (
 vbuild P T_impl_Vec [] w_13 fun t17_1 w_14 =>
 vstore P T_impl_Vec t6 t17_1 w_14 fun _ w_15 =>
 vlv P T_impl_Vec t6 w_15 fun r6_1 w_16 =>
 R (.tuple #[r6_1, (.bool false)]) w_16) (
 J [] w_13))) (fun _ _ w_4 =>
 vbin P .eql T_int true v0 (.int .i64 14) w_4 fun t19 w_17 =>
 vif t19 (
 vdraw w_17 fun w_18 =>
 vfaddr P T_impl_Vec t4 0 w_18 fun t20 w_19 => w_19 = w_18 ∧
 vload P T_int t20 w_18 fun t21 w_20 => w_20 = w_18 ∧
 vfaddr P T_impl_Vec t5 0 w_18 fun t22 w_21 => w_21 = w_18 ∧
 vload P T_int t22 w_18 fun t23 w_22 => w_22 = w_18 ∧
 vbin P .add T_int false t21 t23 w_18 fun t24 w_23 => w_23 = w_18 ∧
 vfaddr P T_impl_Vec t4 1 w_18 fun t25 w_24 => w_24 = w_18 ∧
 vload P T_int t25 w_18 fun t26 w_25 => w_25 = w_18 ∧
 vfaddr P T_impl_Vec t5 0 w_18 fun t27 w_26 => w_26 = w_18 ∧
 vload P T_int t27 w_18 fun t28 w_27 => w_27 = w_18 ∧
 vbin P .shl T_int false t26 t28 w_18 fun t29 w_28 => w_28 = w_18 ∧
 vfaddr P T_impl_Vec t5 1 w_18 fun t30 w_29 => w_29 = w_18 ∧
 vload P T_int t30 w_18 fun t31 w_30 => w_30 = w_18 ∧
 vbin P .or T_int false t29 t31 w_18 fun t32 w_31 => w_31 = w_18 ∧
 vbuild P T_impl_Vec [(0, t24), (1, t32)] w_18 fun t33 w_32 => w_32 = w_18 ∧
 valloc P T_impl_Vec w_18 fun t8 w_33 => (vbuild P T_impl_Vec [(0, t24), (1, t32)] w_33 fun v x => v = t33 ∧ x = w_33) ∧ (vbin P .or T_int false t29 t31 w_33 fun v x => v = t32 ∧ x = w_33) ∧ (vload P T_int t30 w_33 fun v x => v = t31 ∧ x = w_33) ∧ (vfaddr P T_impl_Vec t5 1 w_33 fun v x => v = t30 ∧ x = w_33) ∧ (vbin P .shl T_int false t26 t28 w_33 fun v x => v = t29 ∧ x = w_33) ∧ (vload P T_int t27 w_33 fun v x => v = t28 ∧ x = w_33) ∧ (vfaddr P T_impl_Vec t5 0 w_33 fun v x => v = t27 ∧ x = w_33) ∧ (vload P T_int t25 w_33 fun v x => v = t26 ∧ x = w_33) ∧ (vfaddr P T_impl_Vec t4 1 w_33 fun v x => v = t25 ∧ x = w_33) ∧ (vbin P .add T_int false t21 t23 w_33 fun v x => v = t24 ∧ x = w_33) ∧ (vload P T_int t22 w_33 fun v x => v = t23 ∧ x = w_33) ∧ (vfaddr P T_impl_Vec t5 0 w_33 fun v x => v = t22 ∧ x = w_33) ∧ (vload P T_int t20 w_33 fun v x => v = t21 ∧ x = w_33) ∧ (vfaddr P T_impl_Vec t4 0 w_33 fun v x => v = t20 ∧ x = w_33) ∧
 vstore P T_impl_Vec t8 t33 w_33 fun _ w_34 =>
 vfaddr P T_impl_Vec t8 0 w_34 fun t34 w_35 =>
 vload P T_int t34 w_35 fun t35 w_36 =>
 vbin P .gtr T_int true t35 (.int .i64 4) w_36 fun t36 w_37 =>
 vif t36 (
 vbuild P T_impl_Vec [] w_37 fun t37 w_38 =>
 vstore P T_impl_Vec t6 t37 w_38 fun _ w_39 =>
 vlv P T_impl_Vec t6 w_39 fun r6_2 w_40 =>
 R (.tuple #[r6_2, (.bool false)]) w_40) (
 vload P T_impl_Vec t8 w_37 fun t38 w_41 =>
 vstore P T_impl_Vec t6 t38 w_41 fun _ w_42 =>
 vlv P T_impl_Vec t6 w_42 fun r6_3 w_43 =>
 R (.tuple #[r6_3, (.bool true)]) w_43)) (
 vjoin (fun J_1 =>
 vbin P .lss T_int true v0 (.int .i64 3) w_17 fun t40 w_45 =>
 vif t40 (
 vbuild P T_impl_Vec [] w_45 fun t52 w_46 =>
 vstore P T_impl_Vec t6 t52 w_46 fun _ w_47 =>
 vlv P T_impl_Vec t6 w_47 fun r6_4 w_48 =>
 R (.tuple #[r6_4, (.bool false)]) w_48) (
 vbin P .gtr T_int true v0 (.int .i64 13) w_45 fun t43 w_49 =>
 vif t43 (
 vbuild P T_impl_Vec [] w_49 fun t52_1 w_50 =>
 vstore P T_impl_Vec t6 t52_1 w_50 fun _ w_51 =>
 vlv P T_impl_Vec t6 w_51 fun r6_5 w_52 =>
 R (.tuple #[r6_5, (.bool false)]) w_52) (
 vfaddr P T_impl_Vec t4 0 w_49 fun t46 w_53 =>
 vload P T_int t46 w_53 fun t47 w_54 =>
 vfaddr P T_impl_Vec t5 0 w_54 fun t48 w_55 =>
 vload P T_int t48 w_55 fun t49 w_56 =>
 vbin P .neq T_int false t47 t49 w_56 fun t50 w_57 =>
 vif t50 (
 vbuild P T_impl_Vec [] w_57 fun t52_2 w_58 =>
 vstore P T_impl_Vec t6 t52_2 w_58 fun _ w_59 =>
 vlv P T_impl_Vec t6 w_59 fun r6_6 w_60 =>
 R (.tuple #[r6_6, (.bool false)]) w_60) (
 J_1 [] w_57)))) (fun _ _ w_44 =>
 vdraw w_44 fun w_61 =>
 vload P T_impl_Vec t4 w_61 fun t53 w_62 => w_62 = w_61 ∧
 vload P T_impl_Vec t4 w_61 fun t57 w_63 => w_63 = w_61 ∧
 vload P T_impl_Vec t5 w_61 fun t58 w_64 => w_64 = w_61 ∧
 vcall P n_impl_binaries #[] w_61 fun t54 w_65 => (vload P T_impl_Vec t5 w_65 fun v x => v = t58 ∧ x = w_65) ∧ (vload P T_impl_Vec t4 w_65 fun v x => v = t57 ∧ x = w_65) ∧ (vload P T_impl_Vec t4 w_65 fun v x => v = t53 ∧ x = w_65) ∧
 vindex P T_A_14_func_impl_Vec_impl_Vec_impl_raw t54 v0 w_65 fun t56 w_66 => w_66 = w_65 ∧
 vcallv P t56 #[t57, t58] w_65 fun t59 w_67 => (vload P T_impl_Vec t4 w_67 fun v x => v = t53 ∧ x = w_67) ∧
 vcall P n_impl_Vec_vec #[t53, t59] w_67 fun t60 w_68 =>
 vstore P T_impl_Vec t6 t60 w_68 fun _ w_69 =>
 vlv P T_impl_Vec t6 w_69 fun r6_7 w_70 =>
 R (.tuple #[r6_7, (.bool true)]) w_70)))
def A_impl_VecBin : Ann := { ord := [(4, [0, 1, 2, 3, 4, 5, 6, 7, 8, 9, 10, 11, 12, 13, 14, 15], [(0, [1, 4, 13, 15]), (1, [4, 13, 15]), (2, [3, 4, 13, 15]), (3, [4, 13, 15]), (4, [13, 15]), (5, [6, 9, 12, 13, 15]), (6, [9, 12, 13, 15]), (7, [8, 9, 12, 13, 15]), (8, [9, 12, 13, 15]), (9, [12, 13, 15]), (10, [11, 12, 13, 15]), (11, [12, 13, 15]), (12, [13, 15]), (13, [15]), (14, [15])]), (10, [0, 2, 4, 5, 1, 3, 6, 7, 8, 9], [(0, [7, 8, 9]), (2, [3, 6, 7, 8, 9]), (4, [6, 7, 8, 9]), (5, [6, 7, 8, 9]), (1, [3, 6, 7, 8, 9]), (3, [6, 7, 8, 9]), (6, [7, 8, 9]), (7, [8, 9]), (8, [9])])], loops := [], cuts := [(8195, []), (36874, [])] }
theorem k_impl_VecBin (v0 v1 v2 : Value) (w : World) (R : Value → World → Prop) : vc PP A_impl_VecBin ((Tryz.f190.body).getD .skip) (retF PP Tryz.f190.results.toList R) (nthV [v0, v1, v2]) w = F_impl_VecBin PP v0 v1 v2 w R := by kernel_rfl
theorem c_impl_VecBin {v0 v1 v2 : Value} {w : World} {R : Value → World → Prop} (h : F_impl_VecBin PP v0 v1 v2 w R) : vcall PP n_impl_VecBin #[v0, v1, v2] w R :=
  call_of_vc (T := A_impl_VecBin) (c := (Tryz.f190.body).getD .skip) (n := 61) mixed Tryz.func190 rfl rfl (by kernel_rfl) (by kernel_rfl) rfl (by rw [k_impl_VecBin]; exact h)
def F_impl_binaries (P : Program) (w : World) (R : Value → World → Prop) : Prop :=
 valloc P T_A_14_func_impl_Vec_impl_Vec_impl_raw w fun t0 w_1 =>
 vbuild P T_A_14_func_impl_Vec_impl_Vec_impl_raw [(3, (.func (.func n_impl_binaries_1) #[] #[])), (4, (.func (.func n_impl_binaries_2) #[] #[])), (5, (.func (.func n_impl_binaries_3) #[] #[])), (6, (.func (.func n_impl_binaries_4) #[] #[])), (7, (.func (.func n_impl_binaries_5) #[] #[])), (8, (.func (.func n_impl_binaries_6) #[] #[])), (9, (.func (.func n_impl_binaries_7) #[] #[])), (10, (.func (.func n_impl_binaries_8) #[] #[])), (11, (.func (.func n_impl_binaries_9) #[] #[])), (12, (.func (.func n_impl_binaries_10) #[] #[])), (13, (.func (.func n_impl_binaries_11) #[] #[]))] w_1 fun t1 w_2 =>
 vstore P T_A_14_func_impl_Vec_impl_Vec_impl_raw t0 t1 w_2 fun _ w_3 =>
 vlv P T_A_14_func_impl_Vec_impl_Vec_impl_raw t0 w_3 fun r0 w_4 =>
 R r0 w_4
def A_impl_binaries : Ann := { ord := [], loops := [], cuts := [] }
theorem k_impl_binaries (w : World) (R : Value → World → Prop) : vc PP A_impl_binaries ((Tryz.f191.body).getD .skip) (retF PP Tryz.f191.results.toList R) (nthV []) w = F_impl_binaries PP  w R := by kernel_rfl
theorem c_impl_binaries {w : World} {R : Value → World → Prop} (h : F_impl_binaries PP  w R) : vcall PP n_impl_binaries #[] w R :=
  call_of_vc (T := A_impl_binaries) (c := (Tryz.f191.body).getD .skip) (n := 2) mixed Tryz.func191 rfl rfl (by kernel_rfl) (by kernel_rfl) rfl (by rw [k_impl_binaries]; exact h)
def F_impl_binaries_1 (P : Program) (v0 v1 : Value) (w : World) (R : Value → World → Prop) : Prop :=
 vbox P T_impl_Vec v0 w fun t2 w_1 =>
 vbox P T_impl_Vec v1 w_1 fun t3 w_2 =>
 vdraw w_2 fun w_3 =>
 vload P T_impl_Vec t2 w_3 fun t5 w_4 => w_4 = w_3 ∧
 vload P T_impl_Vec t3 w_3 fun t7 w_5 => w_5 = w_3 ∧
 vcall P n_impl_Vec_raw #[t5] w_3 fun t6 w_6 => (vload P T_impl_Vec t3 w_6 fun v x => v = t7 ∧ x = w_6) ∧
 vcall P n_impl_Vec_raw #[t7] w_6 fun t8 w_7 =>
 vbin P .and T_impl_raw false t6 t8 w_7 fun t9 w_8 => w_8 = w_7 ∧
 R t9 w_7
def A_impl_binaries_1 : Ann := { ord := [(1, [0, 2, 1, 3, 4, 5], [(0, [1, 3, 4, 5]), (2, [3, 4, 5]), (1, [3, 4, 5]), (3, [4, 5]), (4, [5])])], loops := [], cuts := [] }
theorem k_impl_binaries_1 (v0 v1 : Value) (w : World) (R : Value → World → Prop) : vc PP A_impl_binaries_1 ((Tryz.f192.body).getD .skip) (retF PP Tryz.f192.results.toList R) (nthV [v0, v1]) w = F_impl_binaries_1 PP v0 v1 w R := by kernel_rfl
theorem c_impl_binaries_1 {v0 v1 : Value} {w : World} {R : Value → World → Prop} (h : F_impl_binaries_1 PP v0 v1 w R) : vcall PP n_impl_binaries_1 #[v0, v1] w R :=
  call_of_vc (T := A_impl_binaries_1) (c := (Tryz.f192.body).getD .skip) (n := 10) mixed Tryz.func192 rfl rfl (by kernel_rfl) (by kernel_rfl) rfl (by rw [k_impl_binaries_1]; exact h)
def F_impl_binaries_2 (P : Program) (v0 v1 : Value) (w : World) (R : Value → World → Prop) : Prop :=
 vbox P T_impl_Vec v0 w fun t2 w_1 =>
 vbox P T_impl_Vec v1 w_1 fun t3 w_2 =>
 vdraw w_2 fun w_3 =>
 vload P T_impl_Vec t2 w_3 fun t5 w_4 => w_4 = w_3 ∧
 vload P T_impl_Vec t3 w_3 fun t7 w_5 => w_5 = w_3 ∧
 vcall P n_impl_Vec_raw #[t5] w_3 fun t6 w_6 => (vload P T_impl_Vec t3 w_6 fun v x => v = t7 ∧ x = w_6) ∧
 vcall P n_impl_Vec_raw #[t7] w_6 fun t8 w_7 =>
 vbin P .or T_impl_raw false t6 t8 w_7 fun t9 w_8 => w_8 = w_7 ∧
 R t9 w_7
def A_impl_binaries_2 : Ann := { ord := [(1, [0, 2, 1, 3, 4, 5], [(0, [1, 3, 4, 5]), (2, [3, 4, 5]), (1, [3, 4, 5]), (3, [4, 5]), (4, [5])])], loops := [], cuts := [] }
theorem k_impl_binaries_2 (v0 v1 : Value) (w : World) (R : Value → World → Prop) : vc PP A_impl_binaries_2 ((Tryz.f193.body).getD .skip) (retF PP Tryz.f193.results.toList R) (nthV [v0, v1]) w = F_impl_binaries_2 PP v0 v1 w R := by kernel_rfl
theorem c_impl_binaries_2 {v0 v1 : Value} {w : World} {R : Value → World → Prop} (h : F_impl_binaries_2 PP v0 v1 w R) : vcall PP n_impl_binaries_2 #[v0, v1] w R :=
  call_of_vc (T := A_impl_binaries_2) (c := (Tryz.f193.body).getD .skip) (n := 10) mixed Tryz.func193 rfl rfl (by kernel_rfl) (by kernel_rfl) rfl (by rw [k_impl_binaries_2]; exact h)
def F_impl_binaries_3 (P : Program) (v0 v1 : Value) (w : World) (R : Value → World → Prop) : Prop :=
 vbox P T_impl_Vec v0 w fun t2 w_1 =>
 vbox P T_impl_Vec v1 w_1 fun t3 w_2 =>
 vdraw w_2 fun w_3 =>
 vload P T_impl_Vec t2 w_3 fun t5 w_4 => w_4 = w_3 ∧
 vload P T_impl_Vec t3 w_3 fun t7 w_5 => w_5 = w_3 ∧
 vcall P n_impl_Vec_raw #[t5] w_3 fun t6 w_6 => (vload P T_impl_Vec t3 w_6 fun v x => v = t7 ∧ x = w_6) ∧
 vcall P n_impl_Vec_raw #[t7] w_6 fun t8 w_7 =>
 vbin P .xor T_impl_raw false t6 t8 w_7 fun t9 w_8 => w_8 = w_7 ∧
 R t9 w_7
def A_impl_binaries_3 : Ann := { ord := [(1, [0, 2, 1, 3, 4, 5], [(0, [1, 3, 4, 5]), (2, [3, 4, 5]), (1, [3, 4, 5]), (3, [4, 5]), (4, [5])])], loops := [], cuts := [] }
theorem k_impl_binaries_3 (v0 v1 : Value) (w : World) (R : Value → World → Prop) : vc PP A_impl_binaries_3 ((Tryz.f194.body).getD .skip) (retF PP Tryz.f194.results.toList R) (nthV [v0, v1]) w = F_impl_binaries_3 PP v0 v1 w R := by kernel_rfl
theorem c_impl_binaries_3 {v0 v1 : Value} {w : World} {R : Value → World → Prop} (h : F_impl_binaries_3 PP v0 v1 w R) : vcall PP n_impl_binaries_3 #[v0, v1] w R :=
  call_of_vc (T := A_impl_binaries_3) (c := (Tryz.f194.body).getD .skip) (n := 10) mixed Tryz.func194 rfl rfl (by kernel_rfl) (by kernel_rfl) rfl (by rw [k_impl_binaries_3]; exact h)
def F_impl_binaries_4 (P : Program) (v0 v1 : Value) (w : World) (R : Value → World → Prop) : Prop :=
 vbox P T_impl_Vec v0 w fun t2 w_1 =>
 vbox P T_impl_Vec v1 w_1 fun t3 w_2 =>
 vdraw w_2 fun w_3 =>
 vload P T_impl_Vec t2 w_3 fun t5 w_4 => w_4 = w_3 ∧
 vload P T_impl_Vec t3 w_3 fun t7 w_5 => w_5 = w_3 ∧
 vcall P n_impl_Vec_raw #[t5] w_3 fun t6 w_6 => (vload P T_impl_Vec t3 w_6 fun v x => v = t7 ∧ x = w_6) ∧
 vcall P n_impl_Vec_raw #[t7] w_6 fun t8 w_7 =>
 vbin P .add T_impl_raw false t6 t8 w_7 fun t9 w_8 => w_8 = w_7 ∧
 R t9 w_7
def A_impl_binaries_4 : Ann := { ord := [(1, [0, 2, 1, 3, 4, 5], [(0, [1, 3, 4, 5]), (2, [3, 4, 5]), (1, [3, 4, 5]), (3, [4, 5]), (4, [5])])], loops := [], cuts := [] }
theorem k_impl_binaries_4 (v0 v1 : Value) (w : World) (R : Value → World → Prop) : vc PP A_impl_binaries_4 ((Tryz.f195.body).getD .skip) (retF PP Tryz.f195.results.toList R) (nthV [v0, v1]) w = F_impl_binaries_4 PP v0 v1 w R := by kernel_rfl
theorem c_impl_binaries_4 {v0 v1 : Value} {w : World} {R : Value → World → Prop} (h : F_impl_binaries_4 PP v0 v1 w R) : vcall PP n_impl_binaries_4 #[v0, v1] w R :=
  call_of_vc (T := A_impl_binaries_4) (c := (Tryz.f195.body).getD .skip) (n := 10) mixed Tryz.func195 rfl rfl (by kernel_rfl) (by kernel_rfl) rfl (by rw [k_impl_binaries_4]; exact h)
def F_impl_binaries_5 (P : Program) (v0 v1 : Value) (w : World) (R : Value → World → Prop) : Prop :=
 vbox P T_impl_Vec v0 w fun t2 w_1 =>
 vbox P T_impl_Vec v1 w_1 fun t3 w_2 =>
 vdraw w_2 fun w_3 =>
 vload P T_impl_Vec t2 w_3 fun t5 w_4 => w_4 = w_3 ∧
 vload P T_impl_Vec t3 w_3 fun t7 w_5 => w_5 = w_3 ∧
 vcall P n_impl_Vec_raw #[t5] w_3 fun t6 w_6 => (vload P T_impl_Vec t3 w_6 fun v x => v = t7 ∧ x = w_6) ∧
 vcall P n_impl_Vec_raw #[t7] w_6 fun t8 w_7 =>
 vbin P .sub T_impl_raw false t6 t8 w_7 fun t9 w_8 => w_8 = w_7 ∧
 R t9 w_7
def A_impl_binaries_5 : Ann := { ord := [(1, [0, 2, 1, 3, 4, 5], [(0, [1, 3, 4, 5]), (2, [3, 4, 5]), (1, [3, 4, 5]), (3, [4, 5]), (4, [5])])], loops := [], cuts := [] }
theorem k_impl_binaries_5 (v0 v1 : Value) (w : World) (R : Value → World → Prop) : vc PP A_impl_binaries_5 ((Tryz.f196.body).getD .skip) (retF PP Tryz.f196.results.toList R) (nthV [v0, v1]) w = F_impl_binaries_5 PP v0 v1 w R := by kernel_rfl
theorem c_impl_binaries_5 {v0 v1 : Value} {w : World} {R : Value → World → Prop} (h : F_impl_binaries_5 PP v0 v1 w R) : vcall PP n_impl_binaries_5 #[v0, v1] w R :=
  call_of_vc (T := A_impl_binaries_5) (c := (Tryz.f196.body).getD .skip) (n := 10) mixed Tryz.func196 rfl rfl (by kernel_rfl) (by kernel_rfl) rfl (by rw [k_impl_binaries_5]; exact h)
def F_impl_binaries_6 (P : Program) (v0 v1 : Value) (w : World) (R : Value → World → Prop) : Prop :=
 vbox P T_impl_Vec v0 w fun t2 w_1 =>
 vbox P T_impl_Vec v1 w_1 fun t3 w_2 =>
 vdraw w_2 fun w_3 =>
 vload P T_impl_Vec t2 w_3 fun t5 w_4 => w_4 = w_3 ∧
 vload P T_impl_Vec t3 w_3 fun t7 w_5 => w_5 = w_3 ∧
 vcall P n_impl_Vec_raw #[t5] w_3 fun t6 w_6 => (vload P T_impl_Vec t3 w_6 fun v x => v = t7 ∧ x = w_6) ∧
 vcall P n_impl_Vec_raw #[t7] w_6 fun t8 w_7 =>
 vbin P .mul T_impl_raw false t6 t8 w_7 fun t9 w_8 => w_8 = w_7 ∧
 R t9 w_7
def A_impl_binaries_6 : Ann := { ord := [(1, [0, 2, 1, 3, 4, 5], [(0, [1, 3, 4, 5]), (2, [3, 4, 5]), (1, [3, 4, 5]), (3, [4, 5]), (4, [5])])], loops := [], cuts := [] }
theorem k_impl_binaries_6 (v0 v1 : Value) (w : World) (R : Value → World → Prop) : vc PP A_impl_binaries_6 ((Tryz.f197.body).getD .skip) (retF PP Tryz.f197.results.toList R) (nthV [v0, v1]) w = F_impl_binaries_6 PP v0 v1 w R := by kernel_rfl
theorem c_impl_binaries_6 {v0 v1 : Value} {w : World} {R : Value → World → Prop} (h : F_impl_binaries_6 PP v0 v1 w R) : vcall PP n_impl_binaries_6 #[v0, v1] w R :=
  call_of_vc (T := A_impl_binaries_6) (c := (Tryz.f197.body).getD .skip) (n := 10) mixed Tryz.func197 rfl rfl (by kernel_rfl) (by kernel_rfl) rfl (by rw [k_impl_binaries_6]; exact h)
def F_impl_binaries_7 (P : Program) (v0 v1 : Value) (w : World) (R : Value → World → Prop) : Prop :=
 vbox P T_impl_Vec v0 w fun t2 w_1 =>
 vbox P T_impl_Vec v1 w_1 fun t3 w_2 =>
 vfaddr P T_impl_Vec t3 1 w_2 fun t5 w_3 =>
 vload P T_int t5 w_3 fun t6 w_4 =>
 vbin P .eql T_int true t6 (.int .i64 0) w_4 fun t7 w_5 =>
 vif t7 (
 vload P T_impl_Vec t2 w_5 fun t8 w_6 =>
 vcall P n_impl_Vec_ones #[t8] w_6 fun t9 w_7 =>
 R t9 w_7) (
 vdraw w_5 fun w_8 =>
 vload P T_impl_Vec t2 w_8 fun t10 w_9 => w_9 = w_8 ∧
 vload P T_impl_Vec t3 w_8 fun t12 w_10 => w_10 = w_8 ∧
 vcall P n_impl_Vec_raw #[t10] w_8 fun t11 w_11 => (vload P T_impl_Vec t3 w_11 fun v x => v = t12 ∧ x = w_11) ∧
 vcall P n_impl_Vec_raw #[t12] w_11 fun t13 w_12 =>
 vbin P .quo T_impl_raw false t11 t13 w_12 fun t14 w_13 => w_13 = w_12 ∧
 R t14 w_12)
def A_impl_binaries_7 : Ann := { ord := [(3, [0, 2, 1, 3, 4, 5], [(0, [1, 3, 4, 5]), (2, [3, 4, 5]), (1, [3, 4, 5]), (3, [4, 5]), (4, [5])])], loops := [], cuts := [] }
theorem k_impl_binaries_7 (v0 v1 : Value) (w : World) (R : Value → World → Prop) : vc PP A_impl_binaries_7 ((Tryz.f198.body).getD .skip) (retF PP Tryz.f198.results.toList R) (nthV [v0, v1]) w = F_impl_binaries_7 PP v0 v1 w R := by kernel_rfl
theorem c_impl_binaries_7 {v0 v1 : Value} {w : World} {R : Value → World → Prop} (h : F_impl_binaries_7 PP v0 v1 w R) : vcall PP n_impl_binaries_7 #[v0, v1] w R :=
  call_of_vc (T := A_impl_binaries_7) (c := (Tryz.f198.body).getD .skip) (n := 15) mixed Tryz.func198 rfl rfl (by kernel_rfl) (by kernel_rfl) rfl (by rw [k_impl_binaries_7]; exact h)
def F_impl_binaries_8 (P : Program) (v0 v1 : Value) (w : World) (R : Value → World → Prop) : Prop :=
 vbox P T_impl_Vec v0 w fun t2 w_1 =>
 vbox P T_impl_Vec v1 w_1 fun t3 w_2 =>
 vfaddr P T_impl_Vec t3 1 w_2 fun t5 w_3 =>
 vload P T_int t5 w_3 fun t6 w_4 =>
 vbin P .eql T_int true t6 (.int .i64 0) w_4 fun t7 w_5 =>
 vif t7 (
 vload P T_impl_Vec t2 w_5 fun t8 w_6 =>
 vcall P n_impl_Vec_raw #[t8] w_6 fun t9 w_7 =>
 R t9 w_7) (
 vdraw w_5 fun w_8 =>
 vload P T_impl_Vec t2 w_8 fun t10 w_9 => w_9 = w_8 ∧
 vload P T_impl_Vec t3 w_8 fun t12 w_10 => w_10 = w_8 ∧
 vcall P n_impl_Vec_raw #[t10] w_8 fun t11 w_11 => (vload P T_impl_Vec t3 w_11 fun v x => v = t12 ∧ x = w_11) ∧
 vcall P n_impl_Vec_raw #[t12] w_11 fun t13 w_12 =>
 vbin P .rem T_impl_raw false t11 t13 w_12 fun t14 w_13 => w_13 = w_12 ∧
 R t14 w_12)
def A_impl_binaries_8 : Ann := { ord := [(3, [0, 2, 1, 3, 4, 5], [(0, [1, 3, 4, 5]), (2, [3, 4, 5]), (1, [3, 4, 5]), (3, [4, 5]), (4, [5])])], loops := [], cuts := [] }
theorem k_impl_binaries_8 (v0 v1 : Value) (w : World) (R : Value → World → Prop) : vc PP A_impl_binaries_8 ((Tryz.f199.body).getD .skip) (retF PP Tryz.f199.results.toList R) (nthV [v0, v1]) w = F_impl_binaries_8 PP v0 v1 w R := by kernel_rfl
theorem c_impl_binaries_8 {v0 v1 : Value} {w : World} {R : Value → World → Prop} (h : F_impl_binaries_8 PP v0 v1 w R) : vcall PP n_impl_binaries_8 #[v0, v1] w R :=
  call_of_vc (T := A_impl_binaries_8) (c := (Tryz.f199.body).getD .skip) (n := 15) mixed Tryz.func199 rfl rfl (by kernel_rfl) (by kernel_rfl) rfl (by rw [k_impl_binaries_8]; exact h)
def F_impl_binaries_9 (P : Program) (v0 v1 : Value) (w : World) (R : Value → World → Prop) : Prop :=
 vbox P T_impl_Vec v0 w fun t2 w_1 =>
 vbox P T_impl_Vec v1 w_1 fun t3 w_2 =>
 vdraw w_2 fun w_3 =>
 vload P T_impl_Vec t2 w_3 fun t5 w_4 => w_4 = w_3 ∧
 vload P T_impl_Vec t3 w_3 fun t7 w_5 => w_5 = w_3 ∧
 vcall P n_impl_Vec_raw #[t5] w_3 fun t6 w_6 => (vload P T_impl_Vec t3 w_6 fun v x => v = t7 ∧ x = w_6) ∧
 vcall P n_impl_Vec_raw #[t7] w_6 fun t8 w_7 =>
 vbin P .shl T_impl_raw false t6 t8 w_7 fun t9 w_8 => w_8 = w_7 ∧
 R t9 w_7
def A_impl_binaries_9 : Ann := { ord := [(1, [0, 2, 1, 3, 4, 5], [(0, [1, 3, 4, 5]), (2, [3, 4, 5]), (1, [3, 4, 5]), (3, [4, 5]), (4, [5])])], loops := [], cuts := [] }
theorem k_impl_binaries_9 (v0 v1 : Value) (w : World) (R : Value → World → Prop) : vc PP A_impl_binaries_9 ((Tryz.f200.body).getD .skip) (retF PP Tryz.f200.results.toList R) (nthV [v0, v1]) w = F_impl_binaries_9 PP v0 v1 w R := by kernel_rfl
theorem c_impl_binaries_9 {v0 v1 : Value} {w : World} {R : Value → World → Prop} (h : F_impl_binaries_9 PP v0 v1 w R) : vcall PP n_impl_binaries_9 #[v0, v1] w R :=
  call_of_vc (T := A_impl_binaries_9) (c := (Tryz.f200.body).getD .skip) (n := 10) mixed Tryz.func200 rfl rfl (by kernel_rfl) (by kernel_rfl) rfl (by rw [k_impl_binaries_9]; exact h)
def F_impl_binaries_10 (P : Program) (v0 v1 : Value) (w : World) (R : Value → World → Prop) : Prop :=
 vbox P T_impl_Vec v0 w fun t2 w_1 =>
 vbox P T_impl_Vec v1 w_1 fun t3 w_2 =>
 vdraw w_2 fun w_3 =>
 vload P T_impl_Vec t2 w_3 fun t5 w_4 => w_4 = w_3 ∧
 vload P T_impl_Vec t3 w_3 fun t7 w_5 => w_5 = w_3 ∧
 vcall P n_impl_Vec_raw #[t5] w_3 fun t6 w_6 => (vload P T_impl_Vec t3 w_6 fun v x => v = t7 ∧ x = w_6) ∧
 vcall P n_impl_Vec_raw #[t7] w_6 fun t8 w_7 =>
 vbin P .shr T_impl_raw false t6 t8 w_7 fun t9 w_8 => w_8 = w_7 ∧
 R t9 w_7
def A_impl_binaries_10 : Ann := { ord := [(1, [0, 2, 1, 3, 4, 5], [(0, [1, 3, 4, 5]), (2, [3, 4, 5]), (1, [3, 4, 5]), (3, [4, 5]), (4, [5])])], loops := [], cuts := [] }
theorem k_impl_binaries_10 (v0 v1 : Value) (w : World) (R : Value → World → Prop) : vc PP A_impl_binaries_10 ((Tryz.f201.body).getD .skip) (retF PP Tryz.f201.results.toList R) (nthV [v0, v1]) w = F_impl_binaries_10 PP v0 v1 w R := by kernel_rfl
theorem c_impl_binaries_10 {v0 v1 : Value} {w : World} {R : Value → World → Prop} (h : F_impl_binaries_10 PP v0 v1 w R) : vcall PP n_impl_binaries_10 #[v0, v1] w R :=
  call_of_vc (T := A_impl_binaries_10) (c := (Tryz.f201.body).getD .skip) (n := 10) mixed Tryz.func201 rfl rfl (by kernel_rfl) (by kernel_rfl) rfl (by rw [k_impl_binaries_10]; exact h)
def F_impl_binaries_11 (P : Program) (v0 v1 : Value) (w : World) (R : Value → World → Prop) : Prop :=
 vbox P T_impl_Vec v0 w fun t2 w_1 =>
 vbox P T_impl_Vec v1 w_1 fun t3 w_2 =>
 vdraw w_2 fun w_3 =>
 vload P T_impl_Vec t2 w_3 fun t5 w_4 => w_4 = w_3 ∧
 vload P T_impl_Vec t3 w_3 fun t7 w_5 => w_5 = w_3 ∧
 vcall P n_impl_Vec_stretched #[t5] w_3 fun t6 w_6 => (vload P T_impl_Vec t3 w_6 fun v x => v = t7 ∧ x = w_6) ∧
 vcall P n_impl_Vec_raw #[t7] w_6 fun t8 w_7 =>
 vbin P .shr T_impl_raw false t6 t8 w_7 fun t9 w_8 => w_8 = w_7 ∧
 R t9 w_7
def A_impl_binaries_11 : Ann := { ord := [(1, [0, 2, 1, 3, 4, 5], [(0, [1, 3, 4, 5]), (2, [3, 4, 5]), (1, [3, 4, 5]), (3, [4, 5]), (4, [5])])], loops := [], cuts := [] }
theorem k_impl_binaries_11 (v0 v1 : Value) (w : World) (R : Value → World → Prop) : vc PP A_impl_binaries_11 ((Tryz.f202.body).getD .skip) (retF PP Tryz.f202.results.toList R) (nthV [v0, v1]) w = F_impl_binaries_11 PP v0 v1 w R := by kernel_rfl
theorem c_impl_binaries_11 {v0 v1 : Value} {w : World} {R : Value → World → Prop} (h : F_impl_binaries_11 PP v0 v1 w R) : vcall PP n_impl_binaries_11 #[v0, v1] w R :=
  call_of_vc (T := A_impl_binaries_11) (c := (Tryz.f202.body).getD .skip) (n := 10) mixed Tryz.func202 rfl rfl (by kernel_rfl) (by kernel_rfl) rfl (by rw [k_impl_binaries_11]; exact h)
def F_impl_Vec_stretched (P : Program) (v0 : Value) (w : World) (R : Value → World → Prop) : Prop :=
 vbox P T_impl_Vec v0 w fun t1 w_1 =>
 vdraw w_1 fun w_2 =>
 vload P T_impl_Vec t1 w_2 fun t3 w_3 => w_3 = w_2 ∧
 vfaddr P T_impl_Vec t1 0 w_2 fun t5 w_4 => w_4 = w_2 ∧
 vload P T_int t5 w_2 fun t6 w_5 => w_5 = w_2 ∧
 vbin P .sub T_int true t6 (.int .i64 1) w_2 fun t7 w_6 => w_6 = w_2 ∧
 vcall P n_impl_Vec_raw #[t3] w_2 fun t4 w_7 => (vbin P .sub T_int true t6 (.int .i64 1) w_7 fun v x => v = t7 ∧ x = w_7) ∧ (vload P T_int t5 w_7 fun v x => v = t6 ∧ x = w_7) ∧ (vfaddr P T_impl_Vec t1 0 w_7 fun v x => v = t5 ∧ x = w_7) ∧
 vcall P n_impl_raw_bit #[t4, t7] w_7 fun t8 w_8 =>
 vif t8 (
 vdraw w_8 fun w_9 =>
 vload P T_impl_Vec t1 w_9 fun t9 w_10 => w_10 = w_9 ∧
 vload P T_impl_Vec t1 w_9 fun t11 w_11 => w_11 = w_9 ∧
 vcall P n_impl_Vec_raw #[t9] w_9 fun t10 w_12 => (vload P T_impl_Vec t1 w_12 fun v x => v = t11 ∧ x = w_12) ∧
 vcall P n_impl_Vec_ones #[t11] w_12 fun t12 w_13 =>
 vun P .xor t12 w_13 fun t13 w_14 => w_14 = w_13 ∧
 vbin P .and T_impl_raw true t13 (.int .u64 4294967295) w_13 fun t14 w_15 => w_15 = w_13 ∧
 vbin P .or T_impl_raw false t10 t14 w_13 fun t15 w_16 => w_16 = w_13 ∧
 R t15 w_13) (
 vload P T_impl_Vec t1 w_8 fun t16 w_17 =>
 vcall P n_impl_Vec_raw #[t16] w_17 fun t17 w_18 =>
 R t17 w_18)
def A_impl_Vec_stretched : Ann := { ord := [(1, [0, 2, 3, 4, 1, 5], [(0, [1, 5]), (2, [3, 4, 5]), (3, [4, 5]), (4, [5]), (1, [5])]), (2, [0, 2, 1, 3, 4, 5, 6, 7], [(0, [1, 3, 4, 5, 6, 7]), (2, [3, 4, 5, 6, 7]), (1, [3, 4, 5, 6, 7]), (3, [4, 5, 6, 7]), (4, [5, 6, 7]), (5, [6, 7]), (6, [7])])], loops := [], cuts := [] }
theorem k_impl_Vec_stretched (v0 : Value) (w : World) (R : Value → World → Prop) : vc PP A_impl_Vec_stretched ((Tryz.f203.body).getD .skip) (retF PP Tryz.f203.results.toList R) (nthV [v0]) w = F_impl_Vec_stretched PP v0 w R := by kernel_rfl
theorem c_impl_Vec_stretched {v0 : Value} {w : World} {R : Value → World → Prop} (h : F_impl_Vec_stretched PP v0 w R) : vcall PP n_impl_Vec_stretched #[v0] w R :=
  call_of_vc (T := A_impl_Vec_stretched) (c := (Tryz.f203.body).getD .skip) (n := 18) mixed Tryz.func203 rfl rfl (by kernel_rfl) (by kernel_rfl) rfl (by rw [k_impl_Vec_stretched]; exact h)
def F_impl_raw_bit (P : Program) (v0 v1 : Value) (w : World) (R : Value → World → Prop) : Prop :=
 vbin P .shr T_impl_raw false v0 v1 w fun t7 w_1 =>
 vbin P .and T_impl_raw true t7 (.int .u64 1) w_1 fun t8 w_2 =>
 vbin P .eql T_impl_raw true t8 (.int .u64 1) w_2 fun t9 w_3 =>
 R t9 w_3
def A_impl_raw_bit : Ann := { ord := [], loops := [], cuts := [] }
theorem k_impl_raw_bit (v0 v1 : Value) (w : World) (R : Value → World → Prop) : vc PP A_impl_raw_bit ((Tryz.f204.body).getD .skip) (retF PP Tryz.f204.results.toList R) (nthV [v0, v1]) w = F_impl_raw_bit PP v0 v1 w R := by kernel_rfl
theorem c_impl_raw_bit {v0 v1 : Value} {w : World} {R : Value → World → Prop} (h : F_impl_raw_bit PP v0 v1 w R) : vcall PP n_impl_raw_bit #[v0, v1] w R :=
  call_of_vc (T := A_impl_raw_bit) (c := (Tryz.f204.body).getD .skip) (n := 10) mixed Tryz.func204 rfl rfl (by kernel_rfl) (by kernel_rfl) rfl (by rw [k_impl_raw_bit]; exact h)
def F_impl_cmpKind_sort (P : Program) (v0 v1 v2 v3 : Value) (w : World) (R : Value → World → Prop) : Prop :=
 vbox P T_impl_cmpKind v0 w fun _ w_1 =>
 vbox P T_impl_Term v2 w_1 fun _ w_2 =>
 vdraw w_2 fun w_3 =>
 viaddr P T_Lint v3 (.int .i64 0) w_3 fun t10 w_4 => w_4 = w_3 ∧
 vload P T_int t10 w_3 fun t11 w_5 => w_5 = w_3 ∧
 vbin P .gtr T_int true t11 (.int .i64 0) w_3 fun t12 w_6 => w_6 = w_3 ∧
 vif t12 (
 viaddr P T_Lint v3 (.int .i64 0) w_3 fun t15 w_7 => w_7 = w_3 ∧
 vload P T_int t15 w_3 fun t16 w_8 => w_8 = w_3 ∧
 viaddr P T_Lint v3 (.int .i64 1) w_3 fun t18 w_9 => w_9 = w_3 ∧
 vload P T_int t18 w_3 fun t19 w_10 => w_10 = w_3 ∧
 vbin P .eql T_int false t16 t19 w_3 fun t20 w_11 => w_11 = w_3 ∧
 vcall P n_impl_sorted #[t20, (.int .i64 0)] w_3 fun t22 w_12 =>
 R t22 w_12) (
 vcall P n_impl_sorted #[(.bool false), (.int .i64 0)] w_3 fun t22_1 w_13 =>
 R t22_1 w_13)
def A_impl_cmpKind_sort : Ann := { ord := [(1, [0, 1, 2, 3, 4, 5, 6, 7, 8, 9, 10, 11, 12, 13, 14], [(0, [1, 2, 3, 4, 5, 6, 7, 8, 9, 10, 11, 12, 13, 14]), (1, [2, 3, 4, 5, 6, 7, 8, 9, 10, 11, 12, 13, 14]), (2, [3, 4, 5, 6, 7, 8, 9, 10, 11, 12, 13, 14]), (3, [4, 5, 6, 7, 8, 9, 10, 11, 12, 13, 14]), (4, [5, 6, 7, 8, 9, 10, 11, 12, 13, 14]), (5, [6, 7, 11, 12, 13, 14]), (6, [7, 11, 12, 13, 14]), (7, [11, 12, 13, 14]), (8, [9, 10, 11, 12, 13, 14]), (9, [10, 11, 12, 13, 14]), (10, [11, 12, 13, 14]), (11, [12, 13, 14]), (12, [13, 14]), (13, [14])])], loops := [], cuts := [] }
theorem k_impl_cmpKind_sort (v0 v1 v2 v3 : Value) (w : World) (R : Value → World → Prop) : vc PP A_impl_cmpKind_sort ((Tryz.f205.body).getD .skip) (retF PP Tryz.f205.results.toList R) (nthV [v0, v1, v2, v3]) w = F_impl_cmpKind_sort PP v0 v1 v2 v3 w R := by kernel_rfl
theorem c_impl_cmpKind_sort {v0 v1 v2 v3 : Value} {w : World} {R : Value → World → Prop} (h : F_impl_cmpKind_sort PP v0 v1 v2 v3 w R) : vcall PP n_impl_cmpKind_sort #[v0, v1, v2, v3] w R :=
  call_of_vc (T := A_impl_cmpKind_sort) (c := (Tryz.f205.body).getD .skip) (n := 23) mixed Tryz.func205 rfl rfl (by kernel_rfl) (by kernel_rfl) rfl (by rw [k_impl_cmpKind_sort]; exact h)
def F_impl_cmpKind_value (P : Program) (v0 v1 v2 v3 : Value) (w : World) (R : Value → World → Prop) : Prop :=
 vbox P T_impl_cmpKind v0 w fun _ w_1 =>
 vbox P T_impl_Term v2 w_1 fun t6 w_2 =>
 vdraw w_2 fun w_3 =>
 vfaddr P T_impl_Term t6 0 w_3 fun t12 w_4 => w_4 = w_3 ∧
 vload P T_int t12 w_3 fun t13 w_5 => w_5 = w_3 ∧
 viaddr P T_Limpl_Vec v3 (.int .i64 0) w_3 fun t15 w_6 => w_6 = w_3 ∧
 vload P T_impl_Vec t15 w_3 fun t16 w_7 => w_7 = w_3 ∧
 viaddr P T_Limpl_Vec v3 (.int .i64 1) w_3 fun t18 w_8 => w_8 = w_3 ∧
 vload P T_impl_Vec t18 w_3 fun t19 w_9 => w_9 = w_3 ∧
 vcall P n_impl_VecCmp #[t13, t16, t19] w_3 fun t20 w_10 =>
 vextract P t20 0 w_10 fun t21 w_11 => w_11 = w_10 ∧
 vextract P t20 1 w_10 fun _ w_12 => w_12 = w_10 ∧
 vcall P n_impl_number #[t21] w_10 fun t24 w_13 =>
 R t24 w_13
def A_impl_cmpKind_value : Ann := { ord := [(1, [0, 1, 2, 3, 4, 5, 6, 7, 8, 9, 10, 11, 12, 13], [(0, [1, 8, 9, 10, 11, 12, 13]), (1, [8, 9, 10, 11, 12, 13]), (2, [3, 4, 8, 9, 10, 11, 12, 13]), (3, [4, 8, 9, 10, 11, 12, 13]), (4, [8, 9, 10, 11, 12, 13]), (5, [6, 7, 8, 9, 10, 11, 12, 13]), (6, [7, 8, 9, 10, 11, 12, 13]), (7, [8, 9, 10, 11, 12, 13]), (8, [9, 10, 11, 12, 13]), (9, [10, 11, 12, 13]), (10, [12, 13]), (11, [13]), (12, [13])])], loops := [], cuts := [] }
theorem k_impl_cmpKind_value (v0 v1 v2 v3 : Value) (w : World) (R : Value → World → Prop) : vc PP A_impl_cmpKind_value ((Tryz.f206.body).getD .skip) (retF PP Tryz.f206.results.toList R) (nthV [v0, v1, v2, v3]) w = F_impl_cmpKind_value PP v0 v1 v2 v3 w R := by kernel_rfl
theorem c_impl_cmpKind_value {v0 v1 v2 v3 : Value} {w : World} {R : Value → World → Prop} (h : F_impl_cmpKind_value PP v0 v1 v2 v3 w R) : vcall PP n_impl_cmpKind_value #[v0, v1, v2, v3] w R :=
  call_of_vc (T := A_impl_cmpKind_value) (c := (Tryz.f206.body).getD .skip) (n := 25) mixed Tryz.func206 rfl rfl (by kernel_rfl) (by kernel_rfl) rfl (by rw [k_impl_cmpKind_value]; exact h)
def F_impl_VecCmp (P : Program) (v0 v1 v2 : Value) (w : World) (R : Value → World → Prop) : Prop :=
 vbox P T_impl_Vec v1 w fun t4 w_1 =>
 vbox P T_impl_Vec v2 w_1 fun t5 w_2 =>
 vjoin (fun J =>
 vload P T_impl_Vec t4 w_2 fun t8 w_4 =>
 vcall P n_impl_VecOk #[t8] w_4 fun t9 w_5 =>
 vun P .not t9 w_5 fun t10 w_6 =>
 vif t10 (
 R (.tuple #[(.bool false), (.bool false)]) w_6) (
 vload P T_impl_Vec t5 w_6 fun t12 w_7 =>
 vcall P n_impl_VecOk #[t12] w_7 fun t13 w_8 =>
 vun P .not t13 w_8 fun t14 w_9 =>
 vif t14 (
 R (.tuple #[(.bool false), (.bool false)]) w_9) (
 vfaddr P T_impl_Vec t4 0 w_9 fun t17 w_10 =>
 vload P T_int t17 w_10 fun t18 w_11 =>
 vfaddr P T_impl_Vec t5 0 w_11 fun t19 w_12 =>
 vload P T_int t19 w_12 fun t20 w_13 =>
 vbin P .neq T_int false t18 t20 w_13 fun t21 w_14 =>
 vif t21 (
 R (.tuple #[(.bool false), (.bool false)]) w_14) (
 J [] w_14)))) (fun _ _ w_3 =>
 vbin P .eql T_int true v0 (.int .i64 15) w_3 fun t25 w_15 =>
 vif t25 (
 vload P T_impl_Vec t4 w_15 fun t26 w_16 =>
 vload P T_impl_Vec t5 w_16 fun t27 w_17 =>
 vbin P .eql T_impl_Vec false t26 t27 w_17 fun t28 w_18 =>
 R (.tuple #[t28, (.bool true)]) w_18) (
 vbin P .eql T_int true v0 (.int .i64 16) w_15 fun t30 w_19 =>
 vif t30 (
 vfaddr P T_impl_Vec t4 1 w_19 fun t31 w_20 =>
 vload P T_int t31 w_20 fun t32 w_21 =>
 vfaddr P T_impl_Vec t5 1 w_21 fun t33 w_22 =>
 vload P T_int t33 w_22 fun t34 w_23 =>
 vbin P .lss T_int false t32 t34 w_23 fun t35 w_24 =>
 R (.tuple #[t35, (.bool true)]) w_24) (
 vbin P .eql T_int true v0 (.int .i64 17) w_19 fun t37 w_25 =>
 vif t37 (
 vdraw w_25 fun w_26 =>
 vload P T_impl_Vec t4 w_26 fun t38 w_27 => w_27 = w_26 ∧
 vload P T_impl_Vec t5 w_26 fun t40 w_28 => w_28 = w_26 ∧
 vcall P n_impl_VecSigned #[t38] w_26 fun t39 w_29 => (vload P T_impl_Vec t5 w_29 fun v x => v = t40 ∧ x = w_29) ∧
 vcall P n_impl_VecSigned #[t40] w_29 fun t41 w_30 =>
 vbin P .lss T_int false t39 t41 w_30 fun t42 w_31 => w_31 = w_30 ∧
 R (.tuple #[t42, (.bool true)]) w_30) (
 R (.tuple #[(.bool false), (.bool false)]) w_25))))
def A_impl_VecCmp : Ann := { ord := [(9, [0, 2, 1, 3, 4, 5, 6], [(0, [1, 3, 4, 5, 6]), (2, [3, 4, 5, 6]), (1, [3, 4, 5, 6]), (3, [4, 5, 6]), (4, [5, 6]), (5, [6])])], loops := [], cuts := [(8195, [])] }
theorem k_impl_VecCmp (v0 v1 v2 : Value) (w : World) (R : Value → World → Prop) : vc PP A_impl_VecCmp ((Tryz.f207.body).getD .skip) (retF PP Tryz.f207.results.toList R) (nthV [v0, v1, v2]) w = F_impl_VecCmp PP v0 v1 v2 w R := by kernel_rfl
theorem c_impl_VecCmp {v0 v1 v2 : Value} {w : World} {R : Value → World → Prop} (h : F_impl_VecCmp PP v0 v1 v2 w R) : vcall PP n_impl_VecCmp #[v0, v1, v2] w R :=
  call_of_vc (T := A_impl_VecCmp) (c := (Tryz.f207.body).getD .skip) (n := 43) mixed Tryz.func207 rfl rfl (by kernel_rfl) (by kernel_rfl) rfl (by rw [k_impl_VecCmp]; exact h)
def F_impl_number (P : Program) (v0 : Value) (w : World) (R : Value → World → Prop) : Prop :=
 vif v0 (
 R (.int .i64 1) w) (
 R (.int .i64 0) w)
def A_impl_number : Ann := { ord := [], loops := [], cuts := [] }
theorem k_impl_number (v0 : Value) (w : World) (R : Value → World → Prop) : vc PP A_impl_number ((Tryz.f208.body).getD .skip) (retF PP Tryz.f208.results.toList R) (nthV [v0]) w = F_impl_number PP v0 w R := by kernel_rfl
theorem c_impl_number {v0 : Value} {w : World} {R : Value → World → Prop} (h : F_impl_number PP v0 w R) : vcall PP n_impl_number #[v0] w R :=
  call_of_vc (T := A_impl_number) (c := (Tryz.f208.body).getD .skip) (n := 4) mixed Tryz.func208 rfl rfl (by kernel_rfl) (by kernel_rfl) rfl (by rw [k_impl_number]; exact h)
def F_impl_VecSigned (P : Program) (v0 : Value) (w : World) (R : Value → World → Prop) : Prop :=
 vbox P T_impl_Vec v0 w fun t1 w_1 =>
 vload P T_impl_Vec t1 w_1 fun t3 w_2 =>
 vcall P n_impl_VecOk #[t3] w_2 fun t4 w_3 =>
 vun P .not t4 w_3 fun t5 w_4 =>
 vif t5 (
 R (.int .i64 0) w_4) (
 vdraw w_4 fun w_5 =>
 vload P T_impl_Vec t1 w_5 fun t6 w_6 => w_6 = w_5 ∧
 vfaddr P T_impl_Vec t1 0 w_5 fun t8 w_7 => w_7 = w_5 ∧
 vload P T_int t8 w_5 fun t9 w_8 => w_8 = w_5 ∧
 vbin P .sub T_int true t9 (.int .i64 1) w_5 fun t10 w_9 => w_9 = w_5 ∧
 vcall P n_impl_Vec_raw #[t6] w_5 fun t7 w_10 => (vbin P .sub T_int true t9 (.int .i64 1) w_10 fun v x => v = t10 ∧ x = w_10) ∧ (vload P T_int t8 w_10 fun v x => v = t9 ∧ x = w_10) ∧ (vfaddr P T_impl_Vec t1 0 w_10 fun v x => v = t8 ∧ x = w_10) ∧
 vcall P n_impl_raw_bit #[t7, t10] w_10 fun t11 w_11 =>
 vif t11 (
 vdraw w_11 fun w_12 =>
 vfaddr P T_impl_Vec t1 1 w_12 fun t12 w_13 => w_13 = w_12 ∧
 vload P T_int t12 w_12 fun t13 w_14 => w_14 = w_12 ∧
 vfaddr P T_impl_Vec t1 0 w_12 fun t14 w_15 => w_15 = w_12 ∧
 vload P T_int t14 w_12 fun t15 w_16 => w_16 = w_12 ∧
 vbin P .shl T_int true (.int .i64 1) t15 w_12 fun t16 w_17 => w_17 = w_12 ∧
 vbin P .sub T_int false t13 t16 w_12 fun t17 w_18 => w_18 = w_12 ∧
 R t17 w_12) (
 vfaddr P T_impl_Vec t1 1 w_11 fun t18 w_19 =>
 vload P T_int t18 w_19 fun t19 w_20 =>
 R t19 w_20))
def A_impl_VecSigned : Ann := { ord := [(3, [0, 2, 3, 4, 1, 5], [(0, [1, 5]), (2, [3, 4, 5]), (3, [4, 5]), (4, [5]), (1, [5])]), (4, [0, 1, 2, 3, 4, 5, 6], [(0, [1, 5, 6]), (1, [5, 6]), (2, [3, 4, 5, 6]), (3, [4, 5, 6]), (4, [5, 6]), (5, [6])])], loops := [], cuts := [] }
theorem k_impl_VecSigned (v0 : Value) (w : World) (R : Value → World → Prop) : vc PP A_impl_VecSigned ((Tryz.f209.body).getD .skip) (retF PP Tryz.f209.results.toList R) (nthV [v0]) w = F_impl_VecSigned PP v0 w R := by kernel_rfl
theorem c_impl_VecSigned {v0 : Value} {w : World} {R : Value → World → Prop} (h : F_impl_VecSigned PP v0 w R) : vcall PP n_impl_VecSigned #[v0] w R :=
  call_of_vc (T := A_impl_VecSigned) (c := (Tryz.f209.body).getD .skip) (n := 20) mixed Tryz.func209 rfl rfl (by kernel_rfl) (by kernel_rfl) rfl (by rw [k_impl_VecSigned]; exact h)
def F_impl_vecKind_sort (P : Program) (v0 v1 v2 v3 : Value) (w : World) (R : Value → World → Prop) : Prop :=
 vbox P T_impl_vecKind v0 w fun _ w_1 =>
 vbox P T_impl_Term v2 w_1 fun t6 w_2 =>
 vdraw w_2 fun w_3 =>
 vfaddr P T_impl_Term t6 1 w_3 fun t9 w_4 => w_4 = w_3 ∧
 vload P T_int t9 w_3 fun t10 w_5 => w_5 = w_3 ∧
 vfaddr P T_impl_Term t6 2 w_3 fun t11 w_6 => w_6 = w_3 ∧
 vload P T_int t11 w_3 fun t12 w_7 => w_7 = w_3 ∧
 vbuild P T_impl_Vec [(0, t10), (1, t12)] w_3 fun t13 w_8 => w_8 = w_3 ∧
 vfaddr P T_impl_Term t6 1 w_3 fun t15 w_9 => w_9 = w_3 ∧
 vload P T_int t15 w_3 fun t16 w_10 => w_10 = w_3 ∧
 vcall P n_impl_VecOk #[t13] w_3 fun t14 w_11 => (vload P T_int t15 w_11 fun v x => v = t16 ∧ x = w_11) ∧ (vfaddr P T_impl_Term t6 1 w_11 fun v x => v = t15 ∧ x = w_11) ∧
 vcall P n_impl_sorted #[t14, t16] w_11 fun t17 w_12 =>
 R t17 w_12
def A_impl_vecKind_sort : Ann := { ord := [(1, [0, 1, 2, 3, 4, 6, 7, 5, 8, 9], [(0, [1, 4, 5, 8, 9]), (1, [4, 5, 8, 9]), (2, [3, 4, 5, 8, 9]), (3, [4, 5, 8, 9]), (4, [5, 8, 9]), (6, [7, 8, 9]), (7, [8, 9]), (5, [8, 9]), (8, [9])])], loops := [], cuts := [] }
theorem k_impl_vecKind_sort (v0 v1 v2 v3 : Value) (w : World) (R : Value → World → Prop) : vc PP A_impl_vecKind_sort ((Tryz.f210.body).getD .skip) (retF PP Tryz.f210.results.toList R) (nthV [v0, v1, v2, v3]) w = F_impl_vecKind_sort PP v0 v1 v2 v3 w R := by kernel_rfl
theorem c_impl_vecKind_sort {v0 v1 v2 v3 : Value} {w : World} {R : Value → World → Prop} (h : F_impl_vecKind_sort PP v0 v1 v2 v3 w R) : vcall PP n_impl_vecKind_sort #[v0, v1, v2, v3] w R :=
  call_of_vc (T := A_impl_vecKind_sort) (c := (Tryz.f210.body).getD .skip) (n := 18) mixed Tryz.func210 rfl rfl (by kernel_rfl) (by kernel_rfl) rfl (by rw [k_impl_vecKind_sort]; exact h)
def F_impl_vecKind_value (P : Program) (v0 v1 v2 v3 : Value) (w : World) (R : Value → World → Prop) : Prop :=
 vbox P T_impl_vecKind v0 w fun _ w_1 =>
 vbox P T_impl_Term v2 w_1 fun t6 w_2 =>
 vfaddr P T_impl_Term t6 2 w_2 fun t9 w_3 =>
 vload P T_int t9 w_3 fun t10 w_4 =>
 R t10 w_4
def A_impl_vecKind_value : Ann := { ord := [], loops := [], cuts := [] }
theorem k_impl_vecKind_value (v0 v1 v2 v3 : Value) (w : World) (R : Value → World → Prop) : vc PP A_impl_vecKind_value ((Tryz.f211.body).getD .skip) (retF PP Tryz.f211.results.toList R) (nthV [v0, v1, v2, v3]) w = F_impl_vecKind_value PP v0 v1 v2 v3 w R := by kernel_rfl
theorem c_impl_vecKind_value {v0 v1 v2 v3 : Value} {w : World} {R : Value → World → Prop} (h : F_impl_vecKind_value PP v0 v1 v2 v3 w R) : vcall PP n_impl_vecKind_value #[v0, v1, v2, v3] w R :=
  call_of_vc (T := A_impl_vecKind_value) (c := (Tryz.f211.body).getD .skip) (n := 11) mixed Tryz.func211 rfl rfl (by kernel_rfl) (by kernel_rfl) rfl (by rw [k_impl_vecKind_value]; exact h)
def F_impl_nameKind_sort (P : Program) (v0 v1 v2 v3 : Value) (w : World) (R : Value → World → Prop) : Prop :=
 vbox P T_impl_nameKind v0 w fun _ w_1 =>
 vbox P T_impl_Term v2 w_1 fun t6 w_2 =>
 vmkF P (.func n_impl_nameKind_sort_1) [] [t6] w_2 fun t11 w_3 =>
 vcall P n_slices_IndexFunc_Limpl_Decl_impl_Decl #[v1, t11] w_3 fun t12 w_4 =>
 vbin P .lss T_int true t12 (.int .i64 0) w_4 fun t14 w_5 =>
 vif t14 (
 R (.int .i64 (-1)) w_5) (
 viaddr P T_Limpl_Decl v1 t12 w_5 fun t17 w_6 =>
 vfaddr P T_impl_Decl t17 1 w_6 fun t18 w_7 =>
 vload P T_int t18 w_7 fun t19 w_8 =>
 R t19 w_8)
def A_impl_nameKind_sort : Ann := { ord := [], loops := [], cuts := [] }
theorem k_impl_nameKind_sort (v0 v1 v2 v3 : Value) (w : World) (R : Value → World → Prop) : vc PP A_impl_nameKind_sort ((Tryz.f212.body).getD .skip) (retF PP Tryz.f212.results.toList R) (nthV [v0, v1, v2, v3]) w = F_impl_nameKind_sort PP v0 v1 v2 v3 w R := by kernel_rfl
theorem c_impl_nameKind_sort {v0 v1 v2 v3 : Value} {w : World} {R : Value → World → Prop} (h : F_impl_nameKind_sort PP v0 v1 v2 v3 w R) : vcall PP n_impl_nameKind_sort #[v0, v1, v2, v3] w R :=
  call_of_vc (T := A_impl_nameKind_sort) (c := (Tryz.f212.body).getD .skip) (n := 20) mixed Tryz.func212 rfl rfl (by kernel_rfl) (by kernel_rfl) rfl (by rw [k_impl_nameKind_sort]; exact h)
def F_impl_nameKind_value (P : Program) (v0 v1 v2 v3 : Value) (w : World) (R : Value → World → Prop) : Prop :=
 vbox P T_impl_nameKind v0 w fun _ w_1 =>
 vbox P T_impl_Term v2 w_1 fun t6 w_2 =>
 vfaddr P T_impl_Term t6 3 w_2 fun t10 w_3 =>
 vload P T_string t10 w_3 fun t11 w_4 =>
 vlook P T_M_map_string_int v1 t11 false w_4 fun t12 w_5 =>
 R t12 w_5
def A_impl_nameKind_value : Ann := { ord := [], loops := [], cuts := [] }
theorem k_impl_nameKind_value (v0 v1 v2 v3 : Value) (w : World) (R : Value → World → Prop) : vc PP A_impl_nameKind_value ((Tryz.f213.body).getD .skip) (retF PP Tryz.f213.results.toList R) (nthV [v0, v1, v2, v3]) w = F_impl_nameKind_value PP v0 v1 v2 v3 w R := by kernel_rfl
theorem c_impl_nameKind_value {v0 v1 v2 v3 : Value} {w : World} {R : Value → World → Prop} (h : F_impl_nameKind_value PP v0 v1 v2 v3 w R) : vcall PP n_impl_nameKind_value #[v0, v1, v2, v3] w R :=
  call_of_vc (T := A_impl_nameKind_value) (c := (Tryz.f213.body).getD .skip) (n := 13) mixed Tryz.func213 rfl rfl (by kernel_rfl) (by kernel_rfl) rfl (by rw [k_impl_nameKind_value]; exact h)
def F_impl_nameKind_sort_1 (P : Program) (v0 v1 : Value) (w : World) (R : Value → World → Prop) : Prop :=
 vbox P T_impl_Decl v0 w fun t2 w_1 =>
 vfaddr P T_impl_Decl t2 0 w_1 fun t4 w_2 =>
 vload P T_string t4 w_2 fun t5 w_3 =>
 vfaddr P T_impl_Term v1 3 w_3 fun t6 w_4 =>
 vload P T_string t6 w_4 fun t7 w_5 =>
 vbin P .eql T_string false t5 t7 w_5 fun t8 w_6 =>
 R t8 w_6
def A_impl_nameKind_sort_1 : Ann := { ord := [], loops := [], cuts := [] }
theorem k_impl_nameKind_sort_1 (v0 v1 : Value) (w : World) (R : Value → World → Prop) : vc PP A_impl_nameKind_sort_1 ((Tryz.f214.body).getD .skip) (retF PP Tryz.f214.results.toList R) (nthV [v0, v1]) w = F_impl_nameKind_sort_1 PP v0 v1 w R := by kernel_rfl
theorem c_impl_nameKind_sort_1 {v0 v1 : Value} {w : World} {R : Value → World → Prop} (h : F_impl_nameKind_sort_1 PP v0 v1 w R) : vcall PP n_impl_nameKind_sort_1 #[v0, v1] w R :=
  call_of_vc (T := A_impl_nameKind_sort_1) (c := (Tryz.f214.body).getD .skip) (n := 9) mixed Tryz.func214 rfl rfl (by kernel_rfl) (by kernel_rfl) rfl (by rw [k_impl_nameKind_sort_1]; exact h)
def F_impl_cutKind_sort (P : Program) (v0 v1 v2 v3 : Value) (w : World) (R : Value → World → Prop) : Prop :=
 vbox P T_impl_cutKind v0 w fun _ w_1 =>
 vbox P T_impl_Term v2 w_1 fun t6 w_2 =>
 vdraw w_2 fun w_3 =>
 vfaddr P T_impl_Term t6 2 w_3 fun t9 w_4 => w_4 = w_3 ∧
 vload P T_int t9 w_3 fun t10 w_5 => w_5 = w_3 ∧
 vbin P .geq T_int true t10 (.int .i64 0) w_3 fun t11 w_6 => w_6 = w_3 ∧
 vif t11 (
 vfaddr P T_impl_Term t6 1 w_3 fun t13 w_7 => w_7 = w_3 ∧
 vload P T_int t13 w_3 fun t14 w_8 => w_8 = w_3 ∧
 vfaddr P T_impl_Term t6 2 w_3 fun t15 w_9 => w_9 = w_3 ∧
 vload P T_int t15 w_3 fun t16 w_10 => w_10 = w_3 ∧
 vbin P .geq T_int false t14 t16 w_3 fun t17 w_11 => w_11 = w_3 ∧
 vif t17 (
 vfaddr P T_impl_Term t6 1 w_3 fun t20 w_12 => w_12 = w_3 ∧
 vload P T_int t20 w_3 fun t21 w_13 => w_13 = w_3 ∧
 viaddr P T_Lint v3 (.int .i64 0) w_3 fun t23 w_14 => w_14 = w_3 ∧
 vload P T_int t23 w_3 fun t24 w_15 => w_15 = w_3 ∧
 vbin P .lss T_int false t21 t24 w_3 fun t25 w_16 => w_16 = w_3 ∧
 vfaddr P T_impl_Term t6 1 w_3 fun t27 w_17 => w_17 = w_3 ∧
 vload P T_int t27 w_3 fun t28 w_18 => w_18 = w_3 ∧
 vfaddr P T_impl_Term t6 2 w_3 fun t29 w_19 => w_19 = w_3 ∧
 vload P T_int t29 w_3 fun t30 w_20 => w_20 = w_3 ∧
 vbin P .sub T_int false t28 t30 w_3 fun t31 w_21 => w_21 = w_3 ∧
 vbin P .add T_int true t31 (.int .i64 1) w_3 fun t32 w_22 => w_22 = w_3 ∧
 vcall P n_impl_sorted #[t25, t32] w_3 fun t33 w_23 =>
 R t33 w_23) (
 vfaddr P T_impl_Term t6 1 w_3 fun t27_1 w_24 => w_24 = w_3 ∧
 vload P T_int t27_1 w_3 fun t28_1 w_25 => w_25 = w_3 ∧
 vfaddr P T_impl_Term t6 2 w_3 fun t29_1 w_26 => w_26 = w_3 ∧
 vload P T_int t29_1 w_3 fun t30_1 w_27 => w_27 = w_3 ∧
 vbin P .sub T_int false t28_1 t30_1 w_3 fun t31_1 w_28 => w_28 = w_3 ∧
 vbin P .add T_int true t31_1 (.int .i64 1) w_3 fun t32_1 w_29 => w_29 = w_3 ∧
 vcall P n_impl_sorted #[(.bool false), t32_1] w_3 fun t33_1 w_30 =>
 R t33_1 w_30)) (
 vfaddr P T_impl_Term t6 1 w_3 fun t27_2 w_31 => w_31 = w_3 ∧
 vload P T_int t27_2 w_3 fun t28_2 w_32 => w_32 = w_3 ∧
 vfaddr P T_impl_Term t6 2 w_3 fun t29_2 w_33 => w_33 = w_3 ∧
 vload P T_int t29_2 w_3 fun t30_2 w_34 => w_34 = w_3 ∧
 vbin P .sub T_int false t28_2 t30_2 w_3 fun t31_2 w_35 => w_35 = w_3 ∧
 vbin P .add T_int true t31_2 (.int .i64 1) w_3 fun t32_2 w_36 => w_36 = w_3 ∧
 vcall P n_impl_sorted #[(.bool false), t32_2] w_3 fun t33_2 w_37 =>
 R t33_2 w_37)
def A_impl_cutKind_sort : Ann := { ord := [(1, [0, 1, 2, 3, 4, 5, 6, 7, 8, 9, 10, 11, 12, 13, 14, 15, 16, 17, 18, 19, 20, 21, 22, 23, 24, 25], [(0, [1, 2, 3, 4, 5, 6, 7, 8, 9, 10, 11, 12, 13, 14, 15, 16, 17, 24, 25]), (1, [2, 3, 4, 5, 6, 7, 8, 9, 10, 11, 12, 13, 14, 15, 16, 17, 24, 25]), (2, [3, 4, 5, 6, 7, 8, 9, 10, 11, 12, 13, 14, 15, 16, 17, 24, 25]), (3, [4, 5, 6, 7, 8, 9, 10, 11, 12, 13, 14, 15, 16, 17, 24, 25]), (4, [5, 8, 9, 10, 11, 12, 13, 14, 15, 16, 17, 24, 25]), (5, [8, 9, 10, 11, 12, 13, 14, 15, 16, 17, 24, 25]), (6, [7, 8, 9, 10, 11, 12, 13, 14, 15, 16, 17, 24, 25]), (7, [8, 9, 10, 11, 12, 13, 14, 15, 16, 17, 24, 25]), (8, [9, 10, 11, 12, 13, 14, 15, 16, 17, 24, 25]), (9, [10, 11, 12, 13, 14, 15, 16, 17, 24, 25]), (10, [11, 12, 13, 14, 15, 16, 17, 24, 25]), (11, [12, 16, 17, 24, 25]), (12, [16, 17, 24, 25]), (13, [14, 15, 16, 17, 24, 25]), (14, [15, 16, 17, 24, 25]), (15, [16, 17, 24, 25]), (16, [17, 24, 25]), (17, [24, 25]), (18, [19, 22, 23, 24, 25]), (19, [22, 23, 24, 25]), (20, [21, 22, 23, 24, 25]), (21, [22, 23, 24, 25]), (22, [23, 24, 25]), (23, [24, 25]), (24, [25])])], loops := [], cuts := [] }
theorem k_impl_cutKind_sort (v0 v1 v2 v3 : Value) (w : World) (R : Value → World → Prop) : vc PP A_impl_cutKind_sort ((Tryz.f215.body).getD .skip) (retF PP Tryz.f215.results.toList R) (nthV [v0, v1, v2, v3]) w = F_impl_cutKind_sort PP v0 v1 v2 v3 w R := by kernel_rfl
theorem c_impl_cutKind_sort {v0 v1 v2 v3 : Value} {w : World} {R : Value → World → Prop} (h : F_impl_cutKind_sort PP v0 v1 v2 v3 w R) : vcall PP n_impl_cutKind_sort #[v0, v1, v2, v3] w R :=
  call_of_vc (T := A_impl_cutKind_sort) (c := (Tryz.f215.body).getD .skip) (n := 34) mixed Tryz.func215 rfl rfl (by kernel_rfl) (by kernel_rfl) rfl (by rw [k_impl_cutKind_sort]; exact h)
def F_impl_cutKind_value (P : Program) (v0 v1 v2 v3 : Value) (w : World) (R : Value → World → Prop) : Prop :=
 vbox P T_impl_cutKind v0 w fun _ w_1 =>
 vbox P T_impl_Term v2 w_1 fun t6 w_2 =>
 vjoin (fun J =>
 vdraw w_2 fun w_4 =>
 viaddr P T_Limpl_Vec v3 (.int .i64 0) w_4 fun t13 w_5 => w_5 = w_4 ∧
 vload P T_impl_Vec t13 w_4 fun t14 w_6 => w_6 = w_4 ∧
 vfaddr P T_impl_Term t6 1 w_4 fun t15 w_7 => w_7 = w_4 ∧
 vload P T_int t15 w_4 fun t16 w_8 => w_8 = w_4 ∧
 vfaddr P T_impl_Term t6 2 w_4 fun t17 w_9 => w_9 = w_4 ∧
 vload P T_int t17 w_4 fun t18 w_10 => w_10 = w_4 ∧
 (vcall P n_impl_VecCut #[t14, t16, t18] w_4 fun t19 w_11 =>
 vextract P t19 0 w_11 fun t20 w_12 => w_12 = w_11 ∧
 vextract P t19 1 w_11 fun t21 w_13 => w_13 = w_11 ∧
 (valloc P T_impl_Vec w_11 fun t9 w_14 => (vextract P t19 1 w_14 fun v x => v = t21 ∧ x = w_14) ∧ (vextract P t19 0 w_14 fun v x => v = t20 ∧ x = w_14) ∧
 (vstore P T_impl_Vec t9 t20 w_14 fun _ w_15 => (vextract P t19 1 w_15 fun v x => v = t21 ∧ x = w_15) ∧
 J [t9] w_15) ∧
 True) ∧
 True) ∧
 (valloc P T_impl_Vec w_4 fun t9_1 w_16 => (vload P T_int t17 w_16 fun v x => v = t18 ∧ x = w_16) ∧ (vfaddr P T_impl_Term t6 2 w_16 fun v x => v = t17 ∧ x = w_16) ∧ (vload P T_int t15 w_16 fun v x => v = t16 ∧ x = w_16) ∧ (vfaddr P T_impl_Term t6 1 w_16 fun v x => v = t15 ∧ x = w_16) ∧ (vload P T_impl_Vec t13 w_16 fun v x => v = t14 ∧ x = w_16) ∧ (viaddr P T_Limpl_Vec v3 (.int .i64 0) w_16 fun v x => v = t13 ∧ x = w_16) ∧
 (vcall P n_impl_VecCut #[t14, t16, t18] w_16 fun t19_1 w_17 =>
 vextract P t19_1 0 w_17 fun t20_1 w_18 => w_18 = w_17 ∧
 vextract P t19_1 1 w_17 fun t21_1 w_19 => w_19 = w_17 ∧
 (vstore P T_impl_Vec t9_1 t20_1 w_17 fun _ w_20 => (vextract P t19_1 1 w_20 fun v x => v = t21_1 ∧ x = w_20) ∧
 J [t9_1] w_20) ∧
 True) ∧
 True) ∧
 True) (fun u _ w_3 =>
 vfaddr P T_impl_Vec (sl 0 u) 1 w_3 fun t22 w_21 =>
 vload P T_int t22 w_21 fun t23 w_22 =>
 R t23 w_22)
def A_impl_cutKind_value : Ann := { ord := [], loops := [], cuts := [(8194, [9])], trees := [(1, (.st 0 (.st 1 (.st 2 (.st 3 (.st 4 (.st 5 (.st 6 (.alt 7 (.st 8 (.st 9 (.st 10 (.alt 11 (.alt 12 (.st 13 .nil) .no) .no)))) (.alt 11 (.alt 7 (.st 8 (.st 9 (.st 10 (.alt 12 (.st 13 .nil) .no)))) .no) .no))))))))), [(0, [1, 2, 7, 8, 9, 10, 12, 13]), (1, [2, 7, 8, 9, 10, 12, 13]), (2, [7, 8, 9, 10, 12, 13]), (3, [4, 7, 8, 9, 10, 12, 13]), (4, [7, 8, 9, 10, 12, 13]), (5, [6, 7, 8, 9, 10, 12, 13]), (6, [7, 8, 9, 10, 12, 13]), (7, [8, 9, 10, 12, 13]), (8, [9, 10, 12, 13]), (9, [12, 13]), (10, [13]), (11, [12, 13]), (12, [13])])] }
theorem k_impl_cutKind_value (v0 v1 v2 v3 : Value) (w : World) (R : Value → World → Prop) : vc PP A_impl_cutKind_value ((Tryz.f216.body).getD .skip) (retF PP Tryz.f216.results.toList R) (nthV [v0, v1, v2, v3]) w = F_impl_cutKind_value PP v0 v1 v2 v3 w R := by kernel_rfl
theorem c_impl_cutKind_value {v0 v1 v2 v3 : Value} {w : World} {R : Value → World → Prop} (h : F_impl_cutKind_value PP v0 v1 v2 v3 w R) : vcall PP n_impl_cutKind_value #[v0, v1, v2, v3] w R :=
  call_of_vc (T := A_impl_cutKind_value) (c := (Tryz.f216.body).getD .skip) (n := 24) mixed Tryz.func216 rfl rfl (by kernel_rfl) (by kernel_rfl) rfl (by rw [k_impl_cutKind_value]; exact h)
def F_impl_VecCut (P : Program) (v0 v1 v2 : Value) (w : World) (R : Value → World → Prop) : Prop :=
 vbox P T_impl_Vec v0 w fun t3 w_1 =>
 valloc P T_impl_Vec w_1 fun t6 w_2 =>
 vjoin (fun J =>
 vload P T_impl_Vec t3 w_2 fun t9 w_4 =>
 vcall P n_impl_VecOk #[t9] w_4 fun t10 w_5 =>
 vun P .not t10 w_5 fun t11 w_6 =>
 vif t11 (
 vbuild P T_impl_Vec [] w_6 fun t27 w_7 =>
 vstore P T_impl_Vec t6 t27 w_7 fun _ w_8 =>
 vlv P T_impl_Vec t6 w_8 fun r6 w_9 =>
 R (.tuple #[r6, (.bool false)]) w_9) (
 vbin P .lss T_int true v2 (.int .i64 0) w_6 fun t14 w_10 =>
 vif t14 (
 vbuild P T_impl_Vec [] w_10 fun t27_1 w_11 =>
 vstore P T_impl_Vec t6 t27_1 w_11 fun _ w_12 =>
 vlv P T_impl_Vec t6 w_12 fun r6_1 w_13 =>
 R (.tuple #[r6_1, (.bool false)]) w_13) (
 vbin P .lss T_int false v1 v2 w_10 fun t19 w_14 =>
 vif t19 (
 vbuild P T_impl_Vec [] w_14 fun t27_2 w_15 =>
 vstore P T_impl_Vec t6 t27_2 w_15 fun _ w_16 =>
 vlv P T_impl_Vec t6 w_16 fun r6_2 w_17 =>
 R (.tuple #[r6_2, (.bool false)]) w_17) (
 vfaddr P T_impl_Vec t3 0 w_14 fun t23 w_18 =>
 vload P T_int t23 w_18 fun t24 w_19 =>
 vbin P .geq T_int false v1 t24 w_19 fun t25 w_20 =>
 vif t25 (
 vbuild P T_impl_Vec [] w_20 fun t27_3 w_21 =>
 vstore P T_impl_Vec t6 t27_3 w_21 fun _ w_22 =>
 vlv P T_impl_Vec t6 w_22 fun r6_3 w_23 =>
 R (.tuple #[r6_3, (.bool false)]) w_23) (
 J [] w_20))))) (fun _ _ w_3 =>
 vbin P .sub T_int false v1 v2 w_3 fun t30 w_24 =>
 vbin P .add T_int true t30 (.int .i64 1) w_24 fun t31 w_25 =>
 vload P T_impl_Vec t3 w_25 fun t33 w_26 =>
 vcall P n_impl_Vec_raw #[t33] w_26 fun t34 w_27 =>
 vbin P .shr T_impl_raw false t34 v2 w_27 fun t36 w_28 =>
 vcall P n_impl_raw_cut #[t36, t31] w_28 fun t38 w_29 =>
 vconv P T_impl_raw T_int t38 w_29 fun t39 w_30 =>
 vbuild P T_impl_Vec [(0, t31), (1, t39)] w_30 fun t40 w_31 =>
 vstore P T_impl_Vec t6 t40 w_31 fun _ w_32 =>
 vlv P T_impl_Vec t6 w_32 fun r6_4 w_33 =>
 R (.tuple #[r6_4, (.bool true)]) w_33)
def A_impl_VecCut : Ann := { ord := [], loops := [], cuts := [(8195, [])] }
theorem k_impl_VecCut (v0 v1 v2 : Value) (w : World) (R : Value → World → Prop) : vc PP A_impl_VecCut ((Tryz.f217.body).getD .skip) (retF PP Tryz.f217.results.toList R) (nthV [v0, v1, v2]) w = F_impl_VecCut PP v0 v1 v2 w R := by kernel_rfl
theorem c_impl_VecCut {v0 v1 v2 : Value} {w : World} {R : Value → World → Prop} (h : F_impl_VecCut PP v0 v1 v2 w R) : vcall PP n_impl_VecCut #[v0, v1, v2] w R :=
  call_of_vc (T := A_impl_VecCut) (c := (Tryz.f217.body).getD .skip) (n := 41) mixed Tryz.func217 rfl rfl (by kernel_rfl) (by kernel_rfl) rfl (by rw [k_impl_VecCut]; exact h)
def F_impl_ifKind_sort (P : Program) (v0 v1 v2 v3 : Value) (w : World) (R : Value → World → Prop) : Prop :=
 vbox P T_impl_ifKind v0 w fun _ w_1 =>
 vbox P T_impl_Term v2 w_1 fun _ w_2 =>
 vdraw w_2 fun w_3 =>
 viaddr P T_Lint v3 (.int .i64 0) w_3 fun t10 w_4 => w_4 = w_3 ∧
 vload P T_int t10 w_3 fun t11 w_5 => w_5 = w_3 ∧
 vbin P .eql T_int true t11 (.int .i64 0) w_3 fun t12 w_6 => w_6 = w_3 ∧
 vif t12 (
 viaddr P T_Lint v3 (.int .i64 1) w_3 fun t15 w_7 => w_7 = w_3 ∧
 vload P T_int t15 w_3 fun t16 w_8 => w_8 = w_3 ∧
 viaddr P T_Lint v3 (.int .i64 2) w_3 fun t18 w_9 => w_9 = w_3 ∧
 vload P T_int t18 w_3 fun t19 w_10 => w_10 = w_3 ∧
 vbin P .eql T_int false t16 t19 w_3 fun t20 w_11 => w_11 = w_3 ∧
 viaddr P T_Lint v3 (.int .i64 1) w_3 fun t23 w_12 => w_12 = w_3 ∧
 vload P T_int t23 w_3 fun t24 w_13 => w_13 = w_3 ∧
 vcall P n_impl_sorted #[t20, t24] w_3 fun t25 w_14 =>
 R t25 w_14) (
 viaddr P T_Lint v3 (.int .i64 1) w_3 fun t23_1 w_15 => w_15 = w_3 ∧
 vload P T_int t23_1 w_3 fun t24_1 w_16 => w_16 = w_3 ∧
 vcall P n_impl_sorted #[(.bool false), t24_1] w_3 fun t25_1 w_17 =>
 R t25_1 w_17)
def A_impl_ifKind_sort : Ann := { ord := [(1, [0, 1, 2, 3, 4, 5, 6, 7, 8, 9, 10, 11, 12, 13, 14, 15, 16, 17], [(0, [1, 2, 3, 4, 5, 6, 7, 8, 9, 10, 11, 12, 16, 17]), (1, [2, 3, 4, 5, 6, 7, 8, 9, 10, 11, 12, 16, 17]), (2, [3, 4, 5, 6, 7, 8, 9, 10, 11, 12, 16, 17]), (3, [4, 5, 6, 7, 8, 9, 10, 11, 12, 16, 17]), (4, [5, 6, 7, 8, 9, 10, 11, 12, 16, 17]), (5, [6, 7, 11, 12, 16, 17]), (6, [7, 11, 12, 16, 17]), (7, [11, 12, 16, 17]), (8, [9, 10, 11, 12, 16, 17]), (9, [10, 11, 12, 16, 17]), (10, [11, 12, 16, 17]), (11, [12, 16, 17]), (12, [16, 17]), (13, [14, 15, 16, 17]), (14, [15, 16, 17]), (15, [16, 17]), (16, [17])])], loops := [], cuts := [] }
theorem k_impl_ifKind_sort (v0 v1 v2 v3 : Value) (w : World) (R : Value → World → Prop) : vc PP A_impl_ifKind_sort ((Tryz.f218.body).getD .skip) (retF PP Tryz.f218.results.toList R) (nthV [v0, v1, v2, v3]) w = F_impl_ifKind_sort PP v0 v1 v2 v3 w R := by kernel_rfl
theorem c_impl_ifKind_sort {v0 v1 v2 v3 : Value} {w : World} {R : Value → World → Prop} (h : F_impl_ifKind_sort PP v0 v1 v2 v3 w R) : vcall PP n_impl_ifKind_sort #[v0, v1, v2, v3] w R :=
  call_of_vc (T := A_impl_ifKind_sort) (c := (Tryz.f218.body).getD .skip) (n := 26) mixed Tryz.func218 rfl rfl (by kernel_rfl) (by kernel_rfl) rfl (by rw [k_impl_ifKind_sort]; exact h)
def F_impl_ifKind_value (P : Program) (v0 v1 v2 v3 : Value) (w : World) (R : Value → World → Prop) : Prop :=
 vbox P T_impl_ifKind v0 w fun _ w_1 =>
 vbox P T_impl_Term v2 w_1 fun _ w_2 =>
 viaddr P T_Limpl_Vec v3 (.int .i64 0) w_2 fun t10 w_3 =>
 vfaddr P T_impl_Vec t10 1 w_3 fun t11 w_4 =>
 vload P T_int t11 w_4 fun t12 w_5 =>
 vbin P .eql T_int true t12 (.int .i64 1) w_5 fun t13 w_6 =>
 vif t13 (
 viaddr P T_Limpl_Vec v3 (.int .i64 1) w_6 fun t15 w_7 =>
 vfaddr P T_impl_Vec t15 1 w_7 fun t16 w_8 =>
 vload P T_int t16 w_8 fun t17 w_9 =>
 R t17 w_9) (
 viaddr P T_Limpl_Vec v3 (.int .i64 2) w_6 fun t19 w_10 =>
 vfaddr P T_impl_Vec t19 1 w_10 fun t20 w_11 =>
 vload P T_int t20 w_11 fun t21 w_12 =>
 R t21 w_12)
def A_impl_ifKind_value : Ann := { ord := [], loops := [], cuts := [] }
theorem k_impl_ifKind_value (v0 v1 v2 v3 : Value) (w : World) (R : Value → World → Prop) : vc PP A_impl_ifKind_value ((Tryz.f219.body).getD .skip) (retF PP Tryz.f219.results.toList R) (nthV [v0, v1, v2, v3]) w = F_impl_ifKind_value PP v0 v1 v2 v3 w R := by kernel_rfl
theorem c_impl_ifKind_value {v0 v1 v2 v3 : Value} {w : World} {R : Value → World → Prop} (h : F_impl_ifKind_value PP v0 v1 v2 v3 w R) : vcall PP n_impl_ifKind_value #[v0, v1, v2, v3] w R :=
  call_of_vc (T := A_impl_ifKind_value) (c := (Tryz.f219.body).getD .skip) (n := 22) mixed Tryz.func219 rfl rfl (by kernel_rfl) (by kernel_rfl) rfl (by rw [k_impl_ifKind_value]; exact h)
def F_impl_boolKind_sort (P : Program) (v0 v1 v2 v3 : Value) (w : World) (R : Value → World → Prop) : Prop :=
 vbox P T_impl_boolKind v0 w fun _ w_1 =>
 vbox P T_impl_Term v2 w_1 fun _ w_2 =>
 vcall P n_slices_ContainsFunc_Lint_int #[v3, (.func (.func n_impl_boolKind_sort_1) #[] #[])] w_2 fun t10 w_3 =>
 vun P .not t10 w_3 fun t11 w_4 =>
 vcall P n_impl_sorted #[t11, (.int .i64 0)] w_4 fun t12 w_5 =>
 R t12 w_5
def A_impl_boolKind_sort : Ann := { ord := [], loops := [], cuts := [] }
theorem k_impl_boolKind_sort (v0 v1 v2 v3 : Value) (w : World) (R : Value → World → Prop) : vc PP A_impl_boolKind_sort ((Tryz.f220.body).getD .skip) (retF PP Tryz.f220.results.toList R) (nthV [v0, v1, v2, v3]) w = F_impl_boolKind_sort PP v0 v1 v2 v3 w R := by kernel_rfl
theorem c_impl_boolKind_sort {v0 v1 v2 v3 : Value} {w : World} {R : Value → World → Prop} (h : F_impl_boolKind_sort PP v0 v1 v2 v3 w R) : vcall PP n_impl_boolKind_sort #[v0, v1, v2, v3] w R :=
  call_of_vc (T := A_impl_boolKind_sort) (c := (Tryz.f220.body).getD .skip) (n := 13) mixed Tryz.func220 rfl rfl (by kernel_rfl) (by kernel_rfl) rfl (by rw [k_impl_boolKind_sort]; exact h)
def F_impl_boolKind_value (P : Program) (v0 v1 v2 v3 : Value) (w : World) (R : Value → World → Prop) : Prop :=
 vbox P T_impl_boolKind v0 w fun t4 w_1 =>
 vbox P T_impl_Term v2 w_1 fun _ w_2 =>
 vfaddr P T_impl_boolKind t4 1 w_2 fun t9 w_3 =>
 vload P T_F_func_Limpl_Vec_bool t9 w_3 fun t10 w_4 =>
 vcallv P t10 #[v3] w_4 fun t12 w_5 =>
 vcall P n_impl_number #[t12] w_5 fun t13 w_6 =>
 R t13 w_6
def A_impl_boolKind_value : Ann := { ord := [], loops := [], cuts := [] }
theorem k_impl_boolKind_value (v0 v1 v2 v3 : Value) (w : World) (R : Value → World → Prop) : vc PP A_impl_boolKind_value ((Tryz.f221.body).getD .skip) (retF PP Tryz.f221.results.toList R) (nthV [v0, v1, v2, v3]) w = F_impl_boolKind_value PP v0 v1 v2 v3 w R := by kernel_rfl
theorem c_impl_boolKind_value {v0 v1 v2 v3 : Value} {w : World} {R : Value → World → Prop} (h : F_impl_boolKind_value PP v0 v1 v2 v3 w R) : vcall PP n_impl_boolKind_value #[v0, v1, v2, v3] w R :=
  call_of_vc (T := A_impl_boolKind_value) (c := (Tryz.f221.body).getD .skip) (n := 14) mixed Tryz.func221 rfl rfl (by kernel_rfl) (by kernel_rfl) rfl (by rw [k_impl_boolKind_value]; exact h)
def F_slices_ContainsFunc_Lint_int (P : Program) (v0 v1 : Value) (w : World) (R : Value → World → Prop) : Prop :=
 vcall P n_slices_IndexFunc_Lint_int #[v0, v1] w fun t7 w_1 =>
 vbin P .geq T_int true t7 (.int .i64 0) w_1 fun t8 w_2 =>
 R t8 w_2
def A_slices_ContainsFunc_Lint_int : Ann := { ord := [], loops := [], cuts := [] }
theorem k_slices_ContainsFunc_Lint_int (v0 v1 : Value) (w : World) (R : Value → World → Prop) : vc PP A_slices_ContainsFunc_Lint_int ((Tryz.f222.body).getD .skip) (retF PP Tryz.f222.results.toList R) (nthV [v0, v1]) w = F_slices_ContainsFunc_Lint_int PP v0 v1 w R := by kernel_rfl
theorem c_slices_ContainsFunc_Lint_int {v0 v1 : Value} {w : World} {R : Value → World → Prop} (h : F_slices_ContainsFunc_Lint_int PP v0 v1 w R) : vcall PP n_slices_ContainsFunc_Lint_int #[v0, v1] w R :=
  call_of_vc (T := A_slices_ContainsFunc_Lint_int) (c := (Tryz.f222.body).getD .skip) (n := 9) mixed Tryz.func222 rfl rfl (by kernel_rfl) (by kernel_rfl) rfl (by rw [k_slices_ContainsFunc_Lint_int]; exact h)
def F_impl_boolKind_sort_1 (P : Program) (v0 : Value) (w : World) (R : Value → World → Prop) : Prop :=
 vbin P .neq T_int true v0 (.int .i64 0) w fun t4 w_1 =>
 R t4 w_1
def A_impl_boolKind_sort_1 : Ann := { ord := [], loops := [], cuts := [] }
theorem k_impl_boolKind_sort_1 (v0 : Value) (w : World) (R : Value → World → Prop) : vc PP A_impl_boolKind_sort_1 ((Tryz.f223.body).getD .skip) (retF PP Tryz.f223.results.toList R) (nthV [v0]) w = F_impl_boolKind_sort_1 PP v0 w R := by kernel_rfl
theorem c_impl_boolKind_sort_1 {v0 : Value} {w : World} {R : Value → World → Prop} (h : F_impl_boolKind_sort_1 PP v0 w R) : vcall PP n_impl_boolKind_sort_1 #[v0] w R :=
  call_of_vc (T := A_impl_boolKind_sort_1) (c := (Tryz.f223.body).getD .skip) (n := 5) mixed Tryz.func223 rfl rfl (by kernel_rfl) (by kernel_rfl) rfl (by rw [k_impl_boolKind_sort_1]; exact h)
def F_slices_IndexFunc_Lint_int (P : Program) (v0 v1 : Value) (w : World) (R : Value → World → Prop) : Prop :=
 vbi P .len [T_Lint] T_int [v0] w fun t7 w_1 =>
 vloop [(.int .i64 0)] w_1 fun C u _ w_2 =>
 vbin P .lss T_int false (sl 0 u) t7 w_2 fun t9 w_3 =>
 vif t9 (
 viaddr P T_Lint v0 (sl 0 u) w_3 fun t14 w_4 =>
 vload P T_int t14 w_4 fun t15 w_5 =>
 vcallv P v1 #[t15] w_5 fun t16 w_6 =>
 vif t16 (
 R (sl 0 u) w_6) (
 vbin P .add T_int true (sl 0 u) (.int .i64 1) w_6 fun t18 w_7 =>
 C [t18] w_7)) (
 R (.int .i64 (-1)) w_3)
def A_slices_IndexFunc_Lint_int : Ann := { ord := [], loops := [(2, [8])], cuts := [] }
theorem k_slices_IndexFunc_Lint_int (v0 v1 : Value) (w : World) (R : Value → World → Prop) : vc PP A_slices_IndexFunc_Lint_int ((Tryz.f224.body).getD .skip) (retF PP Tryz.f224.results.toList R) (nthV [v0, v1]) w = F_slices_IndexFunc_Lint_int PP v0 v1 w R := by kernel_rfl
theorem c_slices_IndexFunc_Lint_int {v0 v1 : Value} {w : World} {R : Value → World → Prop} (h : F_slices_IndexFunc_Lint_int PP v0 v1 w R) : vcall PP n_slices_IndexFunc_Lint_int #[v0, v1] w R :=
  call_of_vc (T := A_slices_IndexFunc_Lint_int) (c := (Tryz.f224.body).getD .skip) (n := 19) mixed Tryz.func224 rfl rfl (by kernel_rfl) (by kernel_rfl) rfl (by rw [k_slices_IndexFunc_Lint_int]; exact h)
def F_impl_binKind_sort (P : Program) (v0 v1 v2 v3 : Value) (w : World) (R : Value → World → Prop) : Prop :=
 vbox P T_impl_binKind v0 w fun _ w_1 =>
 vbox P T_impl_Term v2 w_1 fun _ w_2 =>
 vdraw w_2 fun w_3 =>
 viaddr P T_Lint v3 (.int .i64 0) w_3 fun t10 w_4 => w_4 = w_3 ∧
 vload P T_int t10 w_3 fun t11 w_5 => w_5 = w_3 ∧
 vbin P .gtr T_int true t11 (.int .i64 0) w_3 fun t12 w_6 => w_6 = w_3 ∧
 vif t12 (
 viaddr P T_Lint v3 (.int .i64 0) w_3 fun t15 w_7 => w_7 = w_3 ∧
 vload P T_int t15 w_3 fun t16 w_8 => w_8 = w_3 ∧
 viaddr P T_Lint v3 (.int .i64 1) w_3 fun t18 w_9 => w_9 = w_3 ∧
 vload P T_int t18 w_3 fun t19 w_10 => w_10 = w_3 ∧
 vbin P .eql T_int false t16 t19 w_3 fun t20 w_11 => w_11 = w_3 ∧
 viaddr P T_Lint v3 (.int .i64 0) w_3 fun t23 w_12 => w_12 = w_3 ∧
 vload P T_int t23 w_3 fun t24 w_13 => w_13 = w_3 ∧
 vcall P n_impl_sorted #[t20, t24] w_3 fun t25 w_14 =>
 R t25 w_14) (
 viaddr P T_Lint v3 (.int .i64 0) w_3 fun t23_1 w_15 => w_15 = w_3 ∧
 vload P T_int t23_1 w_3 fun t24_1 w_16 => w_16 = w_3 ∧
 vcall P n_impl_sorted #[(.bool false), t24_1] w_3 fun t25_1 w_17 =>
 R t25_1 w_17)
def A_impl_binKind_sort : Ann := { ord := [(1, [0, 1, 2, 3, 4, 5, 6, 7, 8, 9, 10, 11, 12, 13, 14, 15, 16, 17], [(0, [1, 2, 3, 4, 5, 6, 7, 8, 9, 10, 11, 12, 16, 17]), (1, [2, 3, 4, 5, 6, 7, 8, 9, 10, 11, 12, 16, 17]), (2, [3, 4, 5, 6, 7, 8, 9, 10, 11, 12, 16, 17]), (3, [4, 5, 6, 7, 8, 9, 10, 11, 12, 16, 17]), (4, [5, 6, 7, 8, 9, 10, 11, 12, 16, 17]), (5, [6, 7, 11, 12, 16, 17]), (6, [7, 11, 12, 16, 17]), (7, [11, 12, 16, 17]), (8, [9, 10, 11, 12, 16, 17]), (9, [10, 11, 12, 16, 17]), (10, [11, 12, 16, 17]), (11, [12, 16, 17]), (12, [16, 17]), (13, [14, 15, 16, 17]), (14, [15, 16, 17]), (15, [16, 17]), (16, [17])])], loops := [], cuts := [] }
theorem k_impl_binKind_sort (v0 v1 v2 v3 : Value) (w : World) (R : Value → World → Prop) : vc PP A_impl_binKind_sort ((Tryz.f225.body).getD .skip) (retF PP Tryz.f225.results.toList R) (nthV [v0, v1, v2, v3]) w = F_impl_binKind_sort PP v0 v1 v2 v3 w R := by kernel_rfl
theorem c_impl_binKind_sort {v0 v1 v2 v3 : Value} {w : World} {R : Value → World → Prop} (h : F_impl_binKind_sort PP v0 v1 v2 v3 w R) : vcall PP n_impl_binKind_sort #[v0, v1, v2, v3] w R :=
  call_of_vc (T := A_impl_binKind_sort) (c := (Tryz.f225.body).getD .skip) (n := 26) mixed Tryz.func225 rfl rfl (by kernel_rfl) (by kernel_rfl) rfl (by rw [k_impl_binKind_sort]; exact h)
def F_impl_binKind_value (P : Program) (v0 v1 v2 v3 : Value) (w : World) (R : Value → World → Prop) : Prop :=
 vbox P T_impl_binKind v0 w fun _ w_1 =>
 vbox P T_impl_Term v2 w_1 fun t6 w_2 =>
 vjoin (fun J =>
 vdraw w_2 fun w_4 =>
 vfaddr P T_impl_Term t6 0 w_4 fun t12 w_5 => w_5 = w_4 ∧
 vload P T_int t12 w_4 fun t13 w_6 => w_6 = w_4 ∧
 viaddr P T_Limpl_Vec v3 (.int .i64 0) w_4 fun t15 w_7 => w_7 = w_4 ∧
 vload P T_impl_Vec t15 w_4 fun t16 w_8 => w_8 = w_4 ∧
 viaddr P T_Limpl_Vec v3 (.int .i64 1) w_4 fun t18 w_9 => w_9 = w_4 ∧
 vload P T_impl_Vec t18 w_4 fun t19 w_10 => w_10 = w_4 ∧
 (vcall P n_impl_VecBin #[t13, t16, t19] w_4 fun t20 w_11 =>
 vextract P t20 0 w_11 fun t21 w_12 => w_12 = w_11 ∧
 vextract P t20 1 w_11 fun t22 w_13 => w_13 = w_11 ∧
 (valloc P T_impl_Vec w_11 fun t9 w_14 => (vextract P t20 1 w_14 fun v x => v = t22 ∧ x = w_14) ∧ (vextract P t20 0 w_14 fun v x => v = t21 ∧ x = w_14) ∧
 (vstore P T_impl_Vec t9 t21 w_14 fun _ w_15 => (vextract P t20 1 w_15 fun v x => v = t22 ∧ x = w_15) ∧
 J [t9] w_15) ∧
 True) ∧
 True) ∧
 (valloc P T_impl_Vec w_4 fun t9_1 w_16 => (vload P T_impl_Vec t18 w_16 fun v x => v = t19 ∧ x = w_16) ∧ (viaddr P T_Limpl_Vec v3 (.int .i64 1) w_16 fun v x => v = t18 ∧ x = w_16) ∧ (vload P T_impl_Vec t15 w_16 fun v x => v = t16 ∧ x = w_16) ∧ (viaddr P T_Limpl_Vec v3 (.int .i64 0) w_16 fun v x => v = t15 ∧ x = w_16) ∧ (vload P T_int t12 w_16 fun v x => v = t13 ∧ x = w_16) ∧ (vfaddr P T_impl_Term t6 0 w_16 fun v x => v = t12 ∧ x = w_16) ∧
 (vcall P n_impl_VecBin #[t13, t16, t19] w_16 fun t20_1 w_17 =>
 vextract P t20_1 0 w_17 fun t21_1 w_18 => w_18 = w_17 ∧
 vextract P t20_1 1 w_17 fun t22_1 w_19 => w_19 = w_17 ∧
 (vstore P T_impl_Vec t9_1 t21_1 w_17 fun _ w_20 => (vextract P t20_1 1 w_20 fun v x => v = t22_1 ∧ x = w_20) ∧
 J [t9_1] w_20) ∧
 True) ∧
 True) ∧
 True) (fun u _ w_3 =>
 vfaddr P T_impl_Vec (sl 0 u) 1 w_3 fun t23 w_21 =>
 vload P T_int t23 w_21 fun t24 w_22 =>
 R t24 w_22)
def A_impl_binKind_value : Ann := { ord := [], loops := [], cuts := [(8194, [9])], trees := [(1, (.st 0 (.st 1 (.st 2 (.st 3 (.st 4 (.st 5 (.st 6 (.st 7 (.alt 8 (.st 9 (.st 10 (.st 11 (.alt 12 (.alt 13 (.st 14 .nil) .no) .no)))) (.alt 12 (.alt 8 (.st 9 (.st 10 (.st 11 (.alt 13 (.st 14 .nil) .no)))) .no) .no)))))))))), [(0, [1, 8, 9, 10, 11, 13, 14]), (1, [8, 9, 10, 11, 13, 14]), (2, [3, 4, 8, 9, 10, 11, 13, 14]), (3, [4, 8, 9, 10, 11, 13, 14]), (4, [8, 9, 10, 11, 13, 14]), (5, [6, 7, 8, 9, 10, 11, 13, 14]), (6, [7, 8, 9, 10, 11, 13, 14]), (7, [8, 9, 10, 11, 13, 14]), (8, [9, 10, 11, 13, 14]), (9, [10, 11, 13, 14]), (10, [13, 14]), (11, [14]), (12, [13, 14]), (13, [14])])] }
theorem k_impl_binKind_value (v0 v1 v2 v3 : Value) (w : World) (R : Value → World → Prop) : vc PP A_impl_binKind_value ((Tryz.f226.body).getD .skip) (retF PP Tryz.f226.results.toList R) (nthV [v0, v1, v2, v3]) w = F_impl_binKind_value PP v0 v1 v2 v3 w R := by kernel_rfl
theorem c_impl_binKind_value {v0 v1 v2 v3 : Value} {w : World} {R : Value → World → Prop} (h : F_impl_binKind_value PP v0 v1 v2 v3 w R) : vcall PP n_impl_binKind_value #[v0, v1, v2, v3] w R :=
  call_of_vc (T := A_impl_binKind_value) (c := (Tryz.f226.body).getD .skip) (n := 25) mixed Tryz.func226 rfl rfl (by kernel_rfl) (by kernel_rfl) rfl (by rw [k_impl_binKind_value]; exact h)
end Go.Proofs.YtcfgmgjofmbfhaaGreatDoor
end
section
namespace Go.Proofs.YtcfgmgjofmbfhaaGreatDoor
open Go Go.Vc Go.Proofs
variable {w : World} {K : Value → World → Prop} {F : Nat → Prop}
abbrev VecV (wd n : Int) : Value := .agg ⟨[.int .i64 wd, .int .i64 n]⟩
theorem pow4 {k : Nat} (h1 : 1 ≤ k) (h2 : k ≤ 4) : 2 ≤ 2 ^ k ∧ 2 ^ k ≤ 16 := by
  rcases (by omega : k = 1 ∨ k = 2 ∨ k = 3 ∨ k = 4) with rfl | rfl | rfl | rfl <;> decide
@[push_cast] theorem bd_Vec (a b : Int) : vbuild PP T_impl_Vec [(0, .int .i64 a), (1, .int .i64 b)] w K = K (VecV a b) w := vbuild_eq b_impl_Vec (us := [[.int .i64 a], [.int .i64 b]]) rfl rfl
@[push_cast] theorem bd_VecZ : vbuild PP T_impl_Vec [] w K = K (VecV 0 0) w := vbuild_eq b_impl_Vec (us := []) rfl rfl
theorem stVec {b : Nat} {x y : Value} {t : TypeId} {p q : Int} (h : Blk w b [x, y] t) (hK : ∀ w', Same (· = b) w w' → w'.heap.size = w.heap.size → Blk w' b [.int .i64 p, .int .i64 q] t → K undef w') : vstore PP T_impl_Vec (.pointer (some ⟨b, 0, none⟩)) (VecV p q) w K :=
  h.stAgg rfl (by kernel_rfl) (by intro v hv; simp only [List.mem_cons, List.not_mem_nil, or_false] at hv; rcases hv with rfl | rfl <;> rfl) hK
theorem natPow (k : Nat) : ((2 ^ k : Nat) : Int) = 2 ^ k := by simp
theorem VecOk_spec {wd n : Int} (hK : ∀ w', Ext w w' → K (.bool (M.vok wd n)) w') : vcall PP n_impl_VecOk #[VecV wd n] w K := by
  apply c_impl_VecOk; unfold F_impl_VecOk
  refine vbox_agg fun b1 w1 hb1 he1 hs1 h1 => ?_
  refine vdraw_ext fun w2 he2 _ => ?_
  have h2 := h1.ext he2
  have hE := he1.trans he2
  simp (disch := (simp only [push_cast]; done)) only [push_cast, h2.ld0, h2.ld1, true_and]
  have hk := hK w2 hE
  refine vif_dec (fun a1 => ?_) (fun a1 => ?_)
  · refine vif_dec (fun a2 => ?_) (fun a2 => ?_)
    · refine vif_dec (fun a3 => ?_) (fun a3 => ?_)
      · obtain ⟨k, rfl⟩ : ∃ k : Nat, wd = k := ⟨wd.toNat, by omega⟩
        have hp := pow4 (k := k) (by omega) (by omega)
        have e : vbin PP .shl T_int true (.int .i64 1) (.int .i64 (k : Int)) w2 = fun K => K (.int .i64 (2 ^ k : Nat)) w2 := by
          funext K
          have := vbin_shlI (P := PP) (w := w2) (K := K) (c := true) (t := T_int) (yk := .i64) (x := 1) (y := k) (by omega) (by omega)
          rw [Nat.one_mul] at this
          exact this
        rw [e]
        simp only [push_cast, true_and]
        have hv : M.vok (k : Int) n = decide (n < (2 ^ k : Nat)) := by
          simp only [M.vok, decide_eq_true a1, decide_eq_true a2, decide_eq_true a3, Bool.true_and, Int.toNat_natCast, natPow]
        rw [hv, natPow] at hk
        exact hk
      · have hv : M.vok wd n = false := by simp only [M.vok, decide_eq_false a3, Bool.and_false, Bool.false_and]
        rw [hv] at hk; exact hk
    · have hv : M.vok wd n = false := by simp only [M.vok, decide_eq_false a2, Bool.and_false, Bool.false_and]
      rw [hv] at hk; exact hk
  · have hv : M.vok wd n = false := by simp only [M.vok, decide_eq_false a1, Bool.false_and]
    rw [hv] at hk; exact hk
theorem cut_spec {n k : Nat} (hn : n < 18446744073709551616) (h1 : 1 ≤ k) (h2 : k ≤ 4) (hK : K (.int .u64 (n % 2 ^ k : Nat)) w) : vcall PP n_impl_raw_cut #[.int .u64 n, .int .i64 k] w K := by
  apply c_impl_raw_cut; unfold F_impl_raw_cut
  have hp := pow4 h1 h2
  rw [show (1 : Int) = ((1 : Nat) : Int) from rfl, vbin_shlU (by omega) (by omega), Nat.one_mul, vbin_sub, show ((2 ^ k : Nat) : Int) - ((1 : Nat) : Int) = ((2 ^ k - 1 : Nat) : Int) by omega, wrapU (by omega), vbin_andU hn (by omega), Nat.and_two_pow_sub_one_eq_mod]
  exact hK
theorem bit_spec {n k : Nat} (hn : n < 18446744073709551616) (hk : k < 64) (hK : K (.bool (decide (n / 2 ^ k % 2 = 1))) w) : vcall PP n_impl_raw_bit #[.int .u64 n, .int .i64 k] w K := by
  apply c_impl_raw_bit; unfold F_impl_raw_bit
  have hd : n / 2 ^ k ≤ n := Nat.div_le_self _ _
  rw [vbin_shrU hk, show (1 : Int) = ((1 : Nat) : Int) from rfl, vbin_andU (by omega) (by omega), vbin_eql]
  have e : n / 2 ^ k &&& 1 = n / 2 ^ k % 2 := Nat.and_one_is_mod _
  rw [e]
  have e2 : decide (((n / 2 ^ k % 2 : Nat) : Int) = ((1 : Nat) : Int)) = decide (n / 2 ^ k % 2 = 1) := by
    by_cases h : n / 2 ^ k % 2 = 1
    · rw [h]; simp
    · rw [decide_eq_false h, decide_eq_false]; omega
  rw [e2]; exact hK
theorem raw_spec {wd : Int} {n : Nat} (hn : n < 9223372036854775808) (hK : ∀ w', Ext w w' → K (.int .u64 n) w') : vcall PP n_impl_Vec_raw #[VecV wd n] w K := by
  apply c_impl_Vec_raw; unfold F_impl_Vec_raw
  refine vbox_agg fun b1 w1 hb1 he1 hs1 h1 => ?_
  simp (disch := (simp only [push_cast]; done)) only [push_cast, h1.ld1]
  rw [vconv_int sm_int ik_impl_raw, wrapU (by omega)]
  exact hK _ he1
theorem ones_spec {k : Nat} {n : Int} (h1 : 1 ≤ k) (h2 : k ≤ 4) (hK : ∀ w', Ext w w' → K (.int .u64 (2 ^ k - 1 : Nat)) w') : vcall PP n_impl_Vec_ones #[VecV k n] w K := by
  apply c_impl_Vec_ones; unfold F_impl_Vec_ones
  refine vbox_agg fun b1 w1 hb1 he1 hs1 hq1 => ?_
  simp (disch := (simp only [push_cast]; done)) only [push_cast, hq1.ld0]
  have hp := pow4 h1 h2
  rw [show (1 : Int) = ((1 : Nat) : Int) from rfl, vbin_shlU (by omega) (by omega), Nat.one_mul, vbin_sub, show ((2 ^ k : Nat) : Int) - ((1 : Nat) : Int) = ((2 ^ k - 1 : Nat) : Int) by omega, wrapU (by omega)]
  exact hK _ he1
theorem vec_spec {k n : Nat} {x : Int} (hn : n < 18446744073709551616) (h1 : 1 ≤ k) (h2 : k ≤ 4) (hK : ∀ w', Ext w w' → K (VecV k (n % 2 ^ k : Nat)) w') : vcall PP n_impl_Vec_vec #[VecV k x, .int .u64 n] w K := by
  apply c_impl_Vec_vec; unfold F_impl_Vec_vec
  have hp := pow4 h1 h2
  have hm : n % 2 ^ k < 2 ^ k := Nat.mod_lt _ (by omega)
  refine vbox_agg fun b1 w1 hb1 he1 hs1 hq1 => ?_
  refine valloc_agg zr_impl_Vec fun b2 w2 hb2 he2 hs2 hq2 => ?_
  refine vdraw_ext fun w3 he3 _ => ?_
  have q1 := (hq1.ext he2).ext he3
  have q2 := hq2.ext he3
  simp (disch := (simp only [push_cast]; done)) only [push_cast, q1.ld0, true_and]
  refine cut_spec hn h1 h2 ?_
  obtain ⟨m, hm0⟩ : ∃ m, m = n % 2 ^ k := ⟨_, rfl⟩
  rw [← hm0] at hm hK ⊢
  simp (disch := (simp only [push_cast]; done)) only [push_cast, q1.ld0, true_and, and_self]
  rw [vconv_int sm_impl_raw ik_int, wrapN (by omega)]
  simp only [push_cast, true_and]
  refine stVec q2 fun w4 hw4 _ q3 => ?_
  rw [q3.lv (by kernel_rfl)]
  exact hK _ (Ext.then ((he1.trans he2).trans he3) hw4 fun y hy => by subst hy; omega)
theorem strF_low {k n : Nat} (h1 : 1 ≤ k) (h2 : k ≤ 4) (hn : n < 2 ^ k) : n ||| ((18446744073709551615 - (2 ^ k - 1)) &&& 4294967295) = n + (4294967296 - 2 ^ k) := by
  have hall : ∀ v : Fin 5, ∀ a : Fin 16, 1 ≤ v.1 → a.1 < 2 ^ v.1 → a.1 ||| ((18446744073709551615 - (2 ^ v.1 - 1)) &&& 4294967295) = a.1 + (4294967296 - 2 ^ v.1) := by decide +kernel
  have hp := pow4 h1 h2
  exact hall ⟨k, by omega⟩ ⟨n, by omega⟩ h1 hn
theorem top_bit {k n : Nat} (h1 : 1 ≤ k) (h2 : k ≤ 4) (hn : n < 2 ^ k) : decide (n / 2 ^ (k - 1) % 2 = 1) = decide (¬ n < 2 ^ (k - 1)) := by
  have hall : ∀ v : Fin 5, ∀ a : Fin 16, 1 ≤ v.1 → a.1 < 2 ^ v.1 → decide (a.1 / 2 ^ (v.1 - 1) % 2 = 1) = decide (¬ a.1 < 2 ^ (v.1 - 1)) := by decide +kernel
  have hp := pow4 h1 h2
  exact hall ⟨k, by omega⟩ ⟨n, by omega⟩ h1 hn
def strN (k n : Nat) : Nat := if n < 2 ^ (k - 1) then n else n + (4294967296 - 2 ^ k)
theorem stretched_spec {k n : Nat} (h1 : 1 ≤ k) (h2 : k ≤ 4) (hn : n < 2 ^ k) (hK : ∀ w', Ext w w' → K (.int .u64 (strN k n : Nat)) w') : vcall PP n_impl_Vec_stretched #[VecV k n] w K := by
  apply c_impl_Vec_stretched; unfold F_impl_Vec_stretched
  have hp := pow4 h1 h2
  refine vbox_agg fun b1 w1 hb1 he1 hs1 hq1 => ?_
  refine vdraw_ext fun w3 he3 _ => ?_
  have q1 := hq1.ext he3
  simp (disch := (simp only [push_cast]; done)) only [push_cast, q1.ld0, q1.ldAgg (t := T_impl_Vec) g_impl_Vec, true_and]
  have e1 : IntKind.i64.wrap ((k : Int) - 1) = ((k - 1 : Nat) : Int) := by rw [wrap64 (by omega) (by omega)]; omega
  rw [e1]
  refine raw_spec (by omega) fun w4 he4 => ?_
  have q2 := q1.ext he4
  simp (disch := (simp only [push_cast]; done)) only [push_cast, q2.ld0, true_and, e1]
  refine bit_spec (by omega) (by omega) ?_
  rw [top_bit h1 h2 hn]
  refine vif_dec (fun a1 => ?_) (fun a1 => ?_)
  · refine vdraw_ext fun w5 he5 _ => ?_
    have q3 := q2.ext he5
    simp (disch := (simp only [push_cast]; done)) only [push_cast, q3.ldAgg (t := T_impl_Vec) g_impl_Vec, true_and]
    refine raw_spec (by omega) fun w6 he6 => ?_
    have q4 := q3.ext he6
    simp (disch := (simp only [push_cast]; done)) only [push_cast, q4.ldAgg (t := T_impl_Vec) g_impl_Vec, true_and]
    refine ones_spec h1 h2 fun w7 he7 => ?_
    rw [vun_xorU (by omega)]
    refine ⟨rfl, ?_⟩
    rw [show (4294967295 : Int) = ((4294967295 : Nat) : Int) from rfl, vbin_andU (by omega) (by omega)]
    refine ⟨rfl, ?_⟩
    have hle : (18446744073709551615 - (2 ^ k - 1)) &&& 4294967295 ≤ 4294967295 := Nat.and_le_right
    rw [vbin_orU (by omega) (by omega)]
    refine ⟨rfl, ?_⟩
    have := hK w7 (((((he1.trans he3).trans he4).trans he5).trans he6).trans he7)
    unfold strN at this
    rw [if_neg a1] at this
    rw [strF_low h1 h2 hn]
    exact this
  · simp (disch := (simp only [push_cast]; done)) only [push_cast, q2.ldAgg (t := T_impl_Vec) g_impl_Vec, true_and]
    refine raw_spec (by omega) fun w6 he6 => ?_
    have := hK w6 (((he1.trans he3).trans he4).trans he6)
    unfold strN at this
    rw [if_pos (by omega)] at this
    exact this
theorem pre2 {k a b : Nat} (ha : a < 16) (hb : b < 16) {X : Value → Value → World → Prop} (hX : ∀ w', Ext w w' → X (.int .u64 a) (.int .u64 b) w') :
    vbox PP T_impl_Vec (VecV k a) w fun t2 w_1 =>
    vbox PP T_impl_Vec (VecV k b) w_1 fun t3 w_2 =>
    vdraw w_2 fun w_3 =>
    vload PP T_impl_Vec t2 w_3 fun t5 w_4 => w_4 = w_3 ∧
    vload PP T_impl_Vec t3 w_3 fun t7 w_5 => w_5 = w_3 ∧
    vcall PP n_impl_Vec_raw #[t5] w_3 fun t6 w_6 => (vload PP T_impl_Vec t3 w_6 fun v x => v = t7 ∧ x = w_6) ∧
    vcall PP n_impl_Vec_raw #[t7] w_6 fun t8 w_7 => X t6 t8 w_7 := by
  refine vbox_agg fun b1 w1 hb1 he1 hs1 hq1 => ?_
  refine vbox_agg fun b2 w2 hb2 he2 hs2 hq2 => ?_
  refine vdraw_ext fun w3 he3 _ => ?_
  have q1 := (hq1.ext he2).ext he3
  have q2 := hq2.ext he3
  simp (disch := (simp only [push_cast]; done)) only [push_cast, q1.ldAgg (t := T_impl_Vec) g_impl_Vec, q2.ldAgg (t := T_impl_Vec) g_impl_Vec, true_and]
  refine raw_spec (by omega) fun w4 he4 => ?_
  have q3 := q2.ext he4
  simp (disch := (simp only [push_cast]; done)) only [push_cast, q3.ldAgg (t := T_impl_Vec) g_impl_Vec, true_and, and_self]
  refine raw_spec (by omega) fun w5 he5 => ?_
  exact hX _ ((((he1.trans he2).trans he3).trans he4).trans he5)
theorem pow16 {k a : Nat} (h2 : k ≤ 4) (ha : a < 2 ^ k) : a < 16 := by
  have : 2 ^ k ≤ 2 ^ 4 := Nat.pow_le_pow_right (by omega) h2
  omega
def OpR (K : Value → World → Prop) (w : World) (op k a b : Nat) : Prop := ∀ w' (r : Nat), Ext w w' → r < 18446744073709551616 → r % 2 ^ k = M.binN op k a b → K (.int .u64 r) w'
theorem bin_ck {f : Nat → Nat → Nat → Nat} {op : Nat} (h : ∀ v : Fin 5, (List.range 16).all (fun a => (List.range 16).all fun b => !(decide (1 ≤ v.1) && decide (a < 2 ^ v.1) && decide (b < 2 ^ v.1)) || decide (f v.1 a b % 2 ^ v.1 = M.binN op v.1 a b)) = true) {k a b : Nat} (h1 : 1 ≤ k) (h2 : k ≤ 4) (ha : a < 2 ^ k) (hb : b < 2 ^ k) : f k a b % 2 ^ k = M.binN op k a b := by
  have := h ⟨k, by omega⟩
  simp only [List.all_eq_true, List.mem_range, Bool.or_eq_true, Bool.not_eq_true', Bool.and_eq_false_iff, decide_eq_false_iff_not, decide_eq_true_eq] at this
  rcases this a (pow16 h2 ha) b (pow16 h2 hb) with (⟨h | h⟩ | h) | h
  · exact absurd h1 h
  · exact absurd ha h
  · exact absurd hb h
  · exact h
theorem mul225 {a b : Nat} (ha : a < 16) (hb : b < 16) : a * b ≤ 225 := by
  have := Nat.mul_le_mul (show a ≤ 15 by omega) (show b ≤ 15 by omega)
  omega
theorem shl_small {a b : Nat} (ha : a < 16) (hb : b < 16) : a * 2 ^ b ≤ 524288 := by
  have h1 : 2 ^ b ≤ 2 ^ 15 := Nat.pow_le_pow_right (by omega) (by omega)
  have := Nat.mul_le_mul (show a ≤ 15 by omega) h1
  omega
theorem strN_lt {k n : Nat} (h1 : 1 ≤ k) (h2 : k ≤ 4) (hn : n < 2 ^ k) : strN k n < 4294967296 := by
  have := pow4 h1 h2
  unfold strN; split <;> omega
theorem binaries_1_spec {k a b : Nat} (h1 : 1 ≤ k) (h2 : k ≤ 4) (ha : a < 2 ^ k) (hb : b < 2 ^ k) (hK : OpR K w 3 k a b) : vcall PP n_impl_binaries_1 #[VecV k a, VecV k b] w K := by
  have ha16 := pow16 h2 ha
  have hb16 := pow16 h2 hb
  have hp := pow4 h1 h2
  apply c_impl_binaries_1; unfold F_impl_binaries_1
  refine pre2 ha16 hb16 fun w1 he => ?_
  rw [vbin_andU (by omega) (by omega)]
  exact ⟨rfl, hK _ _ he (Nat.lt_of_le_of_lt Nat.and_le_left (by omega)) (bin_ck (f := fun k a b => a &&& b) (by decide +kernel) h1 h2 ha hb)⟩
theorem binaries_2_spec {k a b : Nat} (h1 : 1 ≤ k) (h2 : k ≤ 4) (ha : a < 2 ^ k) (hb : b < 2 ^ k) (hK : OpR K w 4 k a b) : vcall PP n_impl_binaries_2 #[VecV k a, VecV k b] w K := by
  have ha16 := pow16 h2 ha
  have hb16 := pow16 h2 hb
  have hp := pow4 h1 h2
  apply c_impl_binaries_2; unfold F_impl_binaries_2
  refine pre2 ha16 hb16 fun w1 he => ?_
  rw [vbin_orU (by omega) (by omega)]
  exact ⟨rfl, hK _ _ he (Nat.lt_trans (Nat.or_lt_two_pow (n := 4) ha16 hb16) (by decide)) (bin_ck (f := fun k a b => a ||| b) (by decide +kernel) h1 h2 ha hb)⟩
theorem binaries_3_spec {k a b : Nat} (h1 : 1 ≤ k) (h2 : k ≤ 4) (ha : a < 2 ^ k) (hb : b < 2 ^ k) (hK : OpR K w 5 k a b) : vcall PP n_impl_binaries_3 #[VecV k a, VecV k b] w K := by
  have ha16 := pow16 h2 ha
  have hb16 := pow16 h2 hb
  have hp := pow4 h1 h2
  apply c_impl_binaries_3; unfold F_impl_binaries_3
  refine pre2 ha16 hb16 fun w1 he => ?_
  rw [vbin_xorU (by omega) (by omega)]
  exact ⟨rfl, hK _ _ he (Nat.lt_trans (Nat.xor_lt_two_pow (n := 4) ha16 hb16) (by decide)) (bin_ck (f := fun k a b => a ^^^ b) (by decide +kernel) h1 h2 ha hb)⟩
theorem binaries_4_spec {k a b : Nat} (h1 : 1 ≤ k) (h2 : k ≤ 4) (ha : a < 2 ^ k) (hb : b < 2 ^ k) (hK : OpR K w 6 k a b) : vcall PP n_impl_binaries_4 #[VecV k a, VecV k b] w K := by
  have ha16 := pow16 h2 ha
  have hb16 := pow16 h2 hb
  have hp := pow4 h1 h2
  apply c_impl_binaries_4; unfold F_impl_binaries_4
  refine pre2 ha16 hb16 fun w1 he => ?_
  rw [vbin_add, show (a : Int) + (b : Int) = ((a + b : Nat) : Int) by omega, wrapU (by omega)]
  exact ⟨rfl, hK _ _ he (by omega) (bin_ck (f := fun k a b => a + b) (by decide +kernel) h1 h2 ha hb)⟩
theorem binaries_5_spec {k a b : Nat} (h1 : 1 ≤ k) (h2 : k ≤ 4) (ha : a < 2 ^ k) (hb : b < 2 ^ k) (hK : OpR K w 7 k a b) : vcall PP n_impl_binaries_5 #[VecV k a, VecV k b] w K := by
  have ha16 := pow16 h2 ha
  have hb16 := pow16 h2 hb
  have hp := pow4 h1 h2
  apply c_impl_binaries_5; unfold F_impl_binaries_5
  refine pre2 ha16 hb16 fun w1 he => ?_
  have e : IntKind.u64.wrap ((a : Int) - (b : Int)) = ((if b ≤ a then a - b else 18446744073709551616 + a - b : Nat) : Int) := by
    simp only [IntKind.wrap, IntKind.bits, IntKind.signed, Bool.false_and, Bool.false_eq_true, if_false]
    split <;> omega
  rw [vbin_sub, e]
  exact ⟨rfl, hK _ _ he (by split <;> omega) (bin_ck (f := fun k a b => if b ≤ a then a - b else 18446744073709551616 + a - b) (by decide +kernel) h1 h2 ha hb)⟩
theorem binaries_6_spec {k a b : Nat} (h1 : 1 ≤ k) (h2 : k ≤ 4) (ha : a < 2 ^ k) (hb : b < 2 ^ k) (hK : OpR K w 8 k a b) : vcall PP n_impl_binaries_6 #[VecV k a, VecV k b] w K := by
  have ha16 := pow16 h2 ha
  have hb16 := pow16 h2 hb
  have hp := pow4 h1 h2
  apply c_impl_binaries_6; unfold F_impl_binaries_6
  refine pre2 ha16 hb16 fun w1 he => ?_
  have hm := mul225 ha16 hb16
  rw [vbin_mul, show (a : Int) * (b : Int) = ((a * b : Nat) : Int) by simp, wrapU (by omega)]
  exact ⟨rfl, hK _ _ he (by omega) (bin_ck (f := fun k a b => a * b) (by decide +kernel) h1 h2 ha hb)⟩
theorem binaries_7_spec {k a b : Nat} (h1 : 1 ≤ k) (h2 : k ≤ 4) (ha : a < 2 ^ k) (hb : b < 2 ^ k) (hK : OpR K w 9 k a b) : vcall PP n_impl_binaries_7 #[VecV k a, VecV k b] w K := by
  have ha16 := pow16 h2 ha
  have hb16 := pow16 h2 hb
  have hp := pow4 h1 h2
  apply c_impl_binaries_7; unfold F_impl_binaries_7
  refine vbox_agg fun b1 w1 hb1 he1 hs1 hq1 => ?_
  refine vbox_agg fun b2 w2 hb2 he2 hs2 hq2 => ?_
  have q1 := hq1.ext he2
  simp (disch := (simp only [push_cast]; done)) only [push_cast, hq2.ld1]
  refine vif_dec (fun a1 => ?_) (fun a1 => ?_)
  · simp (disch := (simp only [push_cast]; done)) only [push_cast, q1.ldAgg (t := T_impl_Vec) g_impl_Vec]
    refine ones_spec h1 h2 fun w3 he3 => hK _ _ ((he1.trans he2).trans he3) (by omega) ?_
    have : b = 0 := by omega
    subst this
    rw [Nat.mod_eq_of_lt (by omega)]
    simp [M.binN]
  · refine vdraw_ext fun w3 he3 _ => ?_
    have r1 := q1.ext he3
    have r2 := hq2.ext he3
    simp (disch := (simp only [push_cast]; done)) only [push_cast, r1.ldAgg (t := T_impl_Vec) g_impl_Vec, r2.ldAgg (t := T_impl_Vec) g_impl_Vec, true_and]
    refine raw_spec (by omega) fun w4 he4 => ?_
    have r3 := r2.ext he4
    simp (disch := (simp only [push_cast]; done)) only [push_cast, r3.ldAgg (t := T_impl_Vec) g_impl_Vec, true_and, and_self]
    refine raw_spec (by omega) fun w5 he5 => ?_
    have hd : a / b ≤ a := Nat.div_le_self _ _
    rw [vbin_quo (by omega), show (a : Int).tdiv (b : Int) = ((a / b : Nat) : Int) from rfl, wrapU (by omega)]
    refine ⟨rfl, hK _ _ ((((he1.trans he2).trans he3).trans he4).trans he5) (by omega) ?_⟩
    rw [Nat.mod_eq_of_lt (by omega)]
    simp [M.binN, show b ≠ 0 by omega]
theorem binaries_8_spec {k a b : Nat} (h1 : 1 ≤ k) (h2 : k ≤ 4) (ha : a < 2 ^ k) (hb : b < 2 ^ k) (hK : OpR K w 10 k a b) : vcall PP n_impl_binaries_8 #[VecV k a, VecV k b] w K := by
  have ha16 := pow16 h2 ha
  have hb16 := pow16 h2 hb
  have hp := pow4 h1 h2
  apply c_impl_binaries_8; unfold F_impl_binaries_8
  refine vbox_agg fun b1 w1 hb1 he1 hs1 hq1 => ?_
  refine vbox_agg fun b2 w2 hb2 he2 hs2 hq2 => ?_
  have q1 := hq1.ext he2
  simp (disch := (simp only [push_cast]; done)) only [push_cast, hq2.ld1]
  refine vif_dec (fun a1 => ?_) (fun a1 => ?_)
  · simp (disch := (simp only [push_cast]; done)) only [push_cast, q1.ldAgg (t := T_impl_Vec) g_impl_Vec]
    refine raw_spec (by omega) fun w3 he3 => hK _ _ ((he1.trans he2).trans he3) (by omega) ?_
    have : b = 0 := by omega
    subst this
    rw [Nat.mod_eq_of_lt (by omega)]
    simp [M.binN]
  · refine vdraw_ext fun w3 he3 _ => ?_
    have r1 := q1.ext he3
    have r2 := hq2.ext he3
    simp (disch := (simp only [push_cast]; done)) only [push_cast, r1.ldAgg (t := T_impl_Vec) g_impl_Vec, r2.ldAgg (t := T_impl_Vec) g_impl_Vec, true_and]
    refine raw_spec (by omega) fun w4 he4 => ?_
    have r3 := r2.ext he4
    simp (disch := (simp only [push_cast]; done)) only [push_cast, r3.ldAgg (t := T_impl_Vec) g_impl_Vec, true_and, and_self]
    refine raw_spec (by omega) fun w5 he5 => ?_
    have hd : a % b ≤ a := Nat.mod_le _ _
    rw [vbin_rem (by omega), show (a : Int).tmod (b : Int) = ((a % b : Nat) : Int) from rfl]
    refine ⟨rfl, hK _ _ ((((he1.trans he2).trans he3).trans he4).trans he5) (by omega) ?_⟩
    rw [Nat.mod_eq_of_lt (by omega)]
    simp [M.binN, show b ≠ 0 by omega]
theorem binaries_9_spec {k a b : Nat} (h1 : 1 ≤ k) (h2 : k ≤ 4) (ha : a < 2 ^ k) (hb : b < 2 ^ k) (hK : OpR K w 11 k a b) : vcall PP n_impl_binaries_9 #[VecV k a, VecV k b] w K := by
  have ha16 := pow16 h2 ha
  have hb16 := pow16 h2 hb
  have hp := pow4 h1 h2
  apply c_impl_binaries_9; unfold F_impl_binaries_9
  refine pre2 ha16 hb16 fun w1 he => ?_
  have hm := shl_small ha16 hb16
  rw [vbin_shlU (by omega) (by omega)]
  exact ⟨rfl, hK _ _ he (by omega) (bin_ck (f := fun k a b => a * 2 ^ b) (by decide +kernel) h1 h2 ha hb)⟩
theorem binaries_10_spec {k a b : Nat} (h1 : 1 ≤ k) (h2 : k ≤ 4) (ha : a < 2 ^ k) (hb : b < 2 ^ k) (hK : OpR K w 12 k a b) : vcall PP n_impl_binaries_10 #[VecV k a, VecV k b] w K := by
  have ha16 := pow16 h2 ha
  have hb16 := pow16 h2 hb
  have hp := pow4 h1 h2
  apply c_impl_binaries_10; unfold F_impl_binaries_10
  refine pre2 ha16 hb16 fun w1 he => ?_
  have hm := Nat.div_le_self a (2 ^ b)
  rw [vbin_shrU (by omega)]
  exact ⟨rfl, hK _ _ he (by omega) (bin_ck (f := fun k a b => a / 2 ^ b) (by decide +kernel) h1 h2 ha hb)⟩
theorem binaries_11_spec {k a b : Nat} (h1 : 1 ≤ k) (h2 : k ≤ 4) (ha : a < 2 ^ k) (hb : b < 2 ^ k) (hK : OpR K w 13 k a b) : vcall PP n_impl_binaries_11 #[VecV k a, VecV k b] w K := by
  have ha16 := pow16 h2 ha
  have hb16 := pow16 h2 hb
  have hp := pow4 h1 h2
  apply c_impl_binaries_11; unfold F_impl_binaries_11
  refine vbox_agg fun b1 w1 hb1 he1 hs1 hq1 => ?_
  refine vbox_agg fun b2 w2 hb2 he2 hs2 hq2 => ?_
  refine vdraw_ext fun w3 he3 _ => ?_
  have r1 := (hq1.ext he2).ext he3
  have r2 := hq2.ext he3
  simp (disch := (simp only [push_cast]; done)) only [push_cast, r1.ldAgg (t := T_impl_Vec) g_impl_Vec, r2.ldAgg (t := T_impl_Vec) g_impl_Vec, true_and]
  refine stretched_spec h1 h2 ha fun w4 he4 => ?_
  have r3 := r2.ext he4
  simp (disch := (simp only [push_cast]; done)) only [push_cast, r3.ldAgg (t := T_impl_Vec) g_impl_Vec, true_and, and_self]
  refine raw_spec (by omega) fun w5 he5 => ?_
  have hs := strN_lt h1 h2 ha
  have hm := Nat.div_le_self (strN k a) (2 ^ b)
  rw [vbin_shrU (by omega)]
  exact ⟨rfl, hK _ _ ((((he1.trans he2).trans he3).trans he4).trans he5) (by omega) (bin_ck (f := fun k a b => strN k a / 2 ^ b) (by decide +kernel) h1 h2 ha hb)⟩
end Go.Proofs.YtcfgmgjofmbfhaaGreatDoor
end
