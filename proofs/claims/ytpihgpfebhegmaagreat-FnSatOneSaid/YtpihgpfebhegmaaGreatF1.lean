import Derived.Test.YtpihgpfebhegmaaGreatNm
set_option linter.unusedVariables false
set_option linter.unusedSimpArgs false
set_option linter.unnecessarySimpa false
set_option linter.unusedSectionVars false
namespace Go.Proofs.YtpihgpfebhegmaaGreat
open Go Go.Vc Go.Proofs
/-- (*impl.search).sat -/
def F_impl_search_sat (P : Program) (v0 : Value) (w : World) (R : Value → World → Prop) : Prop :=
  valloc P T_impl_Sat w fun t2 w_1 =>
  vdraw w_1 fun w_2 =>
  vnil P v0 w_2 fun t4 w_3 => w_3 = w_2 ∧
  vfaddr P T_impl_search t4 1 w_2 fun t5 w_4 => w_4 = w_2 ∧
  vload P T_P_impl_trail t5 w_2 fun t6 w_5 => w_5 = w_2 ∧
  vnil P t6 w_2 fun t7 w_6 => w_6 = w_2 ∧
  vfaddr P T_impl_trail t7 0 w_2 fun t8 w_7 => w_7 = w_2 ∧
  vload P T_Lint t8 w_2 fun t9 w_8 => w_8 = w_2 ∧
  vnil P v0 w_2 fun t12 w_9 => w_9 = w_2 ∧
  vfaddr P T_impl_search t12 2 w_2 fun t13 w_10 => w_10 = w_2 ∧
  vload P T_Lint t13 w_2 fun t14 w_11 => w_11 = w_2 ∧
  vnil P v0 w_2 fun t17 w_12 => w_12 = w_2 ∧
  vfaddr P T_impl_search t17 3 w_2 fun t18 w_13 => w_13 = w_2 ∧
  vload P T_LLint t18 w_2 fun t19 w_14 => w_14 = w_2 ∧
  vnil P v0 w_2 fun t21 w_15 => w_15 = w_2 ∧
  vfaddr P T_impl_search t21 4 w_2 fun t22 w_16 => w_16 = w_2 ∧
  vload P T_int t22 w_2 fun t23 w_17 => w_17 = w_2 ∧
  vcall P n_slices_Clone_Lint_int #[t9] w_2 fun t10 w_18 => (vload P T_int t22 w_18 fun v x => v = t23 ∧ x = w_18) ∧ (vfaddr P T_impl_search t21 4 w_18 fun v x => v = t22 ∧ x = w_18) ∧ (vnil P v0 w_18 fun v x => v = t21 ∧ x = w_18) ∧ (vload P T_LLint t18 w_18 fun v x => v = t19 ∧ x = w_18) ∧ (vfaddr P T_impl_search t17 3 w_18 fun v x => v = t18 ∧ x = w_18) ∧ (vnil P v0 w_18 fun v x => v = t17 ∧ x = w_18) ∧ (vload P T_Lint t13 w_18 fun v x => v = t14 ∧ x = w_18) ∧ (vfaddr P T_impl_search t12 2 w_18 fun v x => v = t13 ∧ x = w_18) ∧ (vnil P v0 w_18 fun v x => v = t12 ∧ x = w_18) ∧
  vcall P n_slices_Clone_Lint_int #[t14] w_18 fun t15 w_19 => (vload P T_int t22 w_19 fun v x => v = t23 ∧ x = w_19) ∧ (vfaddr P T_impl_search t21 4 w_19 fun v x => v = t22 ∧ x = w_19) ∧ (vnil P v0 w_19 fun v x => v = t21 ∧ x = w_19) ∧ (vload P T_LLint t18 w_19 fun v x => v = t19 ∧ x = w_19) ∧ (vfaddr P T_impl_search t17 3 w_19 fun v x => v = t18 ∧ x = w_19) ∧ (vnil P v0 w_19 fun v x => v = t17 ∧ x = w_19) ∧
  vbuild P T_impl_Sat [(0, t10), (1, t15), (2, t19), (3, t23)] w_19 fun t24 w_20 => w_20 = w_19 ∧
  vstore P T_impl_Sat t2 t24 w_19 fun _ w_21 =>
  vlv P T_impl_Sat t2 w_21 fun r2 w_22 =>
  R r2 w_22
def A_impl_search_sat : Ann := { ord := [(1, [0, 1, 2, 3, 4, 5, 6, 8, 9, 10, 11, 13, 14, 15, 16, 17, 18, 19, 20, 7, 12, 21, 22], [(0, [1, 2, 3, 4, 5, 6, 7, 12, 21, 22]), (1, [2, 3, 4, 5, 6, 7, 12, 21, 22]), (2, [3, 4, 5, 6, 7, 12, 21, 22]), (3, [4, 5, 6, 7, 12, 21, 22]), (4, [5, 6, 7, 12, 21, 22]), (5, [6, 7, 12, 21, 22]), (6, [7, 12, 21, 22]), (8, [9, 10, 11, 12, 21, 22]), (9, [10, 11, 12, 21, 22]), (10, [11, 12, 21, 22]), (11, [12, 21, 22]), (13, [14, 15, 16, 21, 22]), (14, [15, 16, 21, 22]), (15, [16, 21, 22]), (16, [21, 22]), (17, [18, 19, 20, 21, 22]), (18, [19, 20, 21, 22]), (19, [20, 21, 22]), (20, [21, 22]), (7, [12, 21, 22]), (12, [21, 22]), (21, [22])])], loops := [], cuts := [] }
theorem k_impl_search_sat (v0 : Value) (w : World) (R : Value → World → Prop) : vc PP A_impl_search_sat ((Tryz.f35.body).getD .skip) (retF PP Tryz.f35.results.toList R) (nthV [v0]) w = F_impl_search_sat PP v0 w R := by kernel_rfl
theorem c_impl_search_sat {v0 : Value} {w : World} {R : Value → World → Prop} (h : F_impl_search_sat PP v0 w R) : vcall PP n_impl_search_sat #[v0] w R :=
  call_of_vc (T := A_impl_search_sat) (c := (Tryz.f35.body).getD .skip) (n := 25) mixed Tryz.func35 rfl rfl (by kernel_rfl) (by kernel_rfl) rfl (by rw [k_impl_search_sat]; exact h)

/-- slices.Equal[[]int,int] -/
def F_slices_Equal_Lint_int (P : Program) (v0 v1 : Value) (w : World) (R : Value → World → Prop) : Prop :=
  vbi P .len [T_Lint] T_int [v0] w fun t7 w_1 =>
  vbi P .len [T_Lint] T_int [v1] w_1 fun t9 w_2 =>
  vbin P .neq T_int false t7 t9 w_2 fun t10 w_3 =>
  vif t10 (
    R (.bool false) w_3) (
    vbi P .len [T_Lint] T_int [v0] w_3 fun t12 w_4 =>
    vloop [(.int .i64 0)] w_4 fun C u _ w_5 =>
      vbin P .lss T_int false (sl 0 u) t12 w_5 fun t14 w_6 =>
      vif t14 (
        vdraw w_6 fun w_7 =>
        viaddr P T_Lint v0 (sl 0 u) w_7 fun t18 w_8 => w_8 = w_7 ∧
        vload P T_int t18 w_7 fun t19 w_9 => w_9 = w_7 ∧
        viaddr P T_Lint v1 (sl 0 u) w_7 fun t22 w_10 => w_10 = w_7 ∧
        vload P T_int t22 w_7 fun t23 w_11 => w_11 = w_7 ∧
        vbin P .neq T_int false t19 t23 w_7 fun t24 w_12 => w_12 = w_7 ∧
        vif t24 (
          R (.bool false) w_7) (
          vbin P .add T_int true (sl 0 u) (.int .i64 1) w_7 fun t25 w_13 =>
          C [t25] w_13)) (
        R (.bool true) w_6))
def A_slices_Equal_Lint_int : Ann := { ord := [(6, [0, 1, 2, 3, 4, 5, 6, 7, 8], [(0, [2, 3, 8]), (1, [2, 3, 8]), (2, [3, 8]), (3, [8]), (4, [6, 7, 8]), (5, [6, 7, 8]), (6, [7, 8]), (7, [8])])], loops := [(4, [13])], cuts := [] }
theorem k_slices_Equal_Lint_int (v0 v1 : Value) (w : World) (R : Value → World → Prop) : vc PP A_slices_Equal_Lint_int ((Tryz.f36.body).getD .skip) (retF PP Tryz.f36.results.toList R) (nthV [v0, v1]) w = F_slices_Equal_Lint_int PP v0 v1 w R := by kernel_rfl
theorem c_slices_Equal_Lint_int {v0 v1 : Value} {w : World} {R : Value → World → Prop} (h : F_slices_Equal_Lint_int PP v0 v1 w R) : vcall PP n_slices_Equal_Lint_int #[v0, v1] w R :=
  call_of_vc (T := A_slices_Equal_Lint_int) (c := (Tryz.f36.body).getD .skip) (n := 26) mixed Tryz.func36 rfl rfl (by kernel_rfl) (by kernel_rfl) rfl (by rw [k_slices_Equal_Lint_int]; exact h)

/-- impl.sameLists -/
def F_impl_sameLists (P : Program) (v0 v1 : Value) (w : World) (R : Value → World → Prop) : Prop :=
  vcall P n_slices_EqualFunc_LLint_LLint_Lint_Lint #[v0, v1, (.func (.func n_slices_Equal_Lint_int) #[] #[])] w fun t7 w_1 =>
  R t7 w_1
def A_impl_sameLists : Ann := { ord := [], loops := [], cuts := [] }
theorem k_impl_sameLists (v0 v1 : Value) (w : World) (R : Value → World → Prop) : vc PP A_impl_sameLists ((Tryz.f37.body).getD .skip) (retF PP Tryz.f37.results.toList R) (nthV [v0, v1]) w = F_impl_sameLists PP v0 v1 w R := by kernel_rfl
theorem c_impl_sameLists {v0 v1 : Value} {w : World} {R : Value → World → Prop} (h : F_impl_sameLists PP v0 v1 w R) : vcall PP n_impl_sameLists #[v0, v1] w R :=
  call_of_vc (T := A_impl_sameLists) (c := (Tryz.f37.body).getD .skip) (n := 8) mixed Tryz.func37 rfl rfl (by kernel_rfl) (by kernel_rfl) rfl (by rw [k_impl_sameLists]; exact h)

/-- spec.CnfOk -/
def F_spec_CnfOk (P : Program) (v0 : Value) (w : World) (R : Value → World → Prop) : Prop :=
  vbox P T_impl_Cnf v0 w fun t1 w_1 =>
  vjoin (fun J =>
    vfaddr P T_impl_Cnf t1 0 w_1 fun t4 w_3 =>
    vload P T_int t4 w_3 fun t5 w_4 =>
    vbin P .lss T_int true t5 (.int .i64 0) w_4 fun t6 w_5 =>
    vif t6 (
      R (.bool false) w_5) (
      vfaddr P T_impl_Cnf t1 0 w_5 fun t8 w_6 =>
      vload P T_int t8 w_6 fun t9 w_7 =>
      vbin P .gtr T_int true t9 (.int .i64 700) w_7 fun t10 w_8 =>
      vif t10 (
        R (.bool false) w_8) (
        vfaddr P T_impl_Cnf t1 1 w_8 fun t13 w_9 =>
        vload P T_LLint t13 w_9 fun t14 w_10 =>
        vbi P .len [T_LLint] T_int [t14] w_10 fun t15 w_11 =>
        vbin P .gtr T_int true t15 (.int .i64 2500) w_11 fun t16 w_12 =>
        vif t16 (
          R (.bool false) w_12) (
          J [] w_12)))) (fun _ _ w_2 =>
    vloop [(.int .i64 0)] w_2 fun C u_1 _ w_13 =>
      vfaddr P T_impl_Cnf t1 1 w_13 fun t19 w_14 =>
      vload P T_LLint t19 w_14 fun t20 w_15 =>
      vbi P .len [T_LLint] T_int [t20] w_15 fun t21 w_16 =>
      vbin P .lss T_int false (sl 0 u_1) t21 w_16 fun t22 w_17 =>
      vif t22 (
        vdraw w_17 fun w_18 =>
        vfaddr P T_impl_Cnf t1 1 w_18 fun t25 w_19 => w_19 = w_18 ∧
        vload P T_LLint t25 w_18 fun t26 w_20 => w_20 = w_18 ∧
        viaddr P T_LLint t26 (sl 0 u_1) w_18 fun t28 w_21 => w_21 = w_18 ∧
        vload P T_Lint t28 w_18 fun t29 w_22 => w_22 = w_18 ∧
        vfaddr P T_impl_Cnf t1 0 w_18 fun t30 w_23 => w_23 = w_18 ∧
        vload P T_int t30 w_18 fun t31 w_24 => w_24 = w_18 ∧
        vcall P n_spec_l4Clause #[t29, t31] w_18 fun t32 w_25 =>
        vun P .not t32 w_25 fun t33 w_26 => w_26 = w_25 ∧
        vif t33 (
          R (.bool false) w_25) (
          vbin P .add T_int true (sl 0 u_1) (.int .i64 1) w_25 fun t24 w_27 =>
          C [t24] w_27)) (
        R (.bool true) w_17))
def A_spec_CnfOk : Ann := { ord := [(6, [0, 1, 2, 3, 4, 5, 6, 7, 8], [(0, [1, 3, 4, 7, 8]), (1, [3, 4, 7, 8]), (2, [3, 4, 7, 8]), (3, [4, 7, 8]), (4, [7, 8]), (5, [6, 7, 8]), (6, [7, 8]), (7, [8])])], loops := [(4, [3])], cuts := [(8195, [])] }
theorem k_spec_CnfOk (v0 : Value) (w : World) (R : Value → World → Prop) : vc PP A_spec_CnfOk ((Tryz.f38.body).getD .skip) (retF PP Tryz.f38.results.toList R) (nthV [v0]) w = F_spec_CnfOk PP v0 w R := by kernel_rfl
theorem c_spec_CnfOk {v0 : Value} {w : World} {R : Value → World → Prop} (h : F_spec_CnfOk PP v0 w R) : vcall PP n_spec_CnfOk #[v0] w R :=
  call_of_vc (T := A_spec_CnfOk) (c := (Tryz.f38.body).getD .skip) (n := 34) mixed Tryz.func38 rfl rfl (by kernel_rfl) (by kernel_rfl) rfl (by rw [k_spec_CnfOk]; exact h)

/-- spec.l5Copy -/
def F_spec_l5Copy (P : Program) (v0 : Value) (w : World) (R : Value → World → Prop) : Prop :=
  vbox P T_impl_Sat v0 w fun t1 w_1 =>
  valloc P T_impl_Sat w_1 fun t2 w_2 =>
  vdraw w_2 fun w_3 =>
  vfaddr P T_impl_Sat t1 0 w_3 fun t6 w_4 => w_4 = w_3 ∧
  vload P T_Lint t6 w_3 fun t7 w_5 => w_5 = w_3 ∧
  vfaddr P T_impl_Sat t1 1 w_3 fun t10 w_6 => w_6 = w_3 ∧
  vload P T_Lint t10 w_3 fun t11 w_7 => w_7 = w_3 ∧
  vfaddr P T_impl_Sat t1 3 w_3 fun t13 w_8 => w_8 = w_3 ∧
  vload P T_int t13 w_3 fun t14 w_9 => w_9 = w_3 ∧
  ∃ I : (Nat → Prop) → List Value → World → Prop, I (fun _ => False) [undef, undef, undef, undef, undef, undef] w_3 ∧
  ∀ (d : Nat → Prop) (u : List Value) (g : Fr) (w_10 : World), I d u w_10 → (vload P T_int t13 w_10 fun v x => v = t14 ∧ x = w_10) ∧ (vfaddr P T_impl_Sat t1 3 w_10 fun v x => v = t13 ∧ x = w_10) ∧ (vload P T_Lint t10 w_10 fun v x => v = t11 ∧ x = w_10) ∧ (vfaddr P T_impl_Sat t1 1 w_10 fun v x => v = t10 ∧ x = w_10) ∧ (vload P T_Lint t6 w_10 fun v x => v = t7 ∧ x = w_10) ∧ (vfaddr P T_impl_Sat t1 0 w_10 fun v x => v = t6 ∧ x = w_10) ∧ 
    (((d 0 → False) → vbuildS P T_Lint 0 [] w_10 fun t5 w_11 => I (fun x => x = 0 ∨ d x) [(sl 0 u), t5, (sl 2 u), (sl 3 u), (sl 4 u), (sl 5 u)] w_11) ∧
    ((d 3 → False) → d 0 → vbi P .append [T_Lint, T_Lint] T_Lint [(sl 1 u), t7] w_10 fun t8 w_12 => I (fun x => x = 3 ∨ d x) [(sl 0 u), (sl 1 u), t8, (sl 3 u), (sl 4 u), (sl 5 u)] w_12) ∧
    ((d 4 → False) → vbuildS P T_Lint 0 [] w_10 fun t9 w_13 => I (fun x => x = 4 ∨ d x) [(sl 0 u), (sl 1 u), (sl 2 u), t9, (sl 4 u), (sl 5 u)] w_13) ∧
    ((d 7 → False) → d 4 → d 3 → vbi P .append [T_Lint, T_Lint] T_Lint [(sl 3 u), t11] w_10 fun t12 w_14 => I (fun x => x = 7 ∨ d x) [(sl 0 u), (sl 1 u), (sl 2 u), (sl 3 u), t12, (sl 5 u)] w_14) ∧
    ((d 10 → False) → d 3 → d 7 → vbuild P T_impl_Sat [(0, (sl 2 u)), (1, (sl 4 u)), (3, t14)] w_10 fun t15 w_15 => w_15 = w_10 ∧ I (fun x => x = 10 ∨ d x) [(sl 0 u), (sl 1 u), (sl 2 u), (sl 3 u), (sl 4 u), t15] w_10) ∧
    ((d 11 → False) → valloc P T_impl_Sat w_10 fun t3 w_16 => I (fun x => x = 11 ∨ d x) [t3, (sl 1 u), (sl 2 u), (sl 3 u), (sl 4 u), (sl 5 u)] w_16) ∧
    ((d 12 → False) → d 11 → d 10 → d 7 → d 0 → d 3 → d 4 → d 7 → d 10 → d 11 → vstore P T_impl_Sat (sl 0 u) (sl 5 u) w_10 fun _ w_17 => I (fun x => x = 12 ∨ d x) [(sl 0 u), (sl 1 u), (sl 2 u), (sl 3 u), (sl 4 u), (sl 5 u)] w_17) ∧
    True) ∧
    (d 0 → d 3 → d 4 → d 7 → d 10 → d 11 → d 12 →
      vloop [(.int .i64 0)] w_10 fun C u_1 _ w_18 =>
        vfaddr P T_impl_Sat t1 2 w_18 fun t17 w_19 =>
        vload P T_LLint t17 w_19 fun t18 w_20 =>
        vbi P .len [T_LLint] T_int [t18] w_20 fun t19 w_21 =>
        vbin P .lss T_int false (sl 0 u_1) t19 w_21 fun t20 w_22 =>
        vif t20 (
          vdraw w_22 fun w_23 =>
          vfaddr P T_impl_Sat (sl 0 u) 2 w_23 fun t23 w_24 => w_24 = w_23 ∧
          vload P T_LLint t23 w_23 fun t24 w_25 => w_25 = w_23 ∧
          vfaddr P T_impl_Sat t1 2 w_23 fun t26 w_26 => w_26 = w_23 ∧
          vload P T_LLint t26 w_23 fun t27 w_27 => w_27 = w_23 ∧
          viaddr P T_LLint t27 (sl 0 u_1) w_23 fun t29 w_28 => w_28 = w_23 ∧
          vload P T_Lint t29 w_23 fun t30 w_29 => w_29 = w_23 ∧
          vbuildS P T_Lint 0 [] w_23 fun t25 w_30 => (vload P T_Lint t29 w_30 fun v x => v = t30 ∧ x = w_30) ∧ (viaddr P T_LLint t27 (sl 0 u_1) w_30 fun v x => v = t29 ∧ x = w_30) ∧ (vload P T_LLint t26 w_30 fun v x => v = t27 ∧ x = w_30) ∧ (vfaddr P T_impl_Sat t1 2 w_30 fun v x => v = t26 ∧ x = w_30) ∧ (vload P T_LLint t23 w_30 fun v x => v = t24 ∧ x = w_30) ∧ (vfaddr P T_impl_Sat (sl 0 u) 2 w_30 fun v x => v = t23 ∧ x = w_30) ∧
          vbi P .append [T_Lint, T_Lint] T_Lint [t25, t30] w_30 fun t31 w_31 => (vload P T_LLint t23 w_31 fun v x => v = t24 ∧ x = w_31) ∧ (vfaddr P T_impl_Sat (sl 0 u) 2 w_31 fun v x => v = t23 ∧ x = w_31) ∧
          vbuildS P T_LLint 1 [(0, t31)] w_31 fun t32 w_32 => (vload P T_LLint t23 w_32 fun v x => v = t24 ∧ x = w_32) ∧ (vfaddr P T_impl_Sat (sl 0 u) 2 w_32 fun v x => v = t23 ∧ x = w_32) ∧
          vbi P .append [T_LLint, T_LLint] T_LLint [t24, t32] w_32 fun t33 w_33 =>
          vfaddr P T_impl_Sat (sl 0 u) 2 w_33 fun t34 w_34 => w_34 = w_33 ∧
          vstore P T_LLint t34 t33 w_33 fun _ w_35 =>
          vbin P .add T_int true (sl 0 u_1) (.int .i64 1) w_35 fun t22 w_36 =>
          C [t22] w_36) (
          vload P T_impl_Sat (sl 0 u) w_22 fun t35 w_37 =>
          vstore P T_impl_Sat t2 t35 w_37 fun _ w_38 =>
          vlv P T_impl_Sat t2 w_38 fun r2 w_39 =>
          R r2 w_39))
def A_spec_l5Copy : Ann := { ord := [(5, [0, 1, 3, 4, 5, 6, 7, 2, 8, 9, 10, 11, 12], [(0, [1, 10, 11, 12]), (1, [10, 11, 12]), (3, [4, 6, 7, 8, 9, 10, 11, 12]), (4, [6, 7, 8, 9, 10, 11, 12]), (5, [6, 7, 8, 9, 10, 11, 12]), (6, [7, 8, 9, 10, 11, 12]), (7, [8, 9, 10, 11, 12]), (2, [8, 9, 10, 11, 12]), (8, [9, 10, 11, 12]), (9, [10, 11, 12]), (10, [11, 12]), (11, [12])])], loops := [(3, [4])], cuts := [], pars := [(1, [1, 2, 5, 6, 8, 9], [0, 3, 4, 7, 10, 11, 12], [3, 5, 8, 9, 12, 15], [(1, [2, 3, 7, 10, 12]), (2, [3, 7, 10, 12]), (5, [6, 7, 10, 12]), (6, [7, 10, 12]), (8, [9, 10, 12]), (9, [10, 12])])] }
theorem k_spec_l5Copy (v0 : Value) (w : World) (R : Value → World → Prop) : vc PP A_spec_l5Copy ((Tryz.f39.body).getD .skip) (retF PP Tryz.f39.results.toList R) (nthV [v0]) w = F_spec_l5Copy PP v0 w R := by kernel_rfl
theorem c_spec_l5Copy {v0 : Value} {w : World} {R : Value → World → Prop} (h : F_spec_l5Copy PP v0 w R) : vcall PP n_spec_l5Copy #[v0] w R :=
  call_of_vc (T := A_spec_l5Copy) (c := (Tryz.f39.body).getD .skip) (n := 36) mixed Tryz.func39 rfl rfl (by kernel_rfl) (by kernel_rfl) rfl (by rw [k_spec_l5Copy]; exact h)

/-- spec.l5Run -/
def F_spec_l5Run (P : Program) (v0 v1 : Value) (w : World) (R : Value → World → Prop) : Prop :=
  vbox P T_impl_Cnf v0 w fun t2 w_1 =>
  valloc P T_impl_Sat w_1 fun t4 w_2 =>
  vbuild P T_impl_Sat [] w_2 fun t7 w_3 =>
  valloc P T_impl_Sat w_3 fun t5 w_4 =>
  vstore P T_impl_Sat t5 t7 w_4 fun _ w_5 =>
  vloop [(.int .i64 0)] w_5 fun C u _ w_6 =>
    vbin P .lss T_int false (sl 0 u) v1 w_6 fun t10 w_7 =>
    vif t10 (
      vfaddr P T_impl_Sat t5 3 w_7 fun t12 w_8 =>
      vload P T_int t12 w_8 fun t13 w_9 =>
      vbin P .eql T_int true t13 (.int .i64 0) w_9 fun t14 w_10 =>
      vif t14 (
        vload P T_impl_Cnf t2 w_10 fun t18 w_11 =>
        vload P T_impl_Sat t5 w_11 fun t19 w_12 =>
        vcall P n_spec_l5Do #[t18, t19] w_12 fun t20 w_13 =>
        vstore P T_impl_Sat t5 t20 w_13 fun _ w_14 =>
        vbin P .add T_int true (sl 0 u) (.int .i64 1) w_14 fun t17 w_15 =>
        C [t17] w_15) (
        vload P T_impl_Sat t5 w_10 fun t21 w_16 =>
        vstore P T_impl_Sat t4 t21 w_16 fun _ w_17 =>
        vlv P T_impl_Sat t4 w_17 fun r4 w_18 =>
        R r4 w_18)) (
      vload P T_impl_Sat t5 w_7 fun t21_1 w_19 =>
      vstore P T_impl_Sat t4 t21_1 w_19 fun _ w_20 =>
      vlv P T_impl_Sat t4 w_20 fun r4_1 w_21 =>
      R r4_1 w_21)
def A_spec_l5Run : Ann := { ord := [], loops := [(3, [6])], cuts := [] }
theorem k_spec_l5Run (v0 v1 : Value) (w : World) (R : Value → World → Prop) : vc PP A_spec_l5Run ((Tryz.f40.body).getD .skip) (retF PP Tryz.f40.results.toList R) (nthV [v0, v1]) w = F_spec_l5Run PP v0 v1 w R := by kernel_rfl
theorem c_spec_l5Run {v0 v1 : Value} {w : World} {R : Value → World → Prop} (h : F_spec_l5Run PP v0 v1 w R) : vcall PP n_spec_l5Run #[v0, v1] w R :=
  call_of_vc (T := A_spec_l5Run) (c := (Tryz.f40.body).getD .skip) (n := 22) mixed Tryz.func40 rfl rfl (by kernel_rfl) (by kernel_rfl) rfl (by rw [k_spec_l5Run]; exact h)

/-- impl.holdsAll -/
def F_impl_holdsAll (P : Program) (v0 v1 : Value) (w : World) (R : Value → World → Prop) : Prop :=
  vbox P T_Lbool v1 w fun t3 w_1 =>
  vmkF P (.func n_impl_holdsAll_1) [] [t3] w_1 fun t6 w_2 =>
  vcall P n_slices_ContainsFunc_LLint_Lint #[v0, t6] w_2 fun t7 w_3 =>
  vun P .not t7 w_3 fun t8 w_4 =>
  R t8 w_4
def A_impl_holdsAll : Ann := { ord := [], loops := [], cuts := [] }
theorem k_impl_holdsAll (v0 v1 : Value) (w : World) (R : Value → World → Prop) : vc PP A_impl_holdsAll ((Tryz.f41.body).getD .skip) (retF PP Tryz.f41.results.toList R) (nthV [v0, v1]) w = F_impl_holdsAll PP v0 v1 w R := by kernel_rfl
theorem c_impl_holdsAll {v0 v1 : Value} {w : World} {R : Value → World → Prop} (h : F_impl_holdsAll PP v0 v1 w R) : vcall PP n_impl_holdsAll #[v0, v1] w R :=
  call_of_vc (T := A_impl_holdsAll) (c := (Tryz.f41.body).getD .skip) (n := 9) mixed Tryz.func41 rfl rfl (by kernel_rfl) (by kernel_rfl) rfl (by rw [k_impl_holdsAll]; exact h)

/-- impl.countUp -/
def F_impl_countUp (P : Program) (v0 : Value) (w : World) (R : Value → World → Prop) : Prop :=
  vbi P .len [T_Lbool] T_int [v0] w fun t5 w_1 =>
  vbin P .sub T_int true t5 (.int .i64 1) w_1 fun t6 w_2 =>
  vloop [t6] w_2 fun C u _ w_3 =>
    vbin P .geq T_int true (sl 0 u) (.int .i64 0) w_3 fun t8 w_4 =>
    vif t8 (
      viaddr P T_Lbool v0 (sl 0 u) w_4 fun t15 w_5 =>
      vload P T_bool t15 w_5 fun t16 w_6 =>
      vun P .not t16 w_6 fun t17 w_7 =>
      viaddr P T_Lbool v0 (sl 0 u) w_7 fun t18 w_8 =>
      vstore P T_bool t18 t17 w_8 fun _ w_9 =>
      viaddr P T_Lbool v0 (sl 0 u) w_9 fun t21 w_10 =>
      vload P T_bool t21 w_10 fun t22 w_11 =>
      vif t22 (
        R (.bool true) w_11) (
        vbin P .sub T_int true (sl 0 u) (.int .i64 1) w_11 fun t10 w_12 =>
        C [t10] w_12)) (
      R (.bool false) w_4)
def A_impl_countUp : Ann := { ord := [], loops := [(2, [3])], cuts := [] }
theorem k_impl_countUp (v0 : Value) (w : World) (R : Value → World → Prop) : vc PP A_impl_countUp ((Tryz.f42.body).getD .skip) (retF PP Tryz.f42.results.toList R) (nthV [v0]) w = F_impl_countUp PP v0 w R := by kernel_rfl
theorem c_impl_countUp {v0 : Value} {w : World} {R : Value → World → Prop} (h : F_impl_countUp PP v0 w R) : vcall PP n_impl_countUp #[v0] w R :=
  call_of_vc (T := A_impl_countUp) (c := (Tryz.f42.body).getD .skip) (n := 23) mixed Tryz.func42 rfl rfl (by kernel_rfl) (by kernel_rfl) rfl (by rw [k_impl_countUp]; exact h)

/-- impl.readSat -/
def F_impl_readSat (P : Program) (v0 v1 : Value) (w : World) (R : Value → World → Prop) : Prop :=
  vbox P T_impl_Cnf v0 w fun t2 w_1 =>
  vbox P T_impl_Sat v1 w_1 fun t3 w_2 =>
  vjoin (fun J =>
    vload P T_impl_Cnf t2 w_2 fun t11 w_4 =>
    vcall P n_impl_CnfOk #[t11] w_4 fun t12 w_5 =>
    vun P .not t12 w_5 fun t13 w_6 =>
    vif t13 (
      R (.tuple #[(.pointer none), (.bool false)]) w_6) (
      vfaddr P T_impl_Sat t3 2 w_6 fun t15 w_7 =>
      vload P T_LLint t15 w_7 fun t16 w_8 =>
      vbi P .len [T_LLint] T_int [t16] w_8 fun t17 w_9 =>
      vbin P .gtr T_int true t17 (.int .i64 300) w_9 fun t18 w_10 =>
      vif t18 (
        R (.tuple #[(.pointer none), (.bool false)]) w_10) (
        vfaddr P T_impl_Sat t3 3 w_10 fun t21 w_11 =>
        vload P T_int t21 w_11 fun t22 w_12 =>
        vbin P .lss T_int true t22 (.int .i64 0) w_12 fun t23 w_13 =>
        vif t23 (
          R (.tuple #[(.pointer none), (.bool false)]) w_13) (
          vfaddr P T_impl_Sat t3 3 w_13 fun t26 w_14 =>
          vload P T_int t26 w_14 fun t27 w_15 =>
          vbin P .gtr T_int true t27 (.int .i64 3) w_15 fun t28 w_16 =>
          vif t28 (
            R (.tuple #[(.pointer none), (.bool false)]) w_16) (
            vfaddr P T_impl_Sat t3 0 w_16 fun t31 w_17 =>
            vload P T_Lint t31 w_17 fun t32 w_18 =>
            vbi P .len [T_Lint] T_int [t32] w_18 fun t33 w_19 =>
            vfaddr P T_impl_Sat t3 1 w_19 fun t34 w_20 =>
            vload P T_Lint t34 w_20 fun t35 w_21 =>
            vbi P .len [T_Lint] T_int [t35] w_21 fun t36 w_22 =>
            vbin P .neq T_int false t33 t36 w_22 fun t37 w_23 =>
            vif t37 (
              R (.tuple #[(.pointer none), (.bool false)]) w_23) (
              J [] w_23)))))) (fun _ _ w_3 =>
    vfaddr P T_impl_Sat t3 2 w_3 fun t39 w_24 =>
    vload P T_LLint t39 w_24 fun t40 w_25 =>
    vmkF P (.func n_impl_readSat_1) [] [t2] w_25 fun t41 w_26 =>
    vcall P n_slices_ContainsFunc_LLint_Lint #[t40, t41] w_26 fun t42 w_27 =>
    vif t42 (
      R (.tuple #[(.pointer none), (.bool false)]) w_27) (
      vfaddr P T_impl_Cnf t2 0 w_27 fun t44 w_28 =>
      vload P T_int t44 w_28 fun t45 w_29 =>
      vfaddr P T_impl_Sat t3 0 w_29 fun t46 w_30 =>
      vload P T_Lint t46 w_30 fun t47 w_31 =>
      vmkF P (.func n_impl_readSat_2) [] [t3] w_31 fun t48 w_32 =>
      vcall P n_impl_trailOk #[t45, t47, t48] w_32 fun t49 w_33 =>
      vextract P t49 0 w_33 fun t50 w_34 =>
      vextract P t49 1 w_34 fun t51 w_35 =>
      vun P .not t51 w_35 fun t53 w_36 =>
      vif t53 (
        R (.tuple #[(.pointer none), (.bool false)]) w_36) (
        vdraw w_36 fun w_37 =>
        vload P T_impl_Cnf t2 w_37 fun t54 w_38 => w_38 = w_37 ∧
        vfaddr P T_impl_Sat t3 1 w_37 fun t56 w_39 => w_39 = w_37 ∧
        vload P T_Lint t56 w_37 fun t57 w_40 => w_40 = w_37 ∧
        vfaddr P T_impl_Sat t3 2 w_37 fun t59 w_41 => w_41 = w_37 ∧
        vload P T_LLint t59 w_37 fun t60 w_42 => w_42 = w_37 ∧
        vfaddr P T_impl_Sat t3 3 w_37 fun t62 w_43 => w_43 = w_37 ∧
        vload P T_int t62 w_37 fun t63 w_44 => w_44 = w_37 ∧
        vcall P n_slices_Clone_Lint_int #[t57] w_37 fun t58 w_45 => (vload P T_int t62 w_45 fun v x => v = t63 ∧ x = w_45) ∧ (vfaddr P T_impl_Sat t3 3 w_45 fun v x => v = t62 ∧ x = w_45) ∧ (vload P T_LLint t59 w_45 fun v x => v = t60 ∧ x = w_45) ∧ (vfaddr P T_impl_Sat t3 2 w_45 fun v x => v = t59 ∧ x = w_45) ∧ (vload P T_impl_Cnf t2 w_45 fun v x => v = t54 ∧ x = w_45) ∧
        vcall P n_impl_copyLists #[t60] w_45 fun t61 w_46 => (vload P T_int t62 w_46 fun v x => v = t63 ∧ x = w_46) ∧ (vfaddr P T_impl_Sat t3 3 w_46 fun v x => v = t62 ∧ x = w_46) ∧ (vload P T_impl_Cnf t2 w_46 fun v x => v = t54 ∧ x = w_46) ∧
        vbuild P T_impl_search [(0, t54), (1, t50), (2, t58), (3, t61), (4, t63)] w_46 fun t64 w_47 => w_47 = w_46 ∧
        vbox P T_impl_search t64 w_46 fun t65 w_48 =>
        vfaddr P T_impl_Sat t3 1 w_48 fun t66 w_49 =>
        vload P T_Lint t66 w_49 fun t67 w_50 =>
        vbi P .len [T_Lint] T_int [t67] w_50 fun t68 w_51 =>
        vloop [(.int .i64 0)] w_51 fun C u_1 _ w_52 =>
          vbin P .lss T_int false (sl 0 u_1) t68 w_52 fun t70 w_53 =>
          vif t70 (
            viaddr P T_Lint t67 (sl 0 u_1) w_53 fun t72 w_54 =>
            vload P T_int t72 w_54 fun t73 w_55 =>
            vbin P .eql T_int true t73 (.int .i64 (-1)) w_55 fun t75 w_56 =>
            vif t75 (
              vbin P .add T_int true (sl 0 u_1) (.int .i64 1) w_56 fun t98 w_57 =>
              C [t98] w_57) (
              vbin P .lss T_int true t73 (.int .i64 0) w_56 fun t77 w_58 =>
              vif t77 (
                R (.tuple #[(.pointer none), (.bool false)]) w_58) (
                vfaddr P T_impl_Cnf t2 1 w_58 fun t80 w_59 =>
                vload P T_LLint t80 w_59 fun t81 w_60 =>
                vbi P .len [T_LLint] T_int [t81] w_60 fun t82 w_61 =>
                vfaddr P T_impl_Sat t3 2 w_61 fun t83 w_62 =>
                vload P T_LLint t83 w_62 fun t84 w_63 =>
                vbi P .len [T_LLint] T_int [t84] w_63 fun t85 w_64 =>
                vbin P .add T_int false t82 t85 w_64 fun t86 w_65 =>
                vbin P .geq T_int false t73 t86 w_65 fun t87 w_66 =>
                vif t87 (
                  R (.tuple #[(.pointer none), (.bool false)]) w_66) (
                  vcall P n_impl_search_clause #[t65, t73] w_66 fun t93 w_67 =>
                  vcall P n_impl_trail_implies #[t50, t93, (sl 0 u_1)] w_67 fun t95 w_68 =>
                  vun P .not t95 w_68 fun t96 w_69 =>
                  vif t96 (
                    R (.tuple #[(.pointer none), (.bool false)]) w_69) (
                    vbin P .add T_int true (sl 0 u_1) (.int .i64 1) w_69 fun t98_1 w_70 =>
                    C [t98_1] w_70))))) (
            R (.tuple #[t65, (.bool true)]) w_53))))
def A_impl_readSat : Ann := { ord := [(8, [0, 1, 2, 3, 5, 6, 8, 9, 4, 7, 10, 11, 12], [(0, [10, 11, 12]), (1, [10, 11, 12]), (2, [3, 4, 7, 10, 11, 12]), (3, [4, 7, 10, 11, 12]), (5, [6, 7, 10, 11, 12]), (6, [7, 10, 11, 12]), (8, [9, 10, 11, 12]), (9, [10, 11, 12]), (4, [7, 10, 11, 12]), (7, [10, 11, 12]), (10, [11, 12]), (11, [12])])], loops := [(10, [69])], cuts := [(8195, [])] }
theorem k_impl_readSat (v0 v1 : Value) (w : World) (R : Value → World → Prop) : vc PP A_impl_readSat ((Tryz.f43.body).getD .skip) (retF PP Tryz.f43.results.toList R) (nthV [v0, v1]) w = F_impl_readSat PP v0 v1 w R := by kernel_rfl
theorem c_impl_readSat {v0 v1 : Value} {w : World} {R : Value → World → Prop} (h : F_impl_readSat PP v0 v1 w R) : vcall PP n_impl_readSat #[v0, v1] w R :=
  call_of_vc (T := A_impl_readSat) (c := (Tryz.f43.body).getD .skip) (n := 100) mixed Tryz.func43 rfl rfl (by kernel_rfl) (by kernel_rfl) rfl (by rw [k_impl_readSat]; exact h)

/-- (*impl.search).vals -/
def F_impl_search_vals (P : Program) (v0 : Value) (w : World) (R : Value → World → Prop) : Prop :=
  vnil P v0 w fun t7 w_1 =>
  vfaddr P T_impl_search t7 0 w_1 fun t8 w_2 =>
  vfaddr P T_impl_Cnf t8 0 w_2 fun t9 w_3 =>
  vload P T_int t9 w_3 fun t10 w_4 =>
  vmkS P T_Lbool t10 t10 w_4 fun t11 w_5 =>
  vnil P v0 w_5 fun t13 w_6 =>
  vfaddr P T_impl_search t13 1 w_6 fun t14 w_7 =>
  vload P T_P_impl_trail t14 w_7 fun t15 w_8 =>
  vnil P t15 w_8 fun t16 w_9 =>
  vfaddr P T_impl_trail t16 0 w_9 fun t17 w_10 =>
  vload P T_Lint t17 w_10 fun t18 w_11 =>
  vbi P .len [T_Lint] T_int [t18] w_11 fun t19 w_12 =>
  vloop [(.int .i64 0)] w_12 fun C u _ w_13 =>
    vbin P .lss T_int false (sl 0 u) t19 w_13 fun t21 w_14 =>
    vif t21 (
      viaddr P T_Lint t18 (sl 0 u) w_14 fun t22 w_15 =>
      vload P T_int t22 w_15 fun t23 w_16 =>
      vcall P n_impl_literal_variable #[t23] w_16 fun t26 w_17 =>
      vbin P .sub T_int true t26 (.int .i64 1) w_17 fun t27 w_18 =>
      vbin P .gtr T_int true t23 (.int .i64 0) w_18 fun t29 w_19 =>
      viaddr P T_Lbool t11 t27 w_19 fun t30 w_20 =>
      vstore P T_bool t30 t29 w_20 fun _ w_21 =>
      vbin P .add T_int true (sl 0 u) (.int .i64 1) w_21 fun t31 w_22 =>
      C [t31] w_22) (
      R t11 w_14)
def A_impl_search_vals : Ann := { ord := [], loops := [(3, [20])], cuts := [] }
theorem k_impl_search_vals (v0 : Value) (w : World) (R : Value → World → Prop) : vc PP A_impl_search_vals ((Tryz.f44.body).getD .skip) (retF PP Tryz.f44.results.toList R) (nthV [v0]) w = F_impl_search_vals PP v0 w R := by kernel_rfl
theorem c_impl_search_vals {v0 : Value} {w : World} {R : Value → World → Prop} (h : F_impl_search_vals PP v0 w R) : vcall PP n_impl_search_vals #[v0] w R :=
  call_of_vc (T := A_impl_search_vals) (c := (Tryz.f44.body).getD .skip) (n := 33) mixed Tryz.func44 rfl rfl (by kernel_rfl) (by kernel_rfl) rfl (by rw [k_impl_search_vals]; exact h)

/-- spec.l5Some -/
def F_spec_l5Some (P : Program) (v0 : Value) (w : World) (R : Value → World → Prop) : Prop :=
  valloc P T_impl_Cnf w fun t2 w_1 =>
  valloc P T_impl_Sat w_1 fun t3 w_2 =>
  vcall P n_spec_l4Cnf #[v0] w_2 fun t6 w_3 =>
  valloc P T_impl_Cnf w_3 fun t4 w_4 =>
  vstore P T_impl_Cnf t4 t6 w_4 fun _ w_5 =>
  vcall P n_spec_l12Rd_pick #[v0, (.int .i64 12)] w_5 fun t8 w_6 =>
  vbin P .eql T_int true t8 (.int .i64 0) w_6 fun t9 w_7 =>
  vif t9 (
    vload P T_impl_Cnf t4 w_7 fun t11 w_8 =>
    vcall P n_spec_l4Bent #[v0, t11] w_8 fun t12 w_9 =>
    vstore P T_impl_Cnf t4 t12 w_9 fun _ w_10 =>
    vdraw w_10 fun w_11 =>
    vload P T_impl_Cnf t4 w_11 fun t13 w_12 => w_12 = w_11 ∧
    vload P T_impl_Cnf t4 w_11 fun t15 w_13 => w_13 = w_11 ∧
    vcall P n_spec_l5State #[v0, t15] w_11 fun t16 w_14 => (vload P T_impl_Cnf t4 w_14 fun v x => v = t13 ∧ x = w_14) ∧
    vstore P T_impl_Cnf t2 t13 w_14 fun _ w_15 =>
    vstore P T_impl_Sat t3 t16 w_15 fun _ w_16 =>
    vlv P T_impl_Cnf t2 w_16 fun r2 w_17 =>
    vlv P T_impl_Sat t3 w_17 fun r3 w_18 =>
    R (.tuple #[r2, r3]) w_18) (
    vdraw w_7 fun w_19 =>
    vload P T_impl_Cnf t4 w_19 fun t13_1 w_20 => w_20 = w_19 ∧
    vload P T_impl_Cnf t4 w_19 fun t15_1 w_21 => w_21 = w_19 ∧
    vcall P n_spec_l5State #[v0, t15_1] w_19 fun t16_1 w_22 => (vload P T_impl_Cnf t4 w_22 fun v x => v = t13_1 ∧ x = w_22) ∧
    vstore P T_impl_Cnf t2 t13_1 w_22 fun _ w_23 =>
    vstore P T_impl_Sat t3 t16_1 w_23 fun _ w_24 =>
    vlv P T_impl_Cnf t2 w_24 fun r2_1 w_25 =>
    vlv P T_impl_Sat t3 w_25 fun r3_1 w_26 =>
    R (.tuple #[r2_1, r3_1]) w_26)
def A_spec_l5Some : Ann := { ord := [(4, [0, 1, 2, 3, 4, 5], [(0, [4, 5]), (1, [3, 4, 5]), (2, [3, 4, 5]), (3, [4, 5]), (4, [5])])], loops := [], cuts := [] }
theorem k_spec_l5Some (v0 : Value) (w : World) (R : Value → World → Prop) : vc PP A_spec_l5Some ((Tryz.f45.body).getD .skip) (retF PP Tryz.f45.results.toList R) (nthV [v0]) w = F_spec_l5Some PP v0 w R := by kernel_rfl
theorem c_spec_l5Some {v0 : Value} {w : World} {R : Value → World → Prop} (h : F_spec_l5Some PP v0 w R) : vcall PP n_spec_l5Some #[v0] w R :=
  call_of_vc (T := A_spec_l5Some) (c := (Tryz.f45.body).getD .skip) (n := 17) mixed Tryz.func45 rfl rfl (by kernel_rfl) (by kernel_rfl) rfl (by rw [k_spec_l5Some]; exact h)

/-- (*impl.search).step -/
def F_impl_search_step (P : Program) (v0 : Value) (w : World) (R : Value → World → Prop) : Prop :=
  vnil P v0 w fun t7 w_1 =>
  vfaddr P T_impl_search t7 4 w_1 fun t8 w_2 =>
  vload P T_int t8 w_2 fun t9 w_3 =>
  vbin P .neq T_int true t9 (.int .i64 0) w_3 fun t10 w_4 =>
  vif t10 (
    R (.tuple #[]) w_4) (
    vdraw w_4 fun w_5 =>
    vnil P v0 w_5 fun t13 w_6 => w_6 = w_5 ∧
    vfaddr P T_impl_search t13 1 w_5 fun t14 w_7 => w_7 = w_5 ∧
    vload P T_P_impl_trail t14 w_5 fun t15 w_8 => w_8 = w_5 ∧
    vnil P v0 w_5 fun t17 w_9 => w_9 = w_5 ∧
    vfaddr P T_impl_search t17 0 w_5 fun t18 w_10 => w_10 = w_5 ∧
    vfaddr P T_impl_Cnf t18 1 w_5 fun t19 w_11 => w_11 = w_5 ∧
    vload P T_LLint t19 w_5 fun t20 w_12 => w_12 = w_5 ∧
    vnil P v0 w_5 fun t22 w_13 => w_13 = w_5 ∧
    vfaddr P T_impl_search t22 3 w_5 fun t23 w_14 => w_14 = w_5 ∧
    vload P T_LLint t23 w_5 fun t24 w_15 => w_15 = w_5 ∧
    vbuildS P T_LLLint 2 [(0, t20), (1, t24)] w_5 fun t25 w_16 => (vload P T_P_impl_trail t14 w_16 fun v x => v = t15 ∧ x = w_16) ∧ (vfaddr P T_impl_search t13 1 w_16 fun v x => v = t14 ∧ x = w_16) ∧ (vnil P v0 w_16 fun v x => v = t13 ∧ x = w_16) ∧
    vcall P n_impl_trail_next #[t15, t25] w_16 fun t26 w_17 =>
    vextract P t26 0 w_17 fun t27 w_18 => w_18 = w_17 ∧
    vextract P t26 1 w_17 fun t28 w_19 => w_19 = w_17 ∧
    vextract P t26 2 w_17 fun t29 w_20 => w_20 = w_17 ∧
    vbin P .geq T_int true t27 (.int .i64 0) w_17 fun t44 w_21 =>
    vif t44 (
      vcall P n_impl_search_clause #[v0, t27] w_21 fun t48 w_22 =>
      vcall P n_impl_search_resolve #[v0, t48] w_22 fun _ w_23 =>
      R (.tuple #[]) w_23) (
      vbin P .geq T_int true t28 (.int .i64 0) w_21 fun t52 w_24 =>
      vif t52 (
        vcall P n_impl_search_assign #[v0, t29, t28] w_24 fun _ w_25 =>
        R (.tuple #[]) w_25) (
        vdraw w_24 fun w_26 =>
        vnil P v0 w_26 fun t59 w_27 => w_27 = w_26 ∧
        vfaddr P T_impl_search t59 1 w_26 fun t60 w_28 => w_28 = w_26 ∧
        vload P T_P_impl_trail t60 w_26 fun t61 w_29 => w_29 = w_26 ∧
        vnil P t61 w_26 fun t62 w_30 => w_30 = w_26 ∧
        vfaddr P T_impl_trail t62 0 w_26 fun t63 w_31 => w_31 = w_26 ∧
        vload P T_Lint t63 w_26 fun t64 w_32 => w_32 = w_26 ∧
        vbi P .len [T_Lint] T_int [t64] w_26 fun t65 w_33 => w_33 = w_26 ∧
        vnil P v0 w_26 fun t67 w_34 => w_34 = w_26 ∧
        vfaddr P T_impl_search t67 0 w_26 fun t68 w_35 => w_35 = w_26 ∧
        vfaddr P T_impl_Cnf t68 0 w_26 fun t69 w_36 => w_36 = w_26 ∧
        vload P T_int t69 w_26 fun t70 w_37 => w_37 = w_26 ∧
        vbin P .eql T_int false t65 t70 w_26 fun t71 w_38 => w_38 = w_26 ∧
        vif t71 (
          vnil P v0 w_26 fun t73 w_39 =>
          vfaddr P T_impl_search t73 4 w_39 fun t74 w_40 =>
          vstore P T_int t74 (.int .i64 1) w_40 fun _ w_41 =>
          R (.tuple #[]) w_41) (
          vloop [(.int .i64 1)] w_26 fun C u _ w_42 =>
            vnil P v0 w_42 fun t31 w_43 =>
            vfaddr P T_impl_search t31 1 w_43 fun t32 w_44 =>
            vload P T_P_impl_trail t32 w_44 fun t33 w_45 =>
            vcall P n_impl_trail_assigned #[t33, (sl 0 u)] w_45 fun t35 w_46 =>
            vif t35 (
              vbin P .add T_int true (sl 0 u) (.int .i64 1) w_46 fun t37 w_47 =>
              C [t37] w_47) (
              vun P .neg (sl 0 u) w_46 fun t40 w_48 =>
              vcall P n_impl_search_assign #[v0, t40, (.int .i64 (-1))] w_48 fun _ w_49 =>
              R (.tuple #[]) w_49)))))
def A_impl_search_step : Ann := { ord := [(1, [0, 1, 2, 3, 4, 5, 6, 7, 8, 9, 10, 11, 12, 13, 14, 15, 16, 17, 18, 19, 20, 21], [(0, [1, 2, 3, 14, 15, 16, 17, 18, 19, 20, 21]), (1, [2, 3, 14, 15, 16, 17, 18, 19, 20, 21]), (2, [3, 14, 15, 16, 17, 18, 19, 20, 21]), (3, [14, 15, 16, 17, 18, 19, 20, 21]), (4, [5, 6, 7, 8, 13, 14, 15, 16, 17, 18, 19, 20, 21]), (5, [6, 7, 8, 13, 14, 15, 16, 17, 18, 19, 20, 21]), (6, [7, 8, 13, 14, 15, 16, 17, 18, 19, 20, 21]), (7, [8, 13, 14, 15, 16, 17, 18, 19, 20, 21]), (8, [13, 14, 15, 16, 17, 18, 19, 20, 21]), (9, [10, 11, 12, 13, 14, 15, 16, 17, 18, 19, 20, 21]), (10, [11, 12, 13, 14, 15, 16, 17, 18, 19, 20, 21]), (11, [12, 13, 14, 15, 16, 17, 18, 19, 20, 21]), (12, [13, 14, 15, 16, 17, 18, 19, 20, 21]), (13, [14, 15, 16, 17, 18, 19, 20, 21]), (14, [15, 16, 17, 18, 19, 20, 21]), (15, [16, 17, 18, 19, 20, 21]), (16, [19, 20, 21]), (17, [20, 21]), (18, [21]), (19, [20, 21]), (20, [21])]), (10, [0, 1, 2, 3, 4, 5, 6, 7, 8, 9, 10, 11, 12, 13, 14], [(0, [1, 2, 3, 4, 5, 6, 7, 13, 14]), (1, [2, 3, 4, 5, 6, 7, 13, 14]), (2, [3, 4, 5, 6, 7, 13, 14]), (3, [4, 5, 6, 7, 13, 14]), (4, [5, 6, 7, 13, 14]), (5, [6, 7, 13, 14]), (6, [7, 13, 14]), (7, [13, 14]), (8, [9, 10, 11, 12, 13, 14]), (9, [10, 11, 12, 13, 14]), (10, [11, 12, 13, 14]), (11, [12, 13, 14]), (12, [13, 14]), (13, [14])])], loops := [(3, [5])], cuts := [] }
theorem k_impl_search_step (v0 : Value) (w : World) (R : Value → World → Prop) : vc PP A_impl_search_step ((Tryz.f46.body).getD .skip) (retF PP Tryz.f46.results.toList R) (nthV [v0]) w = F_impl_search_step PP v0 w R := by kernel_rfl
theorem c_impl_search_step {v0 : Value} {w : World} {R : Value → World → Prop} (h : F_impl_search_step PP v0 w R) : vcall PP n_impl_search_step #[v0] w R :=
  call_of_vc (T := A_impl_search_step) (c := (Tryz.f46.body).getD .skip) (n := 75) mixed Tryz.func46 rfl rfl (by kernel_rfl) (by kernel_rfl) rfl (by rw [k_impl_search_step]; exact h)

/-- spec.l5Do -/
def F_spec_l5Do (P : Program) (v0 v1 : Value) (w : World) (R : Value → World → Prop) : Prop :=
  vbox P T_impl_Cnf v0 w fun t2 w_1 =>
  vbox P T_impl_Sat v1 w_1 fun t3 w_2 =>
  valloc P T_impl_Sat w_2 fun t4 w_3 =>
  vload P T_impl_Cnf t2 w_3 fun t10 w_4 =>
  vfaddr P T_impl_Sat t3 0 w_4 fun t11 w_5 =>
  vload P T_Lint t11 w_5 fun t12 w_6 =>
  vcall P n_spec_l5Vals #[t10, t12] w_6 fun t13 w_7 =>
  vload P T_impl_Cnf t2 w_7 fun t15 w_8 =>
  vfaddr P T_impl_Sat t3 2 w_8 fun t16 w_9 =>
  vload P T_LLint t16 w_9 fun t17 w_10 =>
  vcall P n_spec_l5Find #[t15, t17, t13] w_10 fun t19 w_11 =>
  vextract P t19 0 w_11 fun t20 w_12 =>
  vextract P t19 1 w_12 fun t21 w_13 =>
  vextract P t19 2 w_13 fun t22 w_14 =>
  vbin P .geq T_int true t20 (.int .i64 0) w_14 fun t25 w_15 =>
  vif t25 (
    vdraw w_15 fun w_16 =>
    vload P T_impl_Cnf t2 w_16 fun t26 w_17 => w_17 = w_16 ∧
    vload P T_impl_Sat t3 w_16 fun t27 w_18 => w_18 = w_16 ∧
    vload P T_impl_Cnf t2 w_16 fun t28 w_19 => w_19 = w_16 ∧
    vload P T_impl_Sat t3 w_16 fun t29 w_20 => w_20 = w_16 ∧
    vcall P n_spec_l5At #[t28, t29, t20] w_16 fun t31 w_21 => (vload P T_impl_Sat t3 w_21 fun v x => v = t27 ∧ x = w_21) ∧ (vload P T_impl_Cnf t2 w_21 fun v x => v = t26 ∧ x = w_21) ∧
    vcall P n_spec_l5Clash #[t26, t27, t31] w_21 fun t32 w_22 =>
    vstore P T_impl_Sat t4 t32 w_22 fun _ w_23 =>
    vlv P T_impl_Sat t4 w_23 fun r4 w_24 =>
    R r4 w_24) (
    vbin P .geq T_int true t21 (.int .i64 0) w_15 fun t35 w_25 =>
    vif t35 (
      vfaddr P T_impl_Sat t3 0 w_25 fun t36 w_26 =>
      vload P T_Lint t36 w_26 fun t37 w_27 =>
      vbuildS P T_Lint 1 [(0, t22)] w_27 fun t39 w_28 =>
      vbi P .append [T_Lint, T_Lint] T_Lint [t37, t39] w_28 fun t40 w_29 =>
      vfaddr P T_impl_Sat t3 0 w_29 fun t41 w_30 =>
      vstore P T_Lint t41 t40 w_30 fun _ w_31 =>
      vfaddr P T_impl_Sat t3 1 w_31 fun t42 w_32 =>
      vload P T_Lint t42 w_32 fun t43 w_33 =>
      vbuildS P T_Lint 1 [(0, t21)] w_33 fun t45 w_34 =>
      vbi P .append [T_Lint, T_Lint] T_Lint [t43, t45] w_34 fun t46 w_35 =>
      vfaddr P T_impl_Sat t3 1 w_35 fun t47 w_36 =>
      vstore P T_Lint t47 t46 w_36 fun _ w_37 =>
      vload P T_impl_Sat t3 w_37 fun t48 w_38 =>
      vstore P T_impl_Sat t4 t48 w_38 fun _ w_39 =>
      vlv P T_impl_Sat t4 w_39 fun r4_1 w_40 =>
      R r4_1 w_40) (
      vfaddr P T_impl_Sat t3 0 w_25 fun t50 w_41 =>
      vload P T_Lint t50 w_41 fun t51 w_42 =>
      vbi P .len [T_Lint] T_int [t51] w_42 fun t52 w_43 =>
      vfaddr P T_impl_Cnf t2 0 w_43 fun t53 w_44 =>
      vload P T_int t53 w_44 fun t54 w_45 =>
      vbin P .eql T_int false t52 t54 w_45 fun t55 w_46 =>
      vif t55 (
        vfaddr P T_impl_Sat t3 3 w_46 fun t56 w_47 =>
        vstore P T_int t56 (.int .i64 1) w_47 fun _ w_48 =>
        vload P T_impl_Sat t3 w_48 fun t57 w_49 =>
        vstore P T_impl_Sat t4 t57 w_49 fun _ w_50 =>
        vlv P T_impl_Sat t4 w_50 fun r4_2 w_51 =>
        R r4_2 w_51) (
        vloop [(.int .i64 1)] w_46 fun C u _ w_52 =>
          viaddr P T_Lint t13 (sl 0 u) w_52 fun t60 w_53 =>
          vload P T_int t60 w_53 fun t61 w_54 =>
          vbin P .neq T_int true t61 (.int .i64 0) w_54 fun t62 w_55 =>
          vif t62 (
            vbin P .add T_int true (sl 0 u) (.int .i64 1) w_55 fun t64 w_56 =>
            C [t64] w_56) (
            vfaddr P T_impl_Sat t3 0 w_55 fun t65 w_57 =>
            vload P T_Lint t65 w_57 fun t66 w_58 =>
            vun P .neg (sl 0 u) w_58 fun t68 w_59 =>
            vbuildS P T_Lint 1 [(0, t68)] w_59 fun t69 w_60 =>
            vbi P .append [T_Lint, T_Lint] T_Lint [t66, t69] w_60 fun t70 w_61 =>
            vfaddr P T_impl_Sat t3 0 w_61 fun t71 w_62 =>
            vstore P T_Lint t71 t70 w_62 fun _ w_63 =>
            vfaddr P T_impl_Sat t3 1 w_63 fun t72 w_64 =>
            vload P T_Lint t72 w_64 fun t73 w_65 =>
            vbuildS P T_Lint 1 [(0, (.int .i64 (-1)))] w_65 fun t74 w_66 =>
            vbi P .append [T_Lint, T_Lint] T_Lint [t73, t74] w_66 fun t75 w_67 =>
            vfaddr P T_impl_Sat t3 1 w_67 fun t76 w_68 =>
            vstore P T_Lint t76 t75 w_68 fun _ w_69 =>
            vload P T_impl_Sat t3 w_69 fun t77 w_70 =>
            vstore P T_impl_Sat t4 t77 w_70 fun _ w_71 =>
            vlv P T_impl_Sat t4 w_71 fun r4_3 w_72 =>
            R r4_3 w_72))))
def A_spec_l5Do : Ann := { ord := [(4, [0, 1, 2, 3, 4, 5, 6, 7], [(0, [6, 7]), (1, [6, 7]), (2, [5, 6, 7]), (3, [5, 6, 7]), (4, [5, 6, 7]), (5, [6, 7]), (6, [7])])], loops := [(13, [9])], cuts := [] }
theorem k_spec_l5Do (v0 v1 : Value) (w : World) (R : Value → World → Prop) : vc PP A_spec_l5Do ((Tryz.f47.body).getD .skip) (retF PP Tryz.f47.results.toList R) (nthV [v0, v1]) w = F_spec_l5Do PP v0 v1 w R := by kernel_rfl
theorem c_spec_l5Do {v0 v1 : Value} {w : World} {R : Value → World → Prop} (h : F_spec_l5Do PP v0 v1 w R) : vcall PP n_spec_l5Do #[v0, v1] w R :=
  call_of_vc (T := A_spec_l5Do) (c := (Tryz.f47.body).getD .skip) (n := 78) mixed Tryz.func47 rfl rfl (by kernel_rfl) (by kernel_rfl) rfl (by rw [k_spec_l5Do]; exact h)

/-- spec.l5Marks -/
def F_spec_l5Marks (P : Program) (v0 v1 : Value) (w : World) (R : Value → World → Prop) : Prop :=
  vbox P T_impl_Cnf v0 w fun t2 w_1 =>
  vfaddr P T_impl_Cnf t2 0 w_1 fun t7 w_2 =>
  vload P T_int t7 w_2 fun t8 w_3 =>
  vbin P .add T_int true t8 (.int .i64 1) w_3 fun t9 w_4 =>
  vmkS P T_Lbool t9 t9 w_4 fun t10 w_5 =>
  vloop [(.int .i64 0)] w_5 fun C u _ w_6 =>
    vbi P .len [T_Lint] T_int [v1] w_6 fun t13 w_7 =>
    vbin P .lss T_int false (sl 0 u) t13 w_7 fun t14 w_8 =>
    vif t14 (
      vdraw w_8 fun w_9 =>
      viaddr P T_Lint v1 (sl 0 u) w_9 fun t19 w_10 => w_10 = w_9 ∧
      vload P T_int t19 w_9 fun t20 w_11 => w_11 = w_9 ∧
      vbin P .eql T_int true t20 (.int .i64 0) w_9 fun t21 w_12 => w_12 = w_9 ∧
      vif t21 (
        R (.bool false) w_9) (
        viaddr P T_Lint v1 (sl 0 u) w_9 fun t25 w_13 => w_13 = w_9 ∧
        vload P T_int t25 w_9 fun t26 w_14 => w_14 = w_9 ∧
        vfaddr P T_impl_Cnf t2 0 w_9 fun t27 w_15 => w_15 = w_9 ∧
        vload P T_int t27 w_9 fun t28 w_16 => w_16 = w_9 ∧
        vun P .neg t28 w_9 fun t29 w_17 => w_17 = w_9 ∧
        vbin P .lss T_int false t26 t29 w_9 fun t30 w_18 => w_18 = w_9 ∧
        vif t30 (
          R (.bool false) w_9) (
          viaddr P T_Lint v1 (sl 0 u) w_9 fun t35 w_19 => w_19 = w_9 ∧
          vload P T_int t35 w_9 fun t36 w_20 => w_20 = w_9 ∧
          vfaddr P T_impl_Cnf t2 0 w_9 fun t37 w_21 => w_21 = w_9 ∧
          vload P T_int t37 w_9 fun t38 w_22 => w_22 = w_9 ∧
          vbin P .gtr T_int false t36 t38 w_9 fun t39 w_23 => w_23 = w_9 ∧
          vif t39 (
            R (.bool false) w_9) (
            viaddr P T_Lint v1 (sl 0 u) w_9 fun t45 w_24 => w_24 = w_9 ∧
            vload P T_int t45 w_9 fun t46 w_25 => w_25 = w_9 ∧
            vcall P n_spec_l4Abs #[t46] w_9 fun t47 w_26 =>
            viaddr P T_Lbool t10 t47 w_26 fun t48 w_27 => w_27 = w_26 ∧
            vload P T_bool t48 w_26 fun t49 w_28 => w_28 = w_26 ∧
            vif t49 (
              R (.bool false) w_26) (
              viaddr P T_Lint v1 (sl 0 u) w_26 fun t54 w_29 =>
              vload P T_int t54 w_29 fun t55 w_30 =>
              vcall P n_spec_l4Abs #[t55] w_30 fun t56 w_31 =>
              viaddr P T_Lbool t10 t56 w_31 fun t57 w_32 =>
              vstore P T_bool t57 (.bool true) w_32 fun _ w_33 =>
              vbin P .add T_int true (sl 0 u) (.int .i64 1) w_33 fun t16 w_34 =>
              C [t16] w_34))))) (
      R (.bool true) w_8)
def A_spec_l5Marks : Ann := { ord := [(5, [0, 1, 2, 3, 4, 5, 6, 7, 8, 9, 10, 11, 12, 13, 14, 15, 16, 17, 18, 19, 20, 21, 22, 23, 24, 25, 26, 27, 28, 29, 30, 31, 32, 33], [(0, [2, 3, 4, 5, 6, 7, 8, 9, 10, 11, 12, 13, 14, 15, 16, 17, 18, 19, 20, 21, 22, 23, 24, 25, 26, 27, 28, 29, 30, 31, 32, 33]), (1, [2, 3, 4, 5, 6, 7, 8, 9, 10, 11, 12, 13, 14, 15, 16, 17, 18, 19, 20, 21, 22, 23, 24, 25, 26, 27, 28, 29, 30, 31, 32, 33]), (2, [3, 4, 5, 6, 7, 8, 9, 10, 11, 12, 13, 14, 15, 16, 17, 18, 19, 20, 21, 22, 23, 24, 25, 26, 27, 28, 29, 30, 31, 32, 33]), (3, [4, 5, 6, 7, 8, 9, 10, 11, 12, 13, 14, 15, 16, 17, 18, 19, 20, 21, 22, 23, 24, 25, 26, 27, 28, 29, 30, 31, 32, 33]), (4, [5, 6, 7, 8, 9, 10, 11, 12, 13, 14, 15, 16, 17, 18, 19, 20, 21, 22, 23, 24, 25, 26, 27, 28, 29, 30, 31, 32, 33]), (5, [6, 7, 8, 9, 10, 11, 12, 13, 14, 15, 16, 17, 18, 19, 20, 21, 22, 23, 24, 25, 26, 27, 28, 29, 30, 31, 32, 33]), (6, [8, 9, 13, 14, 15, 16, 17, 18, 19, 20, 21, 22, 23, 24, 25, 26, 27, 28, 29, 30, 31, 32, 33]), (7, [8, 9, 13, 14, 15, 16, 17, 18, 19, 20, 21, 22, 23, 24, 25, 26, 27, 28, 29, 30, 31, 32, 33]), (8, [9, 13, 14, 15, 16, 17, 18, 19, 20, 21, 22, 23, 24, 25, 26, 27, 28, 29, 30, 31, 32, 33]), (9, [13, 14, 15, 16, 17, 18, 19, 20, 21, 22, 23, 24, 25, 26, 27, 28, 29, 30, 31, 32, 33]), (10, [11, 12, 13, 14, 15, 16, 17, 18, 19, 20, 21, 22, 23, 24, 25, 26, 27, 28, 29, 30, 31, 32, 33]), (11, [12, 13, 14, 15, 16, 17, 18, 19, 20, 21, 22, 23, 24, 25, 26, 27, 28, 29, 30, 31, 32, 33]), (12, [13, 14, 15, 16, 17, 18, 19, 20, 21, 22, 23, 24, 25, 26, 27, 28, 29, 30, 31, 32, 33]), (13, [14, 15, 16, 17, 18, 19, 20, 21, 22, 23, 24, 25, 26, 27, 28, 29, 30, 31, 32, 33]), (14, [15, 16, 17, 18, 19, 20, 21, 22, 23, 24, 25, 26, 27, 28, 29, 30, 31, 32, 33]), (15, [16, 17, 18, 19, 20, 21, 22, 23, 24, 25, 26, 27, 28, 29, 30, 31, 32, 33]), (16, [18, 19, 22, 23, 24, 25, 26, 27, 28, 29, 30, 31, 32, 33]), (17, [18, 19, 22, 23, 24, 25, 26, 27, 28, 29, 30, 31, 32, 33]), (18, [19, 22, 23, 24, 25, 26, 27, 28, 29, 30, 31, 32, 33]), (19, [22, 23, 24, 25, 26, 27, 28, 29, 30, 31, 32, 33]), (20, [21, 22, 23, 24, 25, 26, 27, 28, 29, 30, 31, 32, 33]), (21, [22, 23, 24, 25, 26, 27, 28, 29, 30, 31, 32, 33]), (22, [23, 24, 25, 26, 27, 28, 29, 30, 31, 32, 33]), (23, [24, 25, 26, 27, 28, 29, 30, 31, 32, 33]), (24, [25, 26, 27, 28, 29, 30, 31, 32, 33]), (25, [31, 32, 33]), (26, [28, 29, 30, 31, 32, 33]), (27, [28, 29, 30, 31, 32, 33]), (28, [29, 30, 31, 32, 33]), (29, [30, 31, 32, 33]), (30, [31, 32, 33]), (31, [32, 33]), (32, [33])])], loops := [(3, [6])], cuts := [] }
theorem k_spec_l5Marks (v0 v1 : Value) (w : World) (R : Value → World → Prop) : vc PP A_spec_l5Marks ((Tryz.f48.body).getD .skip) (retF PP Tryz.f48.results.toList R) (nthV [v0, v1]) w = F_spec_l5Marks PP v0 v1 w R := by kernel_rfl
theorem c_spec_l5Marks {v0 v1 : Value} {w : World} {R : Value → World → Prop} (h : F_spec_l5Marks PP v0 v1 w R) : vcall PP n_spec_l5Marks #[v0, v1] w R :=
  call_of_vc (T := A_spec_l5Marks) (c := (Tryz.f48.body).getD .skip) (n := 58) mixed Tryz.func48 rfl rfl (by kernel_rfl) (by kernel_rfl) rfl (by rw [k_spec_l5Marks]; exact h)

/-- spec.l4Clause -/
def F_spec_l4Clause (P : Program) (v0 v1 : Value) (w : World) (R : Value → World → Prop) : Prop :=
  vloop [(.int .i64 0), (.int .i64 0)] w fun C u _ w_1 =>
    vbi P .len [T_Lint] T_int [v0] w_1 fun t9 w_2 =>
    vbin P .lss T_int false (sl 1 u) t9 w_2 fun t10 w_3 =>
    vif t10 (
      viaddr P T_Lint v0 (sl 1 u) w_3 fun t15 w_4 =>
      vload P T_int t15 w_4 fun t16 w_5 =>
      vun P .neg v1 w_5 fun t18 w_6 =>
      vbin P .lss T_int false t16 t18 w_6 fun t19 w_7 =>
      vif t19 (
        R (.bool false) w_7) (
        viaddr P T_Lint v0 (sl 1 u) w_7 fun t23 w_8 =>
        vload P T_int t23 w_8 fun t24 w_9 =>
        vbin P .gtr T_int false t24 v1 w_9 fun t26 w_10 =>
        vif t26 (
          R (.bool false) w_10) (
          viaddr P T_Lint v0 (sl 1 u) w_10 fun t31 w_11 =>
          vload P T_int t31 w_11 fun t32 w_12 =>
          vcall P n_spec_l4Abs #[t32] w_12 fun t33 w_13 =>
          vbin P .leq T_int false t33 (sl 0 u) w_13 fun t35 w_14 =>
          vif t35 (
            R (.bool false) w_14) (
            viaddr P T_Lint v0 (sl 1 u) w_14 fun t39 w_15 =>
            vload P T_int t39 w_15 fun t40 w_16 =>
            vcall P n_spec_l4Abs #[t40] w_16 fun t41 w_17 =>
            vbin P .add T_int true (sl 1 u) (.int .i64 1) w_17 fun t12 w_18 =>
            C [t41, t12] w_18)))) (
      R (.bool true) w_3)
def A_spec_l4Clause : Ann := { ord := [], loops := [(3, [5, 6])], cuts := [] }
theorem k_spec_l4Clause (v0 v1 : Value) (w : World) (R : Value → World → Prop) : vc PP A_spec_l4Clause ((Tryz.f49.body).getD .skip) (retF PP Tryz.f49.results.toList R) (nthV [v0, v1]) w = F_spec_l4Clause PP v0 v1 w R := by kernel_rfl
theorem c_spec_l4Clause {v0 v1 : Value} {w : World} {R : Value → World → Prop} (h : F_spec_l4Clause PP v0 v1 w R) : vcall PP n_spec_l4Clause #[v0, v1] w R :=
  call_of_vc (T := A_spec_l4Clause) (c := (Tryz.f49.body).getD .skip) (n := 42) mixed Tryz.func49 rfl rfl (by kernel_rfl) (by kernel_rfl) rfl (by rw [k_spec_l4Clause]; exact h)

/-- spec.l5Whys -/
def F_spec_l5Whys (P : Program) (v0 v1 : Value) (w : World) (R : Value → World → Prop) : Prop :=
  vbox P T_impl_Cnf v0 w fun t2 w_1 =>
  vbox P T_impl_Sat v1 w_1 fun t3 w_2 =>
  vfaddr P T_impl_Cnf t2 1 w_2 fun t10 w_3 =>
  vload P T_LLint t10 w_3 fun t11 w_4 =>
  vbi P .len [T_LLint] T_int [t11] w_4 fun t12 w_5 =>
  vfaddr P T_impl_Sat t3 2 w_5 fun t13 w_6 =>
  vload P T_LLint t13 w_6 fun t14 w_7 =>
  vbi P .len [T_LLint] T_int [t14] w_7 fun t15 w_8 =>
  vbin P .add T_int false t12 t15 w_8 fun t16 w_9 =>
  vfaddr P T_impl_Cnf t2 0 w_9 fun t17 w_10 =>
  vload P T_int t17 w_10 fun t18 w_11 =>
  vbin P .add T_int true t18 (.int .i64 1) w_11 fun t19 w_12 =>
  vmkS P T_Lint t19 t19 w_12 fun t20 w_13 =>
  vloop [(.int .i64 0)] w_13 fun C u _ w_14 =>
    vfaddr P T_impl_Sat t3 0 w_14 fun t22 w_15 =>
    vload P T_Lint t22 w_15 fun t23 w_16 =>
    vbi P .len [T_Lint] T_int [t23] w_16 fun t24 w_17 =>
    vbin P .lss T_int false (sl 0 u) t24 w_17 fun t25 w_18 =>
    vif t25 (
      vfaddr P T_impl_Sat t3 1 w_18 fun t28 w_19 =>
      vload P T_Lint t28 w_19 fun t29 w_20 =>
      viaddr P T_Lint t29 (sl 0 u) w_20 fun t31 w_21 =>
      vload P T_int t31 w_21 fun t32 w_22 =>
      vjoin (fun J =>
        vdraw w_22 fun w_24 =>
        vbin P .lss T_int true t32 (.int .i64 (-1)) w_24 fun t34 w_25 => w_25 = w_24 ∧
        vif t34 (
          R (.bool false) w_24) (
          vbin P .geq T_int false t32 t16 w_24 fun t38 w_26 => w_26 = w_24 ∧
          vif t38 (
            R (.bool false) w_24) (
            vbin P .geq T_int true t32 (.int .i64 0) w_24 fun t42 w_27 => w_27 = w_24 ∧
            vif t42 (
              vload P T_impl_Cnf t2 w_24 fun t45 w_28 => w_28 = w_24 ∧
              vload P T_impl_Sat t3 w_24 fun t46 w_29 => w_29 = w_24 ∧
              vfaddr P T_impl_Sat t3 0 w_24 fun t49 w_30 => w_30 = w_24 ∧
              vload P T_Lint t49 w_24 fun t50 w_31 => w_31 = w_24 ∧
              viaddr P T_Lint t50 (sl 0 u) w_24 fun t52 w_32 => w_32 = w_24 ∧
              vload P T_int t52 w_24 fun t53 w_33 => w_33 = w_24 ∧
              vcall P n_spec_l5At #[t45, t46, t32] w_24 fun t48 w_34 => (vload P T_int t52 w_34 fun v x => v = t53 ∧ x = w_34) ∧ (viaddr P T_Lint t50 (sl 0 u) w_34 fun v x => v = t52 ∧ x = w_34) ∧ (vload P T_Lint t49 w_34 fun v x => v = t50 ∧ x = w_34) ∧ (vfaddr P T_impl_Sat t3 0 w_34 fun v x => v = t49 ∧ x = w_34) ∧
              vcall P n_spec_l5Because #[t20, t48, t53] w_34 fun t54 w_35 =>
              vun P .not t54 w_35 fun t55 w_36 => w_36 = w_35 ∧
              vif t55 (
                R (.bool false) w_35) (
                J [] w_35)) (
              J [] w_24)))) (fun _ _ w_23 =>
        vfaddr P T_impl_Sat t3 0 w_23 fun t58 w_37 =>
        vload P T_Lint t58 w_37 fun t59 w_38 =>
        viaddr P T_Lint t59 (sl 0 u) w_38 fun t61 w_39 =>
        vload P T_int t61 w_39 fun t62 w_40 =>
        vcall P n_spec_l4Abs #[t62] w_40 fun t65 w_41 =>
        viaddr P T_Lint t20 t65 w_41 fun t66 w_42 =>
        vstore P T_int t66 (.int .i64 1) w_42 fun _ w_43 =>
        vbin P .lss T_int true t62 (.int .i64 0) w_43 fun t68 w_44 =>
        vif t68 (
          vun P .neg t62 w_44 fun t71 w_45 =>
          viaddr P T_Lint t20 t71 w_45 fun t72 w_46 =>
          vstore P T_int t72 (.int .i64 (-1)) w_46 fun _ w_47 =>
          vbin P .add T_int true (sl 0 u) (.int .i64 1) w_47 fun t27 w_48 =>
          C [t27] w_48) (
          vbin P .add T_int true (sl 0 u) (.int .i64 1) w_44 fun t27_1 w_49 =>
          C [t27_1] w_49))) (
      R (.bool true) w_18)
def A_spec_l5Whys : Ann := { ord := [(7, [0, 1, 2, 3, 4, 5, 6, 7, 8, 9, 10, 11, 12, 13, 14, 16, 17, 18, 19, 20, 15, 21, 22, 23, 24], [(0, [1, 2, 3, 4, 5, 6, 7, 8, 9, 10, 11, 12, 13, 14, 16, 17, 18, 19, 20, 15, 21, 22, 23, 24]), (1, [2, 3, 4, 5, 6, 7, 8, 9, 10, 11, 12, 13, 14, 16, 17, 18, 19, 20, 15, 21, 22, 23, 24]), (2, [3, 4, 5, 6, 7, 8, 9, 10, 11, 12, 13, 14, 16, 17, 18, 19, 20, 15, 21, 22, 23, 24]), (3, [5, 6, 7, 8, 9, 10, 11, 12, 13, 14, 16, 17, 18, 19, 20, 15, 21, 22, 23, 24]), (4, [5, 6, 7, 8, 9, 10, 11, 12, 13, 14, 16, 17, 18, 19, 20, 15, 21, 22, 23, 24]), (5, [6, 7, 8, 9, 10, 11, 12, 13, 14, 16, 17, 18, 19, 20, 15, 21, 22, 23, 24]), (6, [7, 8, 9, 10, 11, 12, 13, 14, 16, 17, 18, 19, 20, 15, 21, 22, 23, 24]), (7, [8, 9, 10, 11, 12, 13, 14, 16, 17, 18, 19, 20, 15, 21, 22, 23, 24]), (8, [9, 10, 11, 12, 13, 14, 16, 17, 18, 19, 20, 15, 21, 22, 23, 24]), (9, [10, 11, 12, 13, 14, 16, 17, 18, 19, 20, 15, 21, 22, 23, 24]), (10, [11, 12, 13, 14, 16, 17, 18, 19, 20, 15, 21, 22, 23, 24]), (11, [21, 22, 23, 24]), (12, [15, 21, 22, 23, 24]), (13, [15, 21, 22, 23, 24]), (14, [15, 21, 22, 23, 24]), (16, [17, 19, 20, 21, 22, 23, 24]), (17, [19, 20, 21, 22, 23, 24]), (18, [19, 20, 21, 22, 23, 24]), (19, [20, 21, 22, 23, 24]), (20, [21, 22, 23, 24]), (15, [21, 22, 23, 24]), (21, [22, 23, 24]), (22, [23, 24]), (23, [24])])], loops := [(4, [7])], cuts := [(32777, [])] }
theorem k_spec_l5Whys (v0 v1 : Value) (w : World) (R : Value → World → Prop) : vc PP A_spec_l5Whys ((Tryz.f50.body).getD .skip) (retF PP Tryz.f50.results.toList R) (nthV [v0, v1]) w = F_spec_l5Whys PP v0 v1 w R := by kernel_rfl
theorem c_spec_l5Whys {v0 v1 : Value} {w : World} {R : Value → World → Prop} (h : F_spec_l5Whys PP v0 v1 w R) : vcall PP n_spec_l5Whys #[v0, v1] w R :=
  call_of_vc (T := A_spec_l5Whys) (c := (Tryz.f50.body).getD .skip) (n := 73) mixed Tryz.func50 rfl rfl (by kernel_rfl) (by kernel_rfl) rfl (by rw [k_spec_l5Whys]; exact h)

/-- laws.szIntSS -/
def F_laws_szIntSS (P : Program) (v0 v1 : Value) (w : World) (R : Value → World → Prop) : Prop :=
  vbi P .len [T_LLint] T_int [v0] w fun t8 w_1 =>
  vbin P .sub T_int false v1 t8 w_1 fun t9 w_2 =>
  vbin P .lss T_int true t9 (.int .i64 0) w_2 fun t11 w_3 =>
  vif t11 (
    R (.int .i64 (-1)) w_3) (
    vloop [t9, (.int .i64 0)] w_3 fun C u _ w_4 =>
      vbi P .len [T_LLint] T_int [v0] w_4 fun t14 w_5 =>
      vbin P .lss T_int false (sl 1 u) t14 w_5 fun t15 w_6 =>
      vif t15 (
        viaddr P T_LLint v0 (sl 1 u) w_6 fun t20 w_7 =>
        vload P T_Lint t20 w_7 fun t21 w_8 =>
        vcall P n_laws_szIntS #[t21, (sl 0 u)] w_8 fun t23 w_9 =>
        vbin P .lss T_int true t23 (.int .i64 0) w_9 fun t25 w_10 =>
        vif t25 (
          R (.int .i64 (-1)) w_10) (
          vbin P .add T_int true (sl 1 u) (.int .i64 1) w_10 fun t17 w_11 =>
          C [t23, t17] w_11)) (
        R (sl 0 u) w_6))
def A_laws_szIntSS : Ann := { ord := [], loops := [(5, [1, 5])], cuts := [] }
theorem k_laws_szIntSS (v0 v1 : Value) (w : World) (R : Value → World → Prop) : vc PP A_laws_szIntSS ((Tryz.f51.body).getD .skip) (retF PP Tryz.f51.results.toList R) (nthV [v0, v1]) w = F_laws_szIntSS PP v0 v1 w R := by kernel_rfl
theorem c_laws_szIntSS {v0 v1 : Value} {w : World} {R : Value → World → Prop} (h : F_laws_szIntSS PP v0 v1 w R) : vcall PP n_laws_szIntSS #[v0, v1] w R :=
  call_of_vc (T := A_laws_szIntSS) (c := (Tryz.f51.body).getD .skip) (n := 27) mixed Tryz.func51 rfl rfl (by kernel_rfl) (by kernel_rfl) rfl (by rw [k_laws_szIntSS]; exact h)

/-- laws.szIntS -/
def F_laws_szIntS (P : Program) (v0 v1 : Value) (w : World) (R : Value → World → Prop) : Prop :=
  vbi P .len [T_Lint] T_int [v0] w fun t7 w_1 =>
  vbin P .sub T_int false v1 t7 w_1 fun t8 w_2 =>
  vbin P .lss T_int true t8 (.int .i64 0) w_2 fun t10 w_3 =>
  vif t10 (
    R (.int .i64 (-1)) w_3) (
    R t8 w_3)
def A_laws_szIntS : Ann := { ord := [], loops := [], cuts := [] }
theorem k_laws_szIntS (v0 v1 : Value) (w : World) (R : Value → World → Prop) : vc PP A_laws_szIntS ((Tryz.f52.body).getD .skip) (retF PP Tryz.f52.results.toList R) (nthV [v0, v1]) w = F_laws_szIntS PP v0 v1 w R := by kernel_rfl
theorem c_laws_szIntS {v0 v1 : Value} {w : World} {R : Value → World → Prop} (h : F_laws_szIntS PP v0 v1 w R) : vcall PP n_laws_szIntS #[v0, v1] w R :=
  call_of_vc (T := A_laws_szIntS) (c := (Tryz.f52.body).getD .skip) (n := 12) mixed Tryz.func52 rfl rfl (by kernel_rfl) (by kernel_rfl) rfl (by rw [k_laws_szIntS]; exact h)

/-- laws.toIntSS -/
def F_laws_toIntSS (P : Program) (v0 : Value) (w : World) (R : Value → World → Prop) : Prop :=
  vbi P .len [T_LLint] T_int [v0] w fun t6 w_1 =>
  vmkS P T_LLint t6 t6 w_1 fun t7 w_2 =>
  vloop [(.int .i64 0)] w_2 fun C u _ w_3 =>
    vbi P .len [T_LLint] T_int [v0] w_3 fun t10 w_4 =>
    vbin P .lss T_int false (sl 0 u) t10 w_4 fun t11 w_5 =>
    vif t11 (
      viaddr P T_LLint v0 (sl 0 u) w_5 fun t18 w_6 =>
      vload P T_Lint t18 w_6 fun t19 w_7 =>
      vcall P n_laws_toIntS #[t19] w_7 fun t20 w_8 =>
      viaddr P T_LLint t7 (sl 0 u) w_8 fun t21 w_9 =>
      vstore P T_Lint t21 t20 w_9 fun _ w_10 =>
      vbin P .add T_int true (sl 0 u) (.int .i64 1) w_10 fun t13 w_11 =>
      C [t13] w_11) (
      R t7 w_5)
def A_laws_toIntSS : Ann := { ord := [], loops := [(3, [4])], cuts := [] }
theorem k_laws_toIntSS (v0 : Value) (w : World) (R : Value → World → Prop) : vc PP A_laws_toIntSS ((Tryz.f53.body).getD .skip) (retF PP Tryz.f53.results.toList R) (nthV [v0]) w = F_laws_toIntSS PP v0 w R := by kernel_rfl
theorem c_laws_toIntSS {v0 : Value} {w : World} {R : Value → World → Prop} (h : F_laws_toIntSS PP v0 w R) : vcall PP n_laws_toIntSS #[v0] w R :=
  call_of_vc (T := A_laws_toIntSS) (c := (Tryz.f53.body).getD .skip) (n := 23) mixed Tryz.func53 rfl rfl (by kernel_rfl) (by kernel_rfl) rfl (by rw [k_laws_toIntSS]; exact h)

/-- laws.toIntS -/
def F_laws_toIntS (P : Program) (v0 : Value) (w : World) (R : Value → World → Prop) : Prop :=
  vbi P .len [T_Lint] T_int [v0] w fun t6 w_1 =>
  vmkS P T_Lint t6 t6 w_1 fun t7 w_2 =>
  vloop [(.int .i64 0)] w_2 fun C u _ w_3 =>
    vbi P .len [T_Lint] T_int [v0] w_3 fun t10 w_4 =>
    vbin P .lss T_int false (sl 0 u) t10 w_4 fun t11 w_5 =>
    vif t11 (
      viaddr P T_Lint v0 (sl 0 u) w_5 fun t18 w_6 =>
      vload P T_int t18 w_6 fun t19 w_7 =>
      viaddr P T_Lint t7 (sl 0 u) w_7 fun t20 w_8 =>
      vstore P T_int t20 t19 w_8 fun _ w_9 =>
      vbin P .add T_int true (sl 0 u) (.int .i64 1) w_9 fun t13 w_10 =>
      C [t13] w_10) (
      R t7 w_5)
def A_laws_toIntS : Ann := { ord := [], loops := [(3, [4])], cuts := [] }
theorem k_laws_toIntS (v0 : Value) (w : World) (R : Value → World → Prop) : vc PP A_laws_toIntS ((Tryz.f54.body).getD .skip) (retF PP Tryz.f54.results.toList R) (nthV [v0]) w = F_laws_toIntS PP v0 w R := by kernel_rfl
theorem c_laws_toIntS {v0 : Value} {w : World} {R : Value → World → Prop} (h : F_laws_toIntS PP v0 w R) : vcall PP n_laws_toIntS #[v0] w R :=
  call_of_vc (T := A_laws_toIntS) (c := (Tryz.f54.body).getD .skip) (n := 22) mixed Tryz.func54 rfl rfl (by kernel_rfl) (by kernel_rfl) rfl (by rw [k_laws_toIntS]; exact h)

/-- laws.eqIntS -/
def F_laws_eqIntS (P : Program) (v0 v1 : Value) (w : World) (R : Value → World → Prop) : Prop :=
  vbi P .len [T_Lint] T_int [v0] w fun t7 w_1 =>
  vbi P .len [T_Lint] T_int [v1] w_1 fun t9 w_2 =>
  vbin P .neq T_int false t7 t9 w_2 fun t10 w_3 =>
  vif t10 (
    R (.bool false) w_3) (
    vloop [(.int .i64 0)] w_3 fun C u _ w_4 =>
      vbi P .len [T_Lint] T_int [v0] w_4 fun t13 w_5 =>
      vbin P .lss T_int false (sl 0 u) t13 w_5 fun t14 w_6 =>
      vif t14 (
        vdraw w_6 fun w_7 =>
        viaddr P T_Lint v0 (sl 0 u) w_7 fun t19 w_8 => w_8 = w_7 ∧
        vload P T_int t19 w_7 fun t20 w_9 => w_9 = w_7 ∧
        viaddr P T_Lint v1 (sl 0 u) w_7 fun t23 w_10 => w_10 = w_7 ∧
        vload P T_int t23 w_7 fun t24 w_11 => w_11 = w_7 ∧
        vbin P .neq T_int false t20 t24 w_7 fun t25 w_12 => w_12 = w_7 ∧
        vif t25 (
          R (.bool false) w_7) (
          vbin P .add T_int true (sl 0 u) (.int .i64 1) w_7 fun t16 w_13 =>
          C [t16] w_13)) (
        R (.bool true) w_6))
def A_laws_eqIntS : Ann := { ord := [(6, [0, 1, 2, 3, 4, 5, 6, 7, 8], [(0, [2, 3, 8]), (1, [2, 3, 8]), (2, [3, 8]), (3, [8]), (4, [6, 7, 8]), (5, [6, 7, 8]), (6, [7, 8]), (7, [8])])], loops := [(4, [5])], cuts := [] }
theorem k_laws_eqIntS (v0 v1 : Value) (w : World) (R : Value → World → Prop) : vc PP A_laws_eqIntS ((Tryz.f55.body).getD .skip) (retF PP Tryz.f55.results.toList R) (nthV [v0, v1]) w = F_laws_eqIntS PP v0 v1 w R := by kernel_rfl
theorem c_laws_eqIntS {v0 v1 : Value} {w : World} {R : Value → World → Prop} (h : F_laws_eqIntS PP v0 v1 w R) : vcall PP n_laws_eqIntS #[v0, v1] w R :=
  call_of_vc (T := A_laws_eqIntS) (c := (Tryz.f55.body).getD .skip) (n := 26) mixed Tryz.func55 rfl rfl (by kernel_rfl) (by kernel_rfl) rfl (by rw [k_laws_eqIntS]; exact h)

/-- laws.eqIntSS -/
def F_laws_eqIntSS (P : Program) (v0 v1 : Value) (w : World) (R : Value → World → Prop) : Prop :=
  vbi P .len [T_LLint] T_int [v0] w fun t7 w_1 =>
  vbi P .len [T_LLint] T_int [v1] w_1 fun t9 w_2 =>
  vbin P .neq T_int false t7 t9 w_2 fun t10 w_3 =>
  vif t10 (
    R (.bool false) w_3) (
    vloop [(.int .i64 0)] w_3 fun C u _ w_4 =>
      vbi P .len [T_LLint] T_int [v0] w_4 fun t13 w_5 =>
      vbin P .lss T_int false (sl 0 u) t13 w_5 fun t14 w_6 =>
      vif t14 (
        vdraw w_6 fun w_7 =>
        viaddr P T_LLint v0 (sl 0 u) w_7 fun t19 w_8 => w_8 = w_7 ∧
        vload P T_Lint t19 w_7 fun t20 w_9 => w_9 = w_7 ∧
        viaddr P T_LLint v1 (sl 0 u) w_7 fun t23 w_10 => w_10 = w_7 ∧
        vload P T_Lint t23 w_7 fun t24 w_11 => w_11 = w_7 ∧
        vcall P n_laws_eqIntS #[t20, t24] w_7 fun t25 w_12 =>
        vun P .not t25 w_12 fun t26 w_13 => w_13 = w_12 ∧
        vif t26 (
          R (.bool false) w_12) (
          vbin P .add T_int true (sl 0 u) (.int .i64 1) w_12 fun t16 w_14 =>
          C [t16] w_14)) (
        R (.bool true) w_6))
def A_laws_eqIntSS : Ann := { ord := [(6, [0, 1, 2, 3, 4, 5, 6, 7, 8, 9], [(0, [2, 3, 8, 9]), (1, [2, 3, 8, 9]), (2, [3, 8, 9]), (3, [8, 9]), (4, [6, 7, 8, 9]), (5, [6, 7, 8, 9]), (6, [7, 8, 9]), (7, [8, 9]), (8, [9])])], loops := [(4, [5])], cuts := [] }
theorem k_laws_eqIntSS (v0 v1 : Value) (w : World) (R : Value → World → Prop) : vc PP A_laws_eqIntSS ((Tryz.f56.body).getD .skip) (retF PP Tryz.f56.results.toList R) (nthV [v0, v1]) w = F_laws_eqIntSS PP v0 v1 w R := by kernel_rfl
theorem c_laws_eqIntSS {v0 v1 : Value} {w : World} {R : Value → World → Prop} (h : F_laws_eqIntSS PP v0 v1 w R) : vcall PP n_laws_eqIntSS #[v0, v1] w R :=
  call_of_vc (T := A_laws_eqIntSS) (c := (Tryz.f56.body).getD .skip) (n := 27) mixed Tryz.func56 rfl rfl (by kernel_rfl) (by kernel_rfl) rfl (by rw [k_laws_eqIntSS]; exact h)

/-- laws.markIntSS -/
def F_laws_markIntSS (P : Program) (v0 v1 : Value) (w : World) (R : Value → World → Prop) : Prop :=
  vloop [v1, (.int .i64 0)] w fun C u _ w_1 =>
    vbi P .len [T_LLint] T_int [v0] w_1 fun t8 w_2 =>
    vbin P .lss T_int false (sl 1 u) t8 w_2 fun t9 w_3 =>
    vif t9 (
      viaddr P T_LLint v0 (sl 1 u) w_3 fun t14 w_4 =>
      vload P T_Lint t14 w_4 fun t15 w_5 =>
      vcall P n_laws_markIntS #[t15, (sl 0 u)] w_5 fun t17 w_6 =>
      vbin P .add T_int true (sl 1 u) (.int .i64 1) w_6 fun t11 w_7 =>
      C [t17, t11] w_7) (
      R (sl 0 u) w_3)
def A_laws_markIntSS : Ann := { ord := [], loops := [(2, [1, 5])], cuts := [] }
theorem k_laws_markIntSS (v0 v1 : Value) (w : World) (R : Value → World → Prop) : vc PP A_laws_markIntSS ((Tryz.f57.body).getD .skip) (retF PP Tryz.f57.results.toList R) (nthV [v0, v1]) w = F_laws_markIntSS PP v0 v1 w R := by kernel_rfl
theorem c_laws_markIntSS {v0 v1 : Value} {w : World} {R : Value → World → Prop} (h : F_laws_markIntSS PP v0 v1 w R) : vcall PP n_laws_markIntSS #[v0, v1] w R :=
  call_of_vc (T := A_laws_markIntSS) (c := (Tryz.f57.body).getD .skip) (n := 19) mixed Tryz.func57 rfl rfl (by kernel_rfl) (by kernel_rfl) rfl (by rw [k_laws_markIntSS]; exact h)

/-- laws.markIntS -/
def F_laws_markIntS (P : Program) (v0 v1 : Value) (w : World) (R : Value → World → Prop) : Prop :=
  vloop [v1, (.int .i64 0)] w fun C u _ w_1 =>
    vbi P .len [T_Lint] T_int [v0] w_1 fun t8 w_2 =>
    vbin P .lss T_int false (sl 1 u) t8 w_2 fun t9 w_3 =>
    vif t9 (
      viaddr P T_Lint v0 (sl 1 u) w_3 fun t15 w_4 =>
      vstore P T_int t15 (sl 0 u) w_4 fun _ w_5 =>
      vbin P .add T_int true (sl 0 u) (.int .i64 1) w_5 fun t17 w_6 =>
      vbin P .add T_int true (sl 1 u) (.int .i64 1) w_6 fun t11 w_7 =>
      C [t17, t11] w_7) (
      R (sl 0 u) w_3)
def A_laws_markIntS : Ann := { ord := [], loops := [(2, [1, 5])], cuts := [] }
theorem k_laws_markIntS (v0 v1 : Value) (w : World) (R : Value → World → Prop) : vc PP A_laws_markIntS ((Tryz.f58.body).getD .skip) (retF PP Tryz.f58.results.toList R) (nthV [v0, v1]) w = F_laws_markIntS PP v0 v1 w R := by kernel_rfl
theorem c_laws_markIntS {v0 v1 : Value} {w : World} {R : Value → World → Prop} (h : F_laws_markIntS PP v0 v1 w R) : vcall PP n_laws_markIntS #[v0, v1] w R :=
  call_of_vc (T := A_laws_markIntS) (c := (Tryz.f58.body).getD .skip) (n := 19) mixed Tryz.func58 rfl rfl (by kernel_rfl) (by kernel_rfl) rfl (by rw [k_laws_markIntS]; exact h)

/-- laws.heldIntS -/
def F_laws_heldIntS (P : Program) (v0 v1 : Value) (w : World) (R : Value → World → Prop) : Prop :=
  vloop [v1, (.int .i64 0)] w fun C u _ w_1 =>
    vbi P .len [T_Lint] T_int [v0] w_1 fun t8 w_2 =>
    vbin P .lss T_int false (sl 1 u) t8 w_2 fun t9 w_3 =>
    vif t9 (
      viaddr P T_Lint v0 (sl 1 u) w_3 fun t14 w_4 =>
      vload P T_int t14 w_4 fun t15 w_5 =>
      vbin P .neq T_int false t15 (sl 0 u) w_5 fun t17 w_6 =>
      vif t17 (
        R (.int .i64 (-1)) w_6) (
        vbin P .add T_int true (sl 0 u) (.int .i64 1) w_6 fun t19 w_7 =>
        vbin P .add T_int true (sl 1 u) (.int .i64 1) w_7 fun t11 w_8 =>
        C [t19, t11] w_8)) (
      R (sl 0 u) w_3)
def A_laws_heldIntS : Ann := { ord := [], loops := [(2, [1, 5])], cuts := [] }
theorem k_laws_heldIntS (v0 v1 : Value) (w : World) (R : Value → World → Prop) : vc PP A_laws_heldIntS ((Tryz.f59.body).getD .skip) (retF PP Tryz.f59.results.toList R) (nthV [v0, v1]) w = F_laws_heldIntS PP v0 v1 w R := by kernel_rfl
theorem c_laws_heldIntS {v0 v1 : Value} {w : World} {R : Value → World → Prop} (h : F_laws_heldIntS PP v0 v1 w R) : vcall PP n_laws_heldIntS #[v0, v1] w R :=
  call_of_vc (T := A_laws_heldIntS) (c := (Tryz.f59.body).getD .skip) (n := 21) mixed Tryz.func59 rfl rfl (by kernel_rfl) (by kernel_rfl) rfl (by rw [k_laws_heldIntS]; exact h)

/-- laws.heldIntSS -/
def F_laws_heldIntSS (P : Program) (v0 v1 : Value) (w : World) (R : Value → World → Prop) : Prop :=
  vloop [v1, (.int .i64 0)] w fun C u _ w_1 =>
    vbi P .len [T_LLint] T_int [v0] w_1 fun t8 w_2 =>
    vbin P .lss T_int false (sl 1 u) t8 w_2 fun t9 w_3 =>
    vif t9 (
      viaddr P T_LLint v0 (sl 1 u) w_3 fun t14 w_4 =>
      vload P T_Lint t14 w_4 fun t15 w_5 =>
      vcall P n_laws_heldIntS #[t15, (sl 0 u)] w_5 fun t17 w_6 =>
      vbin P .lss T_int true t17 (.int .i64 0) w_6 fun t19 w_7 =>
      vif t19 (
        R (.int .i64 (-1)) w_7) (
        vbin P .add T_int true (sl 1 u) (.int .i64 1) w_7 fun t11 w_8 =>
        C [t17, t11] w_8)) (
      R (sl 0 u) w_3)
def A_laws_heldIntSS : Ann := { ord := [], loops := [(2, [1, 5])], cuts := [] }
theorem k_laws_heldIntSS (v0 v1 : Value) (w : World) (R : Value → World → Prop) : vc PP A_laws_heldIntSS ((Tryz.f60.body).getD .skip) (retF PP Tryz.f60.results.toList R) (nthV [v0, v1]) w = F_laws_heldIntSS PP v0 v1 w R := by kernel_rfl
theorem c_laws_heldIntSS {v0 v1 : Value} {w : World} {R : Value → World → Prop} (h : F_laws_heldIntSS PP v0 v1 w R) : vcall PP n_laws_heldIntSS #[v0, v1] w R :=
  call_of_vc (T := A_laws_heldIntSS) (c := (Tryz.f60.body).getD .skip) (n := 21) mixed Tryz.func60 rfl rfl (by kernel_rfl) (by kernel_rfl) rfl (by rw [k_laws_heldIntSS]; exact h)

/-- (*spec.l12Rd).pick -/
def F_spec_l12Rd_pick (P : Program) (v0 v1 : Value) (w : World) (R : Value → World → Prop) : Prop :=
  vnil P v0 w fun t9 w_1 =>
  vfaddr P T_spec_l12Rd t9 1 w_1 fun t10 w_2 =>
  vload P T_int t10 w_2 fun t11 w_3 =>
  vbin P .add T_int true t11 (.int .i64 1) w_3 fun t12 w_4 =>
  vnil P v0 w_4 fun t13 w_5 =>
  vfaddr P T_spec_l12Rd t13 1 w_5 fun t14 w_6 =>
  vstore P T_int t14 t12 w_6 fun _ w_7 =>
  vjoin (fun J =>
    vbin P .lss T_int true v1 (.int .i64 1) w_7 fun t16 w_9 =>
    vif t16 (
      R (.int .i64 0) w_9) (
      vnil P v0 w_9 fun t19 w_10 =>
      vfaddr P T_spec_l12Rd t19 0 w_10 fun t20 w_11 =>
      vload P T_Luint8 t20 w_11 fun t21 w_12 =>
      vbi P .len [T_Luint8] T_int [t21] w_12 fun t22 w_13 =>
      vbin P .eql T_int true t22 (.int .i64 0) w_13 fun t23 w_14 =>
      vif t23 (
        R (.int .i64 0) w_14) (
        J [] w_14))) (fun _ _ w_8 =>
    vnil P v0 w_8 fun t26 w_15 =>
    vfaddr P T_spec_l12Rd t26 1 w_15 fun t27 w_16 =>
    vload P T_int t27 w_16 fun t28 w_17 =>
    vbin P .sub T_int true t28 (.int .i64 1) w_17 fun t29 w_18 =>
    vnil P v0 w_18 fun t32 w_19 =>
    vfaddr P T_spec_l12Rd t32 0 w_19 fun t33 w_20 =>
    vload P T_Luint8 t33 w_20 fun t34 w_21 =>
    vbi P .len [T_Luint8] T_int [t34] w_21 fun t35 w_22 =>
    vbin P .lss T_int false t29 t35 w_22 fun t36 w_23 =>
    vif t36 (
      vnil P v0 w_23 fun t38 w_24 =>
      vfaddr P T_spec_l12Rd t38 0 w_24 fun t39 w_25 =>
      vload P T_Luint8 t39 w_25 fun t40 w_26 =>
      viaddr P T_Luint8 t40 t29 w_26 fun t42 w_27 =>
      vload P T_uint8 t42 w_27 fun t43 w_28 =>
      vconv P T_uint8 T_int t43 w_28 fun t44 w_29 =>
      vbin P .rem T_int false t44 v1 w_29 fun t46 w_30 =>
      R t46 w_30) (
      vdraw w_23 fun w_31 =>
      vnil P v0 w_31 fun t48 w_32 => w_32 = w_31 ∧
      vfaddr P T_spec_l12Rd t48 0 w_31 fun t49 w_33 => w_33 = w_31 ∧
      vload P T_Luint8 t49 w_31 fun t50 w_34 => w_34 = w_31 ∧
      vnil P v0 w_31 fun t53 w_35 => w_35 = w_31 ∧
      vfaddr P T_spec_l12Rd t53 0 w_31 fun t54 w_36 => w_36 = w_31 ∧
      vload P T_Luint8 t54 w_31 fun t55 w_37 => w_37 = w_31 ∧
      vbi P .len [T_Luint8] T_int [t55] w_31 fun t56 w_38 => w_38 = w_31 ∧
      vbin P .rem T_int false t29 t56 w_31 fun t57 w_39 => w_39 = w_31 ∧
      viaddr P T_Luint8 t50 t57 w_31 fun t58 w_40 => w_40 = w_31 ∧
      vload P T_uint8 t58 w_31 fun t59 w_41 => w_41 = w_31 ∧
      vconv P T_uint8 T_int t59 w_31 fun t60 w_42 => w_42 = w_31 ∧
      vbin P .mul T_int true t60 (.int .i64 131) w_31 fun t61 w_43 => w_43 = w_31 ∧
      vnil P v0 w_31 fun t63 w_44 => w_44 = w_31 ∧
      vfaddr P T_spec_l12Rd t63 0 w_31 fun t64 w_45 => w_45 = w_31 ∧
      vload P T_Luint8 t64 w_31 fun t65 w_46 => w_46 = w_31 ∧
      vbin P .mul T_int true t29 (.int .i64 7) w_31 fun t67 w_47 => w_47 = w_31 ∧
      vbin P .add T_int true t67 (.int .i64 3) w_31 fun t68 w_48 => w_48 = w_31 ∧
      vnil P v0 w_31 fun t70 w_49 => w_49 = w_31 ∧
      vfaddr P T_spec_l12Rd t70 0 w_31 fun t71 w_50 => w_50 = w_31 ∧
      vload P T_Luint8 t71 w_31 fun t72 w_51 => w_51 = w_31 ∧
      vbi P .len [T_Luint8] T_int [t72] w_31 fun t73 w_52 => w_52 = w_31 ∧
      vbin P .rem T_int false t68 t73 w_31 fun t74 w_53 => w_53 = w_31 ∧
      viaddr P T_Luint8 t65 t74 w_31 fun t75 w_54 => w_54 = w_31 ∧
      vload P T_uint8 t75 w_31 fun t76 w_55 => w_55 = w_31 ∧
      vconv P T_uint8 T_int t76 w_31 fun t77 w_56 => w_56 = w_31 ∧
      vbin P .mul T_int true t77 (.int .i64 1117) w_31 fun t78 w_57 => w_57 = w_31 ∧
      vbin P .add T_int false t61 t78 w_31 fun t79 w_58 => w_58 = w_31 ∧
      vbin P .mul T_int true t29 (.int .i64 29) w_31 fun t81 w_59 => w_59 = w_31 ∧
      vbin P .add T_int false t79 t81 w_31 fun t82 w_60 => w_60 = w_31 ∧
      vnil P v0 w_31 fun t85 w_61 => w_61 = w_31 ∧
      vfaddr P T_spec_l12Rd t85 0 w_31 fun t86 w_62 => w_62 = w_31 ∧
      vload P T_Luint8 t86 w_31 fun t87 w_63 => w_63 = w_31 ∧
      vbi P .len [T_Luint8] T_int [t87] w_31 fun t88 w_64 => w_64 = w_31 ∧
      vbin P .quo T_int false t29 t88 w_31 fun t89 w_65 => w_65 = w_31 ∧
      vbin P .mul T_int true t89 (.int .i64 53) w_31 fun t90 w_66 => w_66 = w_31 ∧
      vbin P .add T_int false t82 t90 w_31 fun t91 w_67 => w_67 = w_31 ∧
      vbin P .quo T_int true t91 (.int .i64 64) w_31 fun t94 w_68 =>
      vbin P .xor T_int false t91 t94 w_68 fun t95 w_69 =>
      vbin P .rem T_int false t95 v1 w_69 fun t98 w_70 =>
      R t98 w_70))
def A_spec_l12Rd_pick : Ann := { ord := [(7, [0, 1, 2, 3, 4, 5, 6, 7, 8, 9, 10, 11, 12, 13, 14, 15, 16, 17, 18, 19, 20, 21, 22, 23, 24, 25, 26, 27, 28, 29, 30, 31, 32, 33, 34, 35, 36, 37, 38, 39, 40, 41, 42, 43, 44, 45], [(0, [1, 2, 3, 11, 12, 13, 14, 32, 35, 44, 45]), (1, [2, 3, 11, 12, 13, 14, 32, 35, 44, 45]), (2, [3, 11, 12, 13, 14, 32, 35, 44, 45]), (3, [11, 12, 13, 14, 32, 35, 44, 45]), (4, [10, 11, 12, 13, 14, 32, 35, 44, 45]), (5, [6, 7, 8, 9, 10, 11, 12, 13, 14, 32, 35, 44, 45]), (6, [7, 8, 9, 10, 11, 12, 13, 14, 32, 35, 44, 45]), (7, [8, 9, 10, 11, 12, 13, 14, 32, 35, 44, 45]), (8, [9, 10, 11, 12, 13, 14, 32, 35, 44, 45]), (9, [10, 11, 12, 13, 14, 32, 35, 44, 45]), (10, [11, 12, 13, 14, 32, 35, 44, 45]), (11, [12, 13, 14, 32, 35, 44, 45]), (12, [13, 14, 32, 35, 44, 45]), (13, [14, 32, 35, 44, 45]), (14, [32, 35, 44, 45]), (15, [16, 17, 18, 28, 29, 30, 31, 32, 35, 44, 45]), (16, [17, 18, 28, 29, 30, 31, 32, 35, 44, 45]), (17, [18, 28, 29, 30, 31, 32, 35, 44, 45]), (18, [28, 29, 30, 31, 32, 35, 44, 45]), (19, [20, 21, 27, 28, 29, 30, 31, 32, 35, 44, 45]), (20, [21, 27, 28, 29, 30, 31, 32, 35, 44, 45]), (21, [27, 28, 29, 30, 31, 32, 35, 44, 45]), (22, [23, 24, 25, 26, 27, 28, 29, 30, 31, 32, 35, 44, 45]), (23, [24, 25, 26, 27, 28, 29, 30, 31, 32, 35, 44, 45]), (24, [25, 26, 27, 28, 29, 30, 31, 32, 35, 44, 45]), (25, [26, 27, 28, 29, 30, 31, 32, 35, 44, 45]), (26, [27, 28, 29, 30, 31, 32, 35, 44, 45]), (27, [28, 29, 30, 31, 32, 35, 44, 45]), (28, [29, 30, 31, 32, 35, 44, 45]), (29, [30, 31, 32, 35, 44, 45]), (30, [31, 32, 35, 44, 45]), (31, [32, 35, 44, 45]), (32, [35, 44, 45]), (33, [34, 35, 44, 45]), (34, [35, 44, 45]), (35, [44, 45]), (36, [42, 43, 44, 45]), (37, [38, 39, 40, 41, 42, 43, 44, 45]), (38, [39, 40, 41, 42, 43, 44, 45]), (39, [40, 41, 42, 43, 44, 45]), (40, [41, 42, 43, 44, 45]), (41, [42, 43, 44, 45]), (42, [43, 44, 45]), (43, [44, 45]), (44, [45])])], loops := [], cuts := [(12292, [])] }
theorem k_spec_l12Rd_pick (v0 v1 : Value) (w : World) (R : Value → World → Prop) : vc PP A_spec_l12Rd_pick ((Tryz.f61.body).getD .skip) (retF PP Tryz.f61.results.toList R) (nthV [v0, v1]) w = F_spec_l12Rd_pick PP v0 v1 w R := by kernel_rfl
theorem c_spec_l12Rd_pick {v0 v1 : Value} {w : World} {R : Value → World → Prop} (h : F_spec_l12Rd_pick PP v0 v1 w R) : vcall PP n_spec_l12Rd_pick #[v0, v1] w R :=
  call_of_vc (T := A_spec_l12Rd_pick) (c := (Tryz.f61.body).getD .skip) (n := 99) mixed Tryz.func61 rfl rfl (by kernel_rfl) (by kernel_rfl) rfl (by rw [k_spec_l12Rd_pick]; exact h)

/-- spec.l4Draw -/
def F_spec_l4Draw (P : Program) (v0 v1 v2 : Value) (w : World) (R : Value → World → Prop) : Prop :=
  vbuildS P T_Lint 0 [] w fun t9 w_1 =>
  vloop [t9, (.int .i64 1)] w_1 fun C u _ w_2 =>
    vbin P .leq T_int false (sl 1 u) v1 w_2 fun t12 w_3 =>
    vif t12 (
      vcall P n_spec_l12Rd_pick #[v0, v1] w_3 fun t17 w_4 =>
      vbin P .lss T_int false t17 v2 w_4 fun t19 w_5 =>
      vif t19 (
        vcall P n_spec_l12Rd_pick #[v0, (.int .i64 2)] w_5 fun t21 w_6 =>
        vbin P .eql T_int true t21 (.int .i64 0) w_6 fun t22 w_7 =>
        vif t22 (
          vbuildS P T_Lint 1 [(0, (sl 1 u))] w_7 fun t25 w_8 =>
          vbi P .append [T_Lint, T_Lint] T_Lint [(sl 0 u), t25] w_8 fun t26 w_9 =>
          vbin P .add T_int true (sl 1 u) (.int .i64 1) w_9 fun t14 w_10 =>
          C [t26, t14] w_10) (
          vun P .neg (sl 1 u) w_7 fun t29 w_11 =>
          vbuildS P T_Lint 1 [(0, t29)] w_11 fun t30 w_12 =>
          vbi P .append [T_Lint, T_Lint] T_Lint [(sl 0 u), t30] w_12 fun t31 w_13 =>
          vbin P .add T_int true (sl 1 u) (.int .i64 1) w_13 fun t14_1 w_14 =>
          C [t31, t14_1] w_14)) (
        vbin P .add T_int true (sl 1 u) (.int .i64 1) w_5 fun t14_2 w_15 =>
        C [(sl 0 u), t14_2] w_15)) (
      R (sl 0 u) w_3)
def A_spec_l4Draw : Ann := { ord := [], loops := [(3, [7, 8])], cuts := [] }
theorem k_spec_l4Draw (v0 v1 v2 : Value) (w : World) (R : Value → World → Prop) : vc PP A_spec_l4Draw ((Tryz.f62.body).getD .skip) (retF PP Tryz.f62.results.toList R) (nthV [v0, v1, v2]) w = F_spec_l4Draw PP v0 v1 v2 w R := by kernel_rfl
theorem c_spec_l4Draw {v0 v1 v2 : Value} {w : World} {R : Value → World → Prop} (h : F_spec_l4Draw PP v0 v1 v2 w R) : vcall PP n_spec_l4Draw #[v0, v1, v2] w R :=
  call_of_vc (T := A_spec_l4Draw) (c := (Tryz.f62.body).getD .skip) (n := 33) mixed Tryz.func62 rfl rfl (by kernel_rfl) (by kernel_rfl) rfl (by rw [k_spec_l4Draw]; exact h)

/-- slices.ContainsFunc[[][]int,[]int] -/
def F_slices_ContainsFunc_LLint_Lint (P : Program) (v0 v1 : Value) (w : World) (R : Value → World → Prop) : Prop :=
  vcall P n_slices_IndexFunc_LLint_Lint #[v0, v1] w fun t7 w_1 =>
  vbin P .geq T_int true t7 (.int .i64 0) w_1 fun t8 w_2 =>
  R t8 w_2
def A_slices_ContainsFunc_LLint_Lint : Ann := { ord := [], loops := [], cuts := [] }
theorem k_slices_ContainsFunc_LLint_Lint (v0 v1 : Value) (w : World) (R : Value → World → Prop) : vc PP A_slices_ContainsFunc_LLint_Lint ((Tryz.f63.body).getD .skip) (retF PP Tryz.f63.results.toList R) (nthV [v0, v1]) w = F_slices_ContainsFunc_LLint_Lint PP v0 v1 w R := by kernel_rfl
theorem c_slices_ContainsFunc_LLint_Lint {v0 v1 : Value} {w : World} {R : Value → World → Prop} (h : F_slices_ContainsFunc_LLint_Lint PP v0 v1 w R) : vcall PP n_slices_ContainsFunc_LLint_Lint #[v0, v1] w R :=
  call_of_vc (T := A_slices_ContainsFunc_LLint_Lint) (c := (Tryz.f63.body).getD .skip) (n := 9) mixed Tryz.func63 rfl rfl (by kernel_rfl) (by kernel_rfl) rfl (by rw [k_slices_ContainsFunc_LLint_Lint]; exact h)

/-- impl.CnfOk$1 -/
def F_impl_CnfOk_1 (P : Program) (v0 v1 : Value) (w : World) (R : Value → World → Prop) : Prop :=
  vfaddr P T_impl_Cnf v1 0 w fun t5 w_1 =>
  vload P T_int t5 w_1 fun t6 w_2 =>
  vcall P n_impl_clauseOk #[v0, t6] w_2 fun t7 w_3 =>
  vun P .not t7 w_3 fun t8 w_4 =>
  R t8 w_4
def A_impl_CnfOk_1 : Ann := { ord := [], loops := [], cuts := [] }
theorem k_impl_CnfOk_1 (v0 v1 : Value) (w : World) (R : Value → World → Prop) : vc PP A_impl_CnfOk_1 ((Tryz.f64.body).getD .skip) (retF PP Tryz.f64.results.toList R) (nthV [v0, v1]) w = F_impl_CnfOk_1 PP v0 v1 w R := by kernel_rfl
theorem c_impl_CnfOk_1 {v0 v1 : Value} {w : World} {R : Value → World → Prop} (h : F_impl_CnfOk_1 PP v0 v1 w R) : vcall PP n_impl_CnfOk_1 #[v0, v1] w R :=
  call_of_vc (T := A_impl_CnfOk_1) (c := (Tryz.f64.body).getD .skip) (n := 9) mixed Tryz.func64 rfl rfl (by kernel_rfl) (by kernel_rfl) rfl (by rw [k_impl_CnfOk_1]; exact h)

/-- impl.clauseOk -/
def F_impl_clauseOk (P : Program) (v0 v1 : Value) (w : World) (R : Value → World → Prop) : Prop :=
  vbi P .len [T_Lint] T_int [v0] w fun t8 w_1 =>
  vloop [(.int .i64 0)] w_1 fun C u _ w_2 =>
    vbin P .lss T_int false (sl 0 u) t8 w_2 fun t10 w_3 =>
    vif t10 (
      viaddr P T_Lint v0 (sl 0 u) w_3 fun t12 w_4 =>
      vload P T_int t12 w_4 fun t13 w_5 =>
      vcall P n_impl_literal_of #[t13, v1] w_5 fun t16 w_6 =>
      vun P .not t16 w_6 fun t17 w_7 =>
      vif t17 (
        R (.bool false) w_7) (
        vbin P .gtr T_int true (sl 0 u) (.int .i64 0) w_7 fun t20 w_8 =>
        vif t20 (
          vbin P .sub T_int true (sl 0 u) (.int .i64 1) w_8 fun t24 w_9 =>
          viaddr P T_Lint v0 t24 w_9 fun t25 w_10 =>
          vload P T_int t25 w_10 fun t26 w_11 =>
          vcall P n_impl_literal_variable #[t26] w_11 fun t27 w_12 =>
          vcall P n_impl_literal_variable #[t13] w_12 fun t29 w_13 =>
          vbin P .geq T_int false t27 t29 w_13 fun t30 w_14 =>
          vif t30 (
            R (.bool false) w_14) (
            vbin P .add T_int true (sl 0 u) (.int .i64 1) w_14 fun t33 w_15 =>
            C [t33] w_15)) (
          vbin P .add T_int true (sl 0 u) (.int .i64 1) w_8 fun t33_1 w_16 =>
          C [t33_1] w_16))) (
      R (.bool true) w_3)
def A_impl_clauseOk : Ann := { ord := [], loops := [(2, [9])], cuts := [] }
theorem k_impl_clauseOk (v0 v1 : Value) (w : World) (R : Value → World → Prop) : vc PP A_impl_clauseOk ((Tryz.f65.body).getD .skip) (retF PP Tryz.f65.results.toList R) (nthV [v0, v1]) w = F_impl_clauseOk PP v0 v1 w R := by kernel_rfl
theorem c_impl_clauseOk {v0 v1 : Value} {w : World} {R : Value → World → Prop} (h : F_impl_clauseOk PP v0 v1 w R) : vcall PP n_impl_clauseOk #[v0, v1] w R :=
  call_of_vc (T := A_impl_clauseOk) (c := (Tryz.f65.body).getD .skip) (n := 34) mixed Tryz.func65 rfl rfl (by kernel_rfl) (by kernel_rfl) rfl (by rw [k_impl_clauseOk]; exact h)

/-- impl.newTrail -/
def F_impl_newTrail (P : Program) (v0 : Value) (w : World) (R : Value → World → Prop) : Prop :=
  vbin P .add T_int true v0 (.int .i64 1) w fun t4 w_1 =>
  vmkS P T_Lint t4 t4 w_1 fun t5 w_2 =>
  vbuild P T_impl_trail [(1, t5)] w_2 fun t6 w_3 =>
  vbox P T_impl_trail t6 w_3 fun t7 w_4 =>
  R t7 w_4
def A_impl_newTrail : Ann := { ord := [], loops := [], cuts := [] }
theorem k_impl_newTrail (v0 : Value) (w : World) (R : Value → World → Prop) : vc PP A_impl_newTrail ((Tryz.f66.body).getD .skip) (retF PP Tryz.f66.results.toList R) (nthV [v0]) w = F_impl_newTrail PP v0 w R := by kernel_rfl
theorem c_impl_newTrail {v0 : Value} {w : World} {R : Value → World → Prop} (h : F_impl_newTrail PP v0 w R) : vcall PP n_impl_newTrail #[v0] w R :=
  call_of_vc (T := A_impl_newTrail) (c := (Tryz.f66.body).getD .skip) (n := 8) mixed Tryz.func66 rfl rfl (by kernel_rfl) (by kernel_rfl) rfl (by rw [k_impl_newTrail]; exact h)

/-- slices.Clone[[]int,int] -/
def F_slices_Clone_Lint_int (P : Program) (v0 : Value) (w : World) (R : Value → World → Prop) : Prop :=
  vbin P .eql T_Lint true v0 (.slice none 0 0) w fun t4 w_1 =>
  vif t4 (
    R (.slice none 0 0) w_1) (
    vbuildS P T_Lint 0 [] w_1 fun t5 w_2 =>
    vbi P .append [T_Lint, T_Lint] T_Lint [t5, v0] w_2 fun t7 w_3 =>
    R t7 w_3)
def A_slices_Clone_Lint_int : Ann := { ord := [], loops := [], cuts := [] }
theorem k_slices_Clone_Lint_int (v0 : Value) (w : World) (R : Value → World → Prop) : vc PP A_slices_Clone_Lint_int ((Tryz.f67.body).getD .skip) (retF PP Tryz.f67.results.toList R) (nthV [v0]) w = F_slices_Clone_Lint_int PP v0 w R := by kernel_rfl
theorem c_slices_Clone_Lint_int {v0 : Value} {w : World} {R : Value → World → Prop} (h : F_slices_Clone_Lint_int PP v0 w R) : vcall PP n_slices_Clone_Lint_int #[v0] w R :=
  call_of_vc (T := A_slices_Clone_Lint_int) (c := (Tryz.f67.body).getD .skip) (n := 8) mixed Tryz.func67 rfl rfl (by kernel_rfl) (by kernel_rfl) rfl (by rw [k_slices_Clone_Lint_int]; exact h)

/-- slices.EqualFunc[[][]int,[][]int,[]int,[]int] -/
def F_slices_EqualFunc_LLint_LLint_Lint_Lint (P : Program) (v0 v1 v2 : Value) (w : World) (R : Value → World → Prop) : Prop :=
  vbi P .len [T_LLint] T_int [v0] w fun t11 w_1 =>
  vbi P .len [T_LLint] T_int [v1] w_1 fun t13 w_2 =>
  vbin P .neq T_int false t11 t13 w_2 fun t14 w_3 =>
  vif t14 (
    R (.bool false) w_3) (
    vbi P .len [T_LLint] T_int [v0] w_3 fun t16 w_4 =>
    vloop [(.int .i64 0)] w_4 fun C u _ w_5 =>
      vbin P .lss T_int false (sl 0 u) t16 w_5 fun t18 w_6 =>
      vif t18 (
        viaddr P T_LLint v0 (sl 0 u) w_6 fun t20 w_7 =>
        vload P T_Lint t20 w_7 fun t21 w_8 =>
        viaddr P T_LLint v1 (sl 0 u) w_8 fun t24 w_9 =>
        vload P T_Lint t24 w_9 fun t25 w_10 =>
        vcallv P v2 #[t21, t25] w_10 fun t29 w_11 =>
        vun P .not t29 w_11 fun t30 w_12 =>
        vif t30 (
          R (.bool false) w_12) (
          vbin P .add T_int true (sl 0 u) (.int .i64 1) w_12 fun t31 w_13 =>
          C [t31] w_13)) (
        R (.bool true) w_6))
def A_slices_EqualFunc_LLint_LLint_Lint_Lint : Ann := { ord := [], loops := [(4, [17])], cuts := [] }
theorem k_slices_EqualFunc_LLint_LLint_Lint_Lint (v0 v1 v2 : Value) (w : World) (R : Value → World → Prop) : vc PP A_slices_EqualFunc_LLint_LLint_Lint_Lint ((Tryz.f68.body).getD .skip) (retF PP Tryz.f68.results.toList R) (nthV [v0, v1, v2]) w = F_slices_EqualFunc_LLint_LLint_Lint_Lint PP v0 v1 v2 w R := by kernel_rfl
theorem c_slices_EqualFunc_LLint_LLint_Lint_Lint {v0 v1 v2 : Value} {w : World} {R : Value → World → Prop} (h : F_slices_EqualFunc_LLint_LLint_Lint_Lint PP v0 v1 v2 w R) : vcall PP n_slices_EqualFunc_LLint_LLint_Lint_Lint #[v0, v1, v2] w R :=
  call_of_vc (T := A_slices_EqualFunc_LLint_LLint_Lint_Lint) (c := (Tryz.f68.body).getD .skip) (n := 32) mixed Tryz.func68 rfl rfl (by kernel_rfl) (by kernel_rfl) rfl (by rw [k_slices_EqualFunc_LLint_LLint_Lint_Lint]; exact h)

/-- impl.holdsAll$1 -/
def F_impl_holdsAll_1 (P : Program) (v0 v1 : Value) (w : World) (R : Value → World → Prop) : Prop :=
  vload P T_Lbool v1 w fun t5 w_1 =>
  vcall P n_impl_ClauseHas #[v0, t5] w_1 fun t6 w_2 =>
  vun P .not t6 w_2 fun t7 w_3 =>
  R t7 w_3
def A_impl_holdsAll_1 : Ann := { ord := [], loops := [], cuts := [] }
theorem k_impl_holdsAll_1 (v0 v1 : Value) (w : World) (R : Value → World → Prop) : vc PP A_impl_holdsAll_1 ((Tryz.f69.body).getD .skip) (retF PP Tryz.f69.results.toList R) (nthV [v0, v1]) w = F_impl_holdsAll_1 PP v0 v1 w R := by kernel_rfl
theorem c_impl_holdsAll_1 {v0 v1 : Value} {w : World} {R : Value → World → Prop} (h : F_impl_holdsAll_1 PP v0 v1 w R) : vcall PP n_impl_holdsAll_1 #[v0, v1] w R :=
  call_of_vc (T := A_impl_holdsAll_1) (c := (Tryz.f69.body).getD .skip) (n := 8) mixed Tryz.func69 rfl rfl (by kernel_rfl) (by kernel_rfl) rfl (by rw [k_impl_holdsAll_1]; exact h)

/-- impl.ClauseHas -/
def F_impl_ClauseHas (P : Program) (v0 v1 : Value) (w : World) (R : Value → World → Prop) : Prop :=
  vbox P T_Lbool v1 w fun t3 w_1 =>
  vmkF P (.func n_impl_ClauseHas_1) [] [t3] w_1 fun t6 w_2 =>
  vcall P n_slices_ContainsFunc_Lint_int #[v0, t6] w_2 fun t7 w_3 =>
  R t7 w_3
def A_impl_ClauseHas : Ann := { ord := [], loops := [], cuts := [] }
theorem k_impl_ClauseHas (v0 v1 : Value) (w : World) (R : Value → World → Prop) : vc PP A_impl_ClauseHas ((Tryz.f70.body).getD .skip) (retF PP Tryz.f70.results.toList R) (nthV [v0, v1]) w = F_impl_ClauseHas PP v0 v1 w R := by kernel_rfl
theorem c_impl_ClauseHas {v0 v1 : Value} {w : World} {R : Value → World → Prop} (h : F_impl_ClauseHas PP v0 v1 w R) : vcall PP n_impl_ClauseHas #[v0, v1] w R :=
  call_of_vc (T := A_impl_ClauseHas) (c := (Tryz.f70.body).getD .skip) (n := 8) mixed Tryz.func70 rfl rfl (by kernel_rfl) (by kernel_rfl) rfl (by rw [k_impl_ClauseHas]; exact h)

/-- impl.readSat$1 -/
def F_impl_readSat_1 (P : Program) (v0 v1 : Value) (w : World) (R : Value → World → Prop) : Prop :=
  vfaddr P T_impl_Cnf v1 0 w fun t5 w_1 =>
  vload P T_int t5 w_1 fun t6 w_2 =>
  vcall P n_impl_clauseOk #[v0, t6] w_2 fun t7 w_3 =>
  vun P .not t7 w_3 fun t8 w_4 =>
  R t8 w_4
def A_impl_readSat_1 : Ann := { ord := [], loops := [], cuts := [] }
theorem k_impl_readSat_1 (v0 v1 : Value) (w : World) (R : Value → World → Prop) : vc PP A_impl_readSat_1 ((Tryz.f71.body).getD .skip) (retF PP Tryz.f71.results.toList R) (nthV [v0, v1]) w = F_impl_readSat_1 PP v0 v1 w R := by kernel_rfl
theorem c_impl_readSat_1 {v0 v1 : Value} {w : World} {R : Value → World → Prop} (h : F_impl_readSat_1 PP v0 v1 w R) : vcall PP n_impl_readSat_1 #[v0, v1] w R :=
  call_of_vc (T := A_impl_readSat_1) (c := (Tryz.f71.body).getD .skip) (n := 9) mixed Tryz.func71 rfl rfl (by kernel_rfl) (by kernel_rfl) rfl (by rw [k_impl_readSat_1]; exact h)

/-- impl.trailOk -/
def F_impl_trailOk (P : Program) (v0 v1 v2 : Value) (w : World) (R : Value → World → Prop) : Prop :=
  vcall P n_impl_newTrail #[v0] w fun t12 w_1 =>
  vbi P .len [T_Lint] T_int [v1] w_1 fun t14 w_2 =>
  vloop [(.int .i64 0)] w_2 fun C u _ w_3 =>
    vbin P .lss T_int false (sl 0 u) t14 w_3 fun t16 w_4 =>
    vif t16 (
      viaddr P T_Lint v1 (sl 0 u) w_4 fun t18 w_5 =>
      vload P T_int t18 w_5 fun t19 w_6 =>
      vcall P n_impl_literal_of #[t19, v0] w_6 fun t22 w_7 =>
      vun P .not t22 w_7 fun t23 w_8 =>
      vif t23 (
        R (.tuple #[(.pointer none), (.bool false)]) w_8) (
        vcall P n_impl_trail_assigned #[t12, t19] w_8 fun t27 w_9 =>
        vif t27 (
          R (.tuple #[(.pointer none), (.bool false)]) w_9) (
          vcallv P v2 #[(sl 0 u)] w_9 fun t33 w_10 =>
          vcall P n_impl_trail_push #[t12, t19, t33] w_10 fun _ w_11 =>
          vbin P .add T_int true (sl 0 u) (.int .i64 1) w_11 fun t35 w_12 =>
          C [t35] w_12))) (
      R (.tuple #[t12, (.bool true)]) w_4)
def A_impl_trailOk : Ann := { ord := [], loops := [(3, [15])], cuts := [] }
theorem k_impl_trailOk (v0 v1 v2 : Value) (w : World) (R : Value → World → Prop) : vc PP A_impl_trailOk ((Tryz.f72.body).getD .skip) (retF PP Tryz.f72.results.toList R) (nthV [v0, v1, v2]) w = F_impl_trailOk PP v0 v1 v2 w R := by kernel_rfl
theorem c_impl_trailOk {v0 v1 v2 : Value} {w : World} {R : Value → World → Prop} (h : F_impl_trailOk PP v0 v1 v2 w R) : vcall PP n_impl_trailOk #[v0, v1, v2] w R :=
  call_of_vc (T := A_impl_trailOk) (c := (Tryz.f72.body).getD .skip) (n := 37) mixed Tryz.func72 rfl rfl (by kernel_rfl) (by kernel_rfl) rfl (by rw [k_impl_trailOk]; exact h)

/-- impl.readSat$2 -/
def F_impl_readSat_2 (P : Program) (v0 v1 : Value) (w : World) (R : Value → World → Prop) : Prop :=
  vfaddr P T_impl_Sat v1 1 w fun t4 w_1 =>
  vload P T_Lint t4 w_1 fun t5 w_2 =>
  viaddr P T_Lint t5 v0 w_2 fun t7 w_3 =>
  vload P T_int t7 w_3 fun t8 w_4 =>
  vbin P .eql T_int true t8 (.int .i64 (-1)) w_4 fun t9 w_5 =>
  R t9 w_5
def A_impl_readSat_2 : Ann := { ord := [], loops := [], cuts := [] }
theorem k_impl_readSat_2 (v0 v1 : Value) (w : World) (R : Value → World → Prop) : vc PP A_impl_readSat_2 ((Tryz.f73.body).getD .skip) (retF PP Tryz.f73.results.toList R) (nthV [v0, v1]) w = F_impl_readSat_2 PP v0 v1 w R := by kernel_rfl
theorem c_impl_readSat_2 {v0 v1 : Value} {w : World} {R : Value → World → Prop} (h : F_impl_readSat_2 PP v0 v1 w R) : vcall PP n_impl_readSat_2 #[v0, v1] w R :=
  call_of_vc (T := A_impl_readSat_2) (c := (Tryz.f73.body).getD .skip) (n := 10) mixed Tryz.func73 rfl rfl (by kernel_rfl) (by kernel_rfl) rfl (by rw [k_impl_readSat_2]; exact h)

end Go.Proofs.YtpihgpfebhegmaaGreat
