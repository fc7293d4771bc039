import Derived.Test.YtpihgpfebhegmaaGreatNm
set_option linter.unusedVariables false
set_option linter.unusedSimpArgs false
set_option linter.unnecessarySimpa false
set_option linter.unusedSectionVars false
namespace Go.Proofs.YtpihgpfebhegmaaGreat
open Go Go.Vc Go.Proofs
/-- spec.l5Top -/
def F_spec_l5Top (P : Program) (v0 v1 : Value) (w : World) (R : Value → World → Prop) : Prop :=
  vloop [(.int .i64 0), (.int .i64 0), (.int .i64 0)] w fun C u _ w_1 =>
    vbi P .len [T_Lint] T_int [v1] w_1 fun t12 w_2 =>
    vbin P .lss T_int false (sl 2 u) t12 w_2 fun t13 w_3 =>
    vif t13 (
      viaddr P T_Lint v1 (sl 2 u) w_3 fun t19 w_4 =>
      vload P T_int t19 w_4 fun t20 w_5 =>
      vcall P n_spec_l4Abs #[t20] w_5 fun t21 w_6 =>
      viaddr P T_Lint v0 t21 w_6 fun t22 w_7 =>
      vload P T_int t22 w_7 fun t23 w_8 =>
      vbin P .gtr T_int false t23 (sl 0 u) w_8 fun t26 w_9 =>
      vif t26 (
        vbin P .eql T_int false t23 t23 w_9 fun t30 w_10 =>
        vif t30 (
          vbin P .add T_int true (.int .i64 0) (.int .i64 1) w_10 fun t32 w_11 =>
          vbin P .add T_int true (sl 2 u) (.int .i64 1) w_11 fun t15 w_12 =>
          C [t23, t32, t15] w_12) (
          vbin P .add T_int true (sl 2 u) (.int .i64 1) w_10 fun t15_1 w_13 =>
          C [t23, (.int .i64 0), t15_1] w_13)) (
        vbin P .eql T_int false t23 (sl 0 u) w_9 fun t30_1 w_14 =>
        vif t30_1 (
          vbin P .add T_int true (sl 1 u) (.int .i64 1) w_14 fun t32_1 w_15 =>
          vbin P .add T_int true (sl 2 u) (.int .i64 1) w_15 fun t15_2 w_16 =>
          C [(sl 0 u), t32_1, t15_2] w_16) (
          vbin P .add T_int true (sl 2 u) (.int .i64 1) w_14 fun t15_3 w_17 =>
          C [(sl 0 u), (sl 1 u), t15_3] w_17))) (
      R (.tuple #[(sl 0 u), (sl 1 u)]) w_3)
def A_spec_l5Top : Ann := { ord := [], loops := [(4, [6, 7, 8])], cuts := [] }
theorem k_spec_l5Top (v0 v1 : Value) (w : World) (R : Value → World → Prop) : vc PP A_spec_l5Top ((Tryz.f106.body).getD .skip) (retF PP Tryz.f106.results.toList R) (nthV [v0, v1]) w = F_spec_l5Top PP v0 v1 w R := by kernel_rfl
theorem c_spec_l5Top {v0 v1 : Value} {w : World} {R : Value → World → Prop} (h : F_spec_l5Top PP v0 v1 w R) : vcall PP n_spec_l5Top #[v0, v1] w R :=
  call_of_vc (T := A_spec_l5Top) (c := (Tryz.f106.body).getD .skip) (n := 35) mixed Tryz.func106 rfl rfl (by kernel_rfl) (by kernel_rfl) rfl (by rw [k_spec_l5Top]; exact h)

/-- spec.l5Learn -/
def F_spec_l5Learn (P : Program) (v0 v1 v2 v3 : Value) (w : World) (R : Value → World → Prop) : Prop :=
  vbox P T_impl_Cnf v0 w fun t4 w_1 =>
  vbox P T_impl_Sat v1 w_1 fun t5 w_2 =>
  vcall P n_spec_l5Top #[v2, v3] w_2 fun t15 w_3 =>
  vextract P t15 0 w_3 fun _ w_4 =>
  vextract P t15 1 w_4 fun t17 w_5 =>
  vloop [v3, t17] w_5 fun C u _ w_6 =>
    vbin P .gtr T_int true (sl 1 u) (.int .i64 1) w_6 fun t19 w_7 =>
    vif t19 (
      vload P T_impl_Sat t5 w_7 fun t20 w_8 =>
      vcall P n_spec_l5Last #[t20, (sl 0 u)] w_8 fun t22 w_9 =>
      vdraw w_9 fun w_10 =>
      vfaddr P T_impl_Cnf t4 0 w_10 fun t23 w_11 => w_11 = w_10 ∧
      vload P T_int t23 w_10 fun t24 w_12 => w_12 = w_10 ∧
      vload P T_impl_Cnf t4 w_10 fun t26 w_13 => w_13 = w_10 ∧
      vload P T_impl_Sat t5 w_10 fun t27 w_14 => w_14 = w_10 ∧
      vfaddr P T_impl_Sat t5 1 w_10 fun t28 w_15 => w_15 = w_10 ∧
      vload P T_Lint t28 w_10 fun t29 w_16 => w_16 = w_10 ∧
      viaddr P T_Lint t29 t22 w_10 fun t31 w_17 => w_17 = w_10 ∧
      vload P T_int t31 w_10 fun t32 w_18 => w_18 = w_10 ∧
      vfaddr P T_impl_Sat t5 0 w_10 fun t34 w_19 => w_19 = w_10 ∧
      vload P T_Lint t34 w_10 fun t35 w_20 => w_20 = w_10 ∧
      viaddr P T_Lint t35 t22 w_10 fun t37 w_21 => w_21 = w_10 ∧
      vload P T_int t37 w_10 fun t38 w_22 => w_22 = w_10 ∧
      vcall P n_spec_l5At #[t26, t27, t32] w_10 fun t33 w_23 => (vload P T_int t37 w_23 fun v x => v = t38 ∧ x = w_23) ∧ (viaddr P T_Lint t35 t22 w_23 fun v x => v = t37 ∧ x = w_23) ∧ (vload P T_Lint t34 w_23 fun v x => v = t35 ∧ x = w_23) ∧ (vfaddr P T_impl_Sat t5 0 w_23 fun v x => v = t34 ∧ x = w_23) ∧ (vload P T_int t23 w_23 fun v x => v = t24 ∧ x = w_23) ∧ (vfaddr P T_impl_Cnf t4 0 w_23 fun v x => v = t23 ∧ x = w_23) ∧
      vcall P n_spec_l4Abs #[t38] w_23 fun t39 w_24 => (vload P T_int t23 w_24 fun v x => v = t24 ∧ x = w_24) ∧ (vfaddr P T_impl_Cnf t4 0 w_24 fun v x => v = t23 ∧ x = w_24) ∧
      vcall P n_spec_l5Join #[t24, (sl 0 u), t33, t39] w_24 fun t40 w_25 =>
      vcall P n_spec_l5Top #[v2, t40] w_25 fun t44 w_26 =>
      vextract P t44 0 w_26 fun _ w_27 =>
      vextract P t44 1 w_27 fun t46 w_28 =>
      C [t40, t46] w_28) (
      R (sl 0 u) w_7)
def A_spec_l5Learn : Ann := { ord := [(4, [0, 1, 2, 3, 4, 5, 6, 7, 8, 9, 11, 12, 13, 14, 15, 10, 16, 17, 18], [(0, [1, 17, 18]), (1, [17, 18]), (2, [17, 18]), (3, [10, 16, 17, 18]), (4, [10, 16, 17, 18]), (5, [6, 8, 9, 10, 16, 17, 18]), (6, [8, 9, 10, 16, 17, 18]), (7, [8, 9, 10, 16, 17, 18]), (8, [9, 10, 16, 17, 18]), (9, [10, 16, 17, 18]), (11, [12, 14, 15, 16, 17, 18]), (12, [14, 15, 16, 17, 18]), (13, [14, 15, 16, 17, 18]), (14, [15, 16, 17, 18]), (15, [16, 17, 18]), (10, [16, 17, 18]), (16, [17, 18]), (17, [18])])], loops := [(2, [3, 10])], cuts := [] }
theorem k_spec_l5Learn (v0 v1 v2 v3 : Value) (w : World) (R : Value → World → Prop) : vc PP A_spec_l5Learn ((Tryz.f107.body).getD .skip) (retF PP Tryz.f107.results.toList R) (nthV [v0, v1, v2, v3]) w = F_spec_l5Learn PP v0 v1 v2 v3 w R := by kernel_rfl
theorem c_spec_l5Learn {v0 v1 v2 v3 : Value} {w : World} {R : Value → World → Prop} (h : F_spec_l5Learn PP v0 v1 v2 v3 w R) : vcall PP n_spec_l5Learn #[v0, v1, v2, v3] w R :=
  call_of_vc (T := A_spec_l5Learn) (c := (Tryz.f107.body).getD .skip) (n := 48) mixed Tryz.func107 rfl rfl (by kernel_rfl) (by kernel_rfl) rfl (by rw [k_spec_l5Learn]; exact h)

/-- spec.l5Back -/
def F_spec_l5Back (P : Program) (v0 v1 : Value) (w : World) (R : Value → World → Prop) : Prop :=
  vbox P T_impl_Sat v0 w fun t2 w_1 =>
  valloc P T_impl_Sat w_1 fun t4 w_2 =>
  vjoin (fun J =>
    vloop [(.int .i64 0), (.int .i64 0)] w_2 fun C u_1 _ w_4 =>
      vfaddr P T_impl_Sat t2 0 w_4 fun t8 w_5 =>
      vload P T_Lint t8 w_5 fun t9 w_6 =>
      vbi P .len [T_Lint] T_int [t9] w_6 fun t10 w_7 =>
      vbin P .lss T_int false (sl 0 u_1) t10 w_7 fun t11 w_8 =>
      vif t11 (
        vfaddr P T_impl_Sat t2 1 w_8 fun t12 w_9 =>
        vload P T_Lint t12 w_9 fun t13 w_10 =>
        viaddr P T_Lint t13 (sl 0 u_1) w_10 fun t15 w_11 =>
        vload P T_int t15 w_11 fun t16 w_12 =>
        vbin P .lss T_int true t16 (.int .i64 0) w_12 fun t17 w_13 =>
        vif t17 (
          vbin P .add T_int true (sl 1 u_1) (.int .i64 1) w_13 fun t19 w_14 =>
          vbin P .gtr T_int false t19 v1 w_14 fun t22 w_15 =>
          vif t22 (
            J [(sl 0 u_1)] w_15) (
            vbin P .add T_int true (sl 0 u_1) (.int .i64 1) w_15 fun t24 w_16 =>
            C [t24, t19] w_16)) (
          vbin P .gtr T_int false (sl 1 u_1) v1 w_13 fun t22_1 w_17 =>
          vif t22_1 (
            J [(sl 0 u_1)] w_17) (
            vbin P .add T_int true (sl 0 u_1) (.int .i64 1) w_17 fun t24_1 w_18 =>
            C [t24_1, (sl 1 u_1)] w_18))) (
        J [(sl 0 u_1)] w_8)) (fun u _ w_3 =>
    vbuildS P T_Lint 0 [] w_3 fun t25 w_19 =>
    vfaddr P T_impl_Sat t2 0 w_19 fun t26 w_20 =>
    vload P T_Lint t26 w_20 fun t27 w_21 =>
    vslice P T_Lint t27 none (some (sl 0 u)) none w_21 fun t29 w_22 =>
    vbi P .append [T_Lint, T_Lint] T_Lint [t25, t29] w_22 fun t30 w_23 =>
    vfaddr P T_impl_Sat t2 0 w_23 fun t31 w_24 =>
    vstore P T_Lint t31 t30 w_24 fun _ w_25 =>
    vbuildS P T_Lint 0 [] w_25 fun t32 w_26 =>
    vfaddr P T_impl_Sat t2 1 w_26 fun t33 w_27 =>
    vload P T_Lint t33 w_27 fun t34 w_28 =>
    vslice P T_Lint t34 none (some (sl 0 u)) none w_28 fun t36 w_29 =>
    vbi P .append [T_Lint, T_Lint] T_Lint [t32, t36] w_29 fun t37 w_30 =>
    vfaddr P T_impl_Sat t2 1 w_30 fun t38 w_31 =>
    vstore P T_Lint t38 t37 w_31 fun _ w_32 =>
    vload P T_impl_Sat t2 w_32 fun t39 w_33 =>
    vstore P T_impl_Sat t4 t39 w_33 fun _ w_34 =>
    vlv P T_impl_Sat t4 w_34 fun r4 w_35 =>
    R r4 w_35)
def A_spec_l5Back : Ann := { ord := [], loops := [(3, [5, 6])], cuts := [(16392, [5])] }
theorem k_spec_l5Back (v0 v1 : Value) (w : World) (R : Value → World → Prop) : vc PP A_spec_l5Back ((Tryz.f108.body).getD .skip) (retF PP Tryz.f108.results.toList R) (nthV [v0, v1]) w = F_spec_l5Back PP v0 v1 w R := by kernel_rfl
theorem c_spec_l5Back {v0 v1 : Value} {w : World} {R : Value → World → Prop} (h : F_spec_l5Back PP v0 v1 w R) : vcall PP n_spec_l5Back #[v0, v1] w R :=
  call_of_vc (T := A_spec_l5Back) (c := (Tryz.f108.body).getD .skip) (n := 40) mixed Tryz.func108 rfl rfl (by kernel_rfl) (by kernel_rfl) rfl (by rw [k_spec_l5Back]; exact h)

/-- spec.l5Below -/
def F_spec_l5Below (P : Program) (v0 v1 v2 : Value) (w : World) (R : Value → World → Prop) : Prop :=
  vloop [(.int .i64 0), (.int .i64 0)] w fun C u _ w_1 =>
    vbi P .len [T_Lint] T_int [v1] w_1 fun t12 w_2 =>
    vbin P .lss T_int false (sl 1 u) t12 w_2 fun t13 w_3 =>
    vif t13 (
      viaddr P T_Lint v1 (sl 1 u) w_3 fun t19 w_4 =>
      vload P T_int t19 w_4 fun t20 w_5 =>
      vcall P n_spec_l4Abs #[t20] w_5 fun t21 w_6 =>
      viaddr P T_Lint v0 t21 w_6 fun t22 w_7 =>
      vload P T_int t22 w_7 fun t23 w_8 =>
      vbin P .lss T_int false t23 v2 w_8 fun t26 w_9 =>
      vif t26 (
        vcall P n_spec_l4Max #[(sl 0 u), t23] w_9 fun t29 w_10 =>
        vbin P .add T_int true (sl 1 u) (.int .i64 1) w_10 fun t15 w_11 =>
        C [t29, t15] w_11) (
        vbin P .add T_int true (sl 1 u) (.int .i64 1) w_9 fun t15_1 w_12 =>
        C [(sl 0 u), t15_1] w_12)) (
      R (sl 0 u) w_3)
def A_spec_l5Below : Ann := { ord := [], loops := [(3, [7, 8])], cuts := [] }
theorem k_spec_l5Below (v0 v1 v2 : Value) (w : World) (R : Value → World → Prop) : vc PP A_spec_l5Below ((Tryz.f109.body).getD .skip) (retF PP Tryz.f109.results.toList R) (nthV [v0, v1, v2]) w = F_spec_l5Below PP v0 v1 v2 w R := by kernel_rfl
theorem c_spec_l5Below {v0 v1 v2 : Value} {w : World} {R : Value → World → Prop} (h : F_spec_l5Below PP v0 v1 v2 w R) : vcall PP n_spec_l5Below #[v0, v1, v2] w R :=
  call_of_vc (T := A_spec_l5Below) (c := (Tryz.f109.body).getD .skip) (n := 31) mixed Tryz.func109 rfl rfl (by kernel_rfl) (by kernel_rfl) rfl (by rw [k_spec_l5Below]; exact h)

/-- spec.l5Sign -/
def F_spec_l5Sign (P : Program) (v0 v1 : Value) (w : World) (R : Value → World → Prop) : Prop :=
  vbin P .gtr T_int true v1 (.int .i64 0) w fun t6 w_1 =>
  vif t6 (
    viaddr P T_Lint v0 v1 w_1 fun t9 w_2 =>
    vload P T_int t9 w_2 fun t10 w_3 =>
    R t10 w_3) (
    vun P .neg v1 w_1 fun t13 w_4 =>
    viaddr P T_Lint v0 t13 w_4 fun t14 w_5 =>
    vload P T_int t14 w_5 fun t15 w_6 =>
    vun P .neg t15 w_6 fun t16 w_7 =>
    R t16 w_7)
def A_spec_l5Sign : Ann := { ord := [], loops := [], cuts := [] }
theorem k_spec_l5Sign (v0 v1 : Value) (w : World) (R : Value → World → Prop) : vc PP A_spec_l5Sign ((Tryz.f110.body).getD .skip) (retF PP Tryz.f110.results.toList R) (nthV [v0, v1]) w = F_spec_l5Sign PP v0 v1 w R := by kernel_rfl
theorem c_spec_l5Sign {v0 v1 : Value} {w : World} {R : Value → World → Prop} (h : F_spec_l5Sign PP v0 v1 w R) : vcall PP n_spec_l5Sign #[v0, v1] w R :=
  call_of_vc (T := A_spec_l5Sign) (c := (Tryz.f110.body).getD .skip) (n := 17) mixed Tryz.func110 rfl rfl (by kernel_rfl) (by kernel_rfl) rfl (by rw [k_spec_l5Sign]; exact h)

/-- slices.IndexFunc[[]int,int] -/
def F_slices_IndexFunc_Lint_int (P : Program) (v0 v1 : Value) (w : World) (R : Value → World → Prop) : Prop :=
  vbi P .len [T_Lint] T_int [v0] w fun t7 w_1 =>
  vloop [(.int .i64 0)] w_1 fun C u _ w_2 =>
    vbin P .lss T_int false (sl 0 u) t7 w_2 fun t9 w_3 =>
    vif t9 (
      viaddr P T_Lint v0 (sl 0 u) w_3 fun t14 w_4 =>
      vload P T_int t14 w_4 fun t15 w_5 =>
      vcallv P v1 #[t15] w_5 fun t16 w_6 =>
      vif t16 (
        R (sl 0 u) w_6) (
        vbin P .add T_int true (sl 0 u) (.int .i64 1) w_6 fun t18 w_7 =>
        C [t18] w_7)) (
      R (.int .i64 (-1)) w_3)
def A_slices_IndexFunc_Lint_int : Ann := { ord := [], loops := [(2, [8])], cuts := [] }
theorem k_slices_IndexFunc_Lint_int (v0 v1 : Value) (w : World) (R : Value → World → Prop) : vc PP A_slices_IndexFunc_Lint_int ((Tryz.f111.body).getD .skip) (retF PP Tryz.f111.results.toList R) (nthV [v0, v1]) w = F_slices_IndexFunc_Lint_int PP v0 v1 w R := by kernel_rfl
theorem c_slices_IndexFunc_Lint_int {v0 v1 : Value} {w : World} {R : Value → World → Prop} (h : F_slices_IndexFunc_Lint_int PP v0 v1 w R) : vcall PP n_slices_IndexFunc_Lint_int #[v0, v1] w R :=
  call_of_vc (T := A_slices_IndexFunc_Lint_int) (c := (Tryz.f111.body).getD .skip) (n := 19) mixed Tryz.func111 rfl rfl (by kernel_rfl) (by kernel_rfl) rfl (by rw [k_slices_IndexFunc_Lint_int]; exact h)

/-- slices.Index[[]int,int] -/
def F_slices_Index_Lint_int (P : Program) (v0 v1 : Value) (w : World) (R : Value → World → Prop) : Prop :=
  vbi P .len [T_Lint] T_int [v0] w fun t7 w_1 =>
  vloop [(.int .i64 0)] w_1 fun C u _ w_2 =>
    vbin P .lss T_int false (sl 0 u) t7 w_2 fun t9 w_3 =>
    vif t9 (
      viaddr P T_Lint v0 (sl 0 u) w_3 fun t14 w_4 =>
      vload P T_int t14 w_4 fun t15 w_5 =>
      vbin P .eql T_int false v1 t15 w_5 fun t16 w_6 =>
      vif t16 (
        R (sl 0 u) w_6) (
        vbin P .add T_int true (sl 0 u) (.int .i64 1) w_6 fun t18 w_7 =>
        C [t18] w_7)) (
      R (.int .i64 (-1)) w_3)
def A_slices_Index_Lint_int : Ann := { ord := [], loops := [(2, [8])], cuts := [] }
theorem k_slices_Index_Lint_int (v0 v1 : Value) (w : World) (R : Value → World → Prop) : vc PP A_slices_Index_Lint_int ((Tryz.f112.body).getD .skip) (retF PP Tryz.f112.results.toList R) (nthV [v0, v1]) w = F_slices_Index_Lint_int PP v0 v1 w R := by kernel_rfl
theorem c_slices_Index_Lint_int {v0 v1 : Value} {w : World} {R : Value → World → Prop} (h : F_slices_Index_Lint_int PP v0 v1 w R) : vcall PP n_slices_Index_Lint_int #[v0, v1] w R :=
  call_of_vc (T := A_slices_Index_Lint_int) (c := (Tryz.f112.body).getD .skip) (n := 19) mixed Tryz.func112 rfl rfl (by kernel_rfl) (by kernel_rfl) rfl (by rw [k_slices_Index_Lint_int]; exact h)

/-- (*impl.trail).greatest -/
def F_impl_trail_greatest (P : Program) (v0 v1 : Value) (w : World) (R : Value → World → Prop) : Prop :=
  vrange P T_impl_clauseBits v1 w fun t11 w_1 =>
  vloop [(.int .i64 0), (.slice none 0 0)] w_1 fun C u _ w_2 =>
    vnext P t11 false T_T_ w_2 fun t12 w_3 =>
    vextract P t12 0 w_3 fun t13 w_4 =>
    vif t13 (
      ventry P t11 w_4 fun t14 w_5 =>
      vextract P t14 0 w_5 fun t15 w_6 =>
      vcall P n_impl_trail_level #[v0, t15] w_6 fun t18 w_7 =>
      vbin P .gtr T_int false t18 (sl 0 u) w_7 fun t22 w_8 =>
      vif t22 (
        vbuildS P T_Lint 1 [(0, t15)] w_8 fun t25 w_9 =>
        C [t18, t25] w_9) (
        vbin P .eql T_int false t18 (sl 0 u) w_8 fun t29 w_10 =>
        vif t29 (
          vbuildS P T_Lint 1 [(0, t15)] w_10 fun t32 w_11 =>
          vbi P .append [T_Lint, T_Lint] T_Lint [(sl 1 u), t32] w_11 fun t33 w_12 =>
          C [(sl 0 u), t33] w_12) (
          C [(sl 0 u), (sl 1 u)] w_10))) (
      R (.tuple #[(sl 0 u), (sl 1 u)]) w_4)
def A_impl_trail_greatest : Ann := { ord := [], loops := [(4, [6, 7])], cuts := [] }
theorem k_impl_trail_greatest (v0 v1 : Value) (w : World) (R : Value → World → Prop) : vc PP A_impl_trail_greatest ((Tryz.f113.body).getD .skip) (retF PP Tryz.f113.results.toList R) (nthV [v0, v1]) w = F_impl_trail_greatest PP v0 v1 w R := by kernel_rfl
theorem c_impl_trail_greatest {v0 v1 : Value} {w : World} {R : Value → World → Prop} (h : F_impl_trail_greatest PP v0 v1 w R) : vcall PP n_impl_trail_greatest #[v0, v1] w R :=
  call_of_vc (T := A_impl_trail_greatest) (c := (Tryz.f113.body).getD .skip) (n := 36) mixed Tryz.func113 rfl rfl (by kernel_rfl) (by kernel_rfl) rfl (by rw [k_impl_trail_greatest]; exact h)

/-- slices.MaxFunc[[]int,int] -/
def F_slices_MaxFunc_Lint_int (P : Program) (v0 v1 : Value) (w : World) (R : Value → World → Prop) : Prop :=
  vjoin (fun J =>
    vbi P .len [T_Lint] T_int [v0] w fun t8 w_2 =>
    vbin P .lss T_int true t8 (.int .i64 1) w_2 fun t9 w_3 =>
    vif t9 (
      vmkI P T_string (.string { data := #[115, 108, 105, 99, 101, 115, 46, 77, 97, 120, 70, 117, 110, 99, 58, 32, 101, 109, 112, 116, 121, 32, 108, 105, 115, 116] }) w_3 fun _ _ =>
      False) (
      J [] w_3)) (fun _ _ w_1 =>
    viaddr P T_Lint v0 (.int .i64 0) w_1 fun t12 w_5 =>
    vload P T_int t12 w_5 fun t13 w_6 =>
    vloop [t13, (.int .i64 1)] w_6 fun C u_1 _ w_7 =>
      vbi P .len [T_Lint] T_int [v0] w_7 fun t16 w_8 =>
      vbin P .lss T_int false (sl 1 u_1) t16 w_8 fun t17 w_9 =>
      vif t17 (
        viaddr P T_Lint v0 (sl 1 u_1) w_9 fun t23 w_10 =>
        vload P T_int t23 w_10 fun t24 w_11 =>
        vcallv P v1 #[t24, (sl 0 u_1)] w_11 fun t26 w_12 =>
        vbin P .gtr T_int true t26 (.int .i64 0) w_12 fun t27 w_13 =>
        vif t27 (
          viaddr P T_Lint v0 (sl 1 u_1) w_13 fun t30 w_14 =>
          vload P T_int t30 w_14 fun t31 w_15 =>
          vbin P .add T_int true (sl 1 u_1) (.int .i64 1) w_15 fun t19 w_16 =>
          C [t31, t19] w_16) (
          vbin P .add T_int true (sl 1 u_1) (.int .i64 1) w_13 fun t19_1 w_17 =>
          C [(sl 0 u_1), t19_1] w_17)) (
        R (sl 0 u_1) w_9))
def A_slices_MaxFunc_Lint_int : Ann := { ord := [], loops := [(5, [5, 6])], cuts := [(8195, [])] }
theorem k_slices_MaxFunc_Lint_int (v0 v1 : Value) (w : World) (R : Value → World → Prop) : vc PP A_slices_MaxFunc_Lint_int ((Tryz.f114.body).getD .skip) (retF PP Tryz.f114.results.toList R) (nthV [v0, v1]) w = F_slices_MaxFunc_Lint_int PP v0 v1 w R := by kernel_rfl
theorem c_slices_MaxFunc_Lint_int {v0 v1 : Value} {w : World} {R : Value → World → Prop} (h : F_slices_MaxFunc_Lint_int PP v0 v1 w R) : vcall PP n_slices_MaxFunc_Lint_int #[v0, v1] w R :=
  call_of_vc (T := A_slices_MaxFunc_Lint_int) (c := (Tryz.f114.body).getD .skip) (n := 33) mixed Tryz.func114 rfl rfl (by kernel_rfl) (by kernel_rfl) rfl (by rw [k_slices_MaxFunc_Lint_int]; exact h)

/-- (*impl.search).learn$1 -/
def F_impl_search_learn_1 (P : Program) (v0 v1 v2 : Value) (w : World) (R : Value → World → Prop) : Prop :=
  vdraw w fun w_1 =>
  vload P T_P_impl_search v2 w_1 fun t6 w_2 => w_2 = w_1 ∧
  vnil P t6 w_1 fun t7 w_3 => w_3 = w_1 ∧
  vfaddr P T_impl_search t7 1 w_1 fun t8 w_4 => w_4 = w_1 ∧
  vload P T_P_impl_trail t8 w_1 fun t9 w_5 => w_5 = w_1 ∧
  vload P T_P_impl_search v2 w_1 fun t12 w_6 => w_6 = w_1 ∧
  vnil P t12 w_1 fun t13 w_7 => w_7 = w_1 ∧
  vfaddr P T_impl_search t13 1 w_1 fun t14 w_8 => w_8 = w_1 ∧
  vload P T_P_impl_trail t14 w_1 fun t15 w_9 => w_9 = w_1 ∧
  vcall P n_impl_trail_place #[t9, v0] w_1 fun t11 w_10 => (vload P T_P_impl_trail t14 w_10 fun v x => v = t15 ∧ x = w_10) ∧ (vfaddr P T_impl_search t13 1 w_10 fun v x => v = t14 ∧ x = w_10) ∧ (vnil P t12 w_10 fun v x => v = t13 ∧ x = w_10) ∧ (vload P T_P_impl_search v2 w_10 fun v x => v = t12 ∧ x = w_10) ∧
  vcall P n_impl_trail_place #[t15, v1] w_10 fun t17 w_11 =>
  vcall P n_cmp_Compare_int #[t11, t17] w_11 fun t18 w_12 =>
  R t18 w_12
def A_impl_search_learn_1 : Ann := { ord := [(1, [0, 1, 2, 3, 4, 6, 7, 8, 9, 10, 5, 11, 12, 13], [(0, [1, 2, 3, 5, 11, 12, 13]), (1, [2, 3, 5, 11, 12, 13]), (2, [3, 5, 11, 12, 13]), (3, [5, 11, 12, 13]), (4, [5, 11, 12, 13]), (6, [7, 8, 9, 11, 12, 13]), (7, [8, 9, 11, 12, 13]), (8, [9, 11, 12, 13]), (9, [11, 12, 13]), (10, [11, 12, 13]), (5, [11, 12, 13]), (11, [12, 13]), (12, [13])])], loops := [], cuts := [] }
theorem k_impl_search_learn_1 (v0 v1 v2 : Value) (w : World) (R : Value → World → Prop) : vc PP A_impl_search_learn_1 ((Tryz.f115.body).getD .skip) (retF PP Tryz.f115.results.toList R) (nthV [v0, v1, v2]) w = F_impl_search_learn_1 PP v0 v1 v2 w R := by kernel_rfl
theorem c_impl_search_learn_1 {v0 v1 v2 : Value} {w : World} {R : Value → World → Prop} (h : F_impl_search_learn_1 PP v0 v1 v2 w R) : vcall PP n_impl_search_learn_1 #[v0, v1, v2] w R :=
  call_of_vc (T := A_impl_search_learn_1) (c := (Tryz.f115.body).getD .skip) (n := 19) mixed Tryz.func115 rfl rfl (by kernel_rfl) (by kernel_rfl) rfl (by rw [k_impl_search_learn_1]; exact h)

/-- cmp.Compare[int] -/
def F_cmp_Compare_int (P : Program) (v0 v1 : Value) (w : World) (R : Value → World → Prop) : Prop :=
  vcall P n_cmp_isNaN_int #[v0] w fun t8 w_1 =>
  vcall P n_cmp_isNaN_int #[v1] w_1 fun t10 w_2 =>
  vif t8 (
    vif t10 (
      R (.int .i64 0) w_2) (
      R (.int .i64 (-1)) w_2)) (
    vif t10 (
      R (.int .i64 1) w_2) (
      vbin P .lss T_int false v0 v1 w_2 fun t16 w_3 =>
      vif t16 (
        R (.int .i64 (-1)) w_3) (
        vbin P .gtr T_int false v0 v1 w_3 fun t19 w_4 =>
        vif t19 (
          R (.int .i64 1) w_4) (
          R (.int .i64 0) w_4))))
def A_cmp_Compare_int : Ann := { ord := [], loops := [], cuts := [] }
theorem k_cmp_Compare_int (v0 v1 : Value) (w : World) (R : Value → World → Prop) : vc PP A_cmp_Compare_int ((Tryz.f116.body).getD .skip) (retF PP Tryz.f116.results.toList R) (nthV [v0, v1]) w = F_cmp_Compare_int PP v0 v1 w R := by kernel_rfl
theorem c_cmp_Compare_int {v0 v1 : Value} {w : World} {R : Value → World → Prop} (h : F_cmp_Compare_int PP v0 v1 w R) : vcall PP n_cmp_Compare_int #[v0, v1] w R :=
  call_of_vc (T := A_cmp_Compare_int) (c := (Tryz.f116.body).getD .skip) (n := 20) mixed Tryz.func116 rfl rfl (by kernel_rfl) (by kernel_rfl) rfl (by rw [k_cmp_Compare_int]; exact h)

/-- (*impl.search).learn$2 -/
def F_impl_search_learn_2 (P : Program) (v0 v1 : Value) (w : World) (R : Value → World → Prop) : Prop :=
  vcall P n_impl_literal_variable #[v0] w fun t6 w_1 =>
  vcall P n_impl_literal_variable #[v1] w_1 fun t8 w_2 =>
  vcall P n_cmp_Compare_int #[t6, t8] w_2 fun t9 w_3 =>
  R t9 w_3
def A_impl_search_learn_2 : Ann := { ord := [], loops := [], cuts := [] }
theorem k_impl_search_learn_2 (v0 v1 : Value) (w : World) (R : Value → World → Prop) : vc PP A_impl_search_learn_2 ((Tryz.f118.body).getD .skip) (retF PP Tryz.f118.results.toList R) (nthV [v0, v1]) w = F_impl_search_learn_2 PP v0 v1 w R := by kernel_rfl
theorem c_impl_search_learn_2 {v0 v1 : Value} {w : World} {R : Value → World → Prop} (h : F_impl_search_learn_2 PP v0 v1 w R) : vcall PP n_impl_search_learn_2 #[v0, v1] w R :=
  call_of_vc (T := A_impl_search_learn_2) (c := (Tryz.f118.body).getD .skip) (n := 10) mixed Tryz.func118 rfl rfl (by kernel_rfl) (by kernel_rfl) rfl (by rw [k_impl_search_learn_2]; exact h)

/-- spec.l5Last -/
def F_spec_l5Last (P : Program) (v0 v1 : Value) (w : World) (R : Value → World → Prop) : Prop :=
  vbox P T_impl_Sat v0 w fun t2 w_1 =>
  vfaddr P T_impl_Sat t2 0 w_1 fun t6 w_2 =>
  vload P T_Lint t6 w_2 fun t7 w_3 =>
  vbi P .len [T_Lint] T_int [t7] w_3 fun t8 w_4 =>
  vbin P .sub T_int true t8 (.int .i64 1) w_4 fun t9 w_5 =>
  vloop [t9] w_5 fun C u _ w_6 =>
    vbin P .geq T_int true (sl 0 u) (.int .i64 0) w_6 fun t11 w_7 =>
    vif t11 (
      vfaddr P T_impl_Sat t2 0 w_7 fun t15 w_8 =>
      vload P T_Lint t15 w_8 fun t16 w_9 =>
      viaddr P T_Lint t16 (sl 0 u) w_9 fun t18 w_10 =>
      vload P T_int t18 w_10 fun t19 w_11 =>
      vcall P n_spec_l4Abs #[t19] w_11 fun t20 w_12 =>
      vcall P n_spec_l5Has #[v1, t20] w_12 fun t21 w_13 =>
      vif t21 (
        R (sl 0 u) w_13) (
        vbin P .sub T_int true (sl 0 u) (.int .i64 1) w_13 fun t13 w_14 =>
        C [t13] w_14)) (
      R (.int .i64 (-1)) w_7)
def A_spec_l5Last : Ann := { ord := [], loops := [(2, [5])], cuts := [] }
theorem k_spec_l5Last (v0 v1 : Value) (w : World) (R : Value → World → Prop) : vc PP A_spec_l5Last ((Tryz.f119.body).getD .skip) (retF PP Tryz.f119.results.toList R) (nthV [v0, v1]) w = F_spec_l5Last PP v0 v1 w R := by kernel_rfl
theorem c_spec_l5Last {v0 v1 : Value} {w : World} {R : Value → World → Prop} (h : F_spec_l5Last PP v0 v1 w R) : vcall PP n_spec_l5Last #[v0, v1] w R :=
  call_of_vc (T := A_spec_l5Last) (c := (Tryz.f119.body).getD .skip) (n := 23) mixed Tryz.func119 rfl rfl (by kernel_rfl) (by kernel_rfl) rfl (by rw [k_spec_l5Last]; exact h)

/-- spec.l5Join -/
def F_spec_l5Join (P : Program) (v0 v1 v2 v3 : Value) (w : World) (R : Value → World → Prop) : Prop :=
  vbuildS P T_Lint 0 [] w fun t14 w_1 =>
  vbin P .add T_int true v0 (.int .i64 1) w_1 fun t16 w_2 =>
  vmkS P T_Lint t16 t16 w_2 fun t17 w_3 =>
  vloop [(.int .i64 0)] w_3 fun C u _ w_4 =>
    vbi P .len [T_Lint] T_int [v1] w_4 fun t20 w_5 =>
    vbin P .lss T_int false (sl 0 u) t20 w_5 fun t21 w_6 =>
    vif t21 (
      vdraw w_6 fun w_7 =>
      viaddr P T_Lint v1 (sl 0 u) w_7 fun t27 w_8 => w_8 = w_7 ∧
      vload P T_int t27 w_7 fun t28 w_9 => w_9 = w_7 ∧
      viaddr P T_Lint v1 (sl 0 u) w_7 fun t32 w_10 => w_10 = w_7 ∧
      vload P T_int t32 w_7 fun t33 w_11 => w_11 = w_7 ∧
      vcall P n_spec_l4Abs #[t28] w_7 fun t29 w_12 => (vload P T_int t32 w_12 fun v x => v = t33 ∧ x = w_12) ∧ (viaddr P T_Lint v1 (sl 0 u) w_12 fun v x => v = t32 ∧ x = w_12) ∧
      viaddr P T_Lint t17 t29 w_12 fun t34 w_13 => w_13 = w_12 ∧
      vstore P T_int t34 t33 w_12 fun _ w_14 =>
      vbin P .add T_int true (sl 0 u) (.int .i64 1) w_14 fun t23 w_15 =>
      C [t23] w_15) (
      vloop [(.int .i64 0)] w_6 fun C_1 u_1 _ w_16 =>
        vbi P .len [T_Lint] T_int [v2] w_16 fun t37 w_17 =>
        vbin P .lss T_int false (sl 0 u_1) t37 w_17 fun t38 w_18 =>
        vif t38 (
          vdraw w_18 fun w_19 =>
          viaddr P T_Lint v2 (sl 0 u_1) w_19 fun t44 w_20 => w_20 = w_19 ∧
          vload P T_int t44 w_19 fun t45 w_21 => w_21 = w_19 ∧
          viaddr P T_Lint v2 (sl 0 u_1) w_19 fun t49 w_22 => w_22 = w_19 ∧
          vload P T_int t49 w_19 fun t50 w_23 => w_23 = w_19 ∧
          vcall P n_spec_l4Abs #[t45] w_19 fun t46 w_24 => (vload P T_int t49 w_24 fun v x => v = t50 ∧ x = w_24) ∧ (viaddr P T_Lint v2 (sl 0 u_1) w_24 fun v x => v = t49 ∧ x = w_24) ∧
          viaddr P T_Lint t17 t46 w_24 fun t51 w_25 => w_25 = w_24 ∧
          vstore P T_int t51 t50 w_24 fun _ w_26 =>
          vbin P .add T_int true (sl 0 u_1) (.int .i64 1) w_26 fun t40 w_27 =>
          C_1 [t40] w_27) (
          vloop [t14, (.int .i64 1)] w_18 fun C_2 u_2 _ w_28 =>
            vbin P .leq T_int false (sl 1 u_2) v0 w_28 fun t54 w_29 =>
            vif t54 (
              vbin P .neq T_int false (sl 1 u_2) v3 w_29 fun t59 w_30 =>
              vif t59 (
                viaddr P T_Lint t17 (sl 1 u_2) w_30 fun t63 w_31 =>
                vload P T_int t63 w_31 fun t64 w_32 =>
                vbin P .neq T_int true t64 (.int .i64 0) w_32 fun t65 w_33 =>
                vif t65 (
                  viaddr P T_Lint t17 (sl 1 u_2) w_33 fun t70 w_34 =>
                  vload P T_int t70 w_34 fun t71 w_35 =>
                  vbuildS P T_Lint 1 [(0, t71)] w_35 fun t72 w_36 =>
                  vbi P .append [T_Lint, T_Lint] T_Lint [(sl 0 u_2), t72] w_36 fun t73 w_37 =>
                  vbin P .add T_int true (sl 1 u_2) (.int .i64 1) w_37 fun t56 w_38 =>
                  C_2 [t73, t56] w_38) (
                  vbin P .add T_int true (sl 1 u_2) (.int .i64 1) w_33 fun t56_1 w_39 =>
                  C_2 [(sl 0 u_2), t56_1] w_39)) (
                vbin P .add T_int true (sl 1 u_2) (.int .i64 1) w_30 fun t56_2 w_40 =>
                C_2 [(sl 0 u_2), t56_2] w_40)) (
              R (sl 0 u_2) w_29)))
def A_spec_l5Join : Ann := { ord := [(6, [0, 1, 2, 3, 4, 6, 7, 8, 9, 5, 10, 11], [(0, [10, 11]), (1, [3, 4, 5, 10, 11]), (2, [3, 4, 5, 10, 11]), (3, [4, 5, 10, 11]), (4, [5, 10, 11]), (6, [8, 9, 10, 11]), (7, [8, 9, 10, 11]), (8, [9, 10, 11]), (9, [10, 11]), (5, [10, 11]), (10, [11])]), (10, [0, 1, 2, 3, 4, 6, 7, 8, 9, 5, 10, 11], [(0, [10, 11]), (1, [3, 4, 5, 10, 11]), (2, [3, 4, 5, 10, 11]), (3, [4, 5, 10, 11]), (4, [5, 10, 11]), (6, [8, 9, 10, 11]), (7, [8, 9, 10, 11]), (8, [9, 10, 11]), (9, [10, 11]), (5, [10, 11]), (10, [11])])], loops := [(4, [11]), (8, [12]), (12, [9, 13])], cuts := [] }
theorem k_spec_l5Join (v0 v1 v2 v3 : Value) (w : World) (R : Value → World → Prop) : vc PP A_spec_l5Join ((Tryz.f120.body).getD .skip) (retF PP Tryz.f120.results.toList R) (nthV [v0, v1, v2, v3]) w = F_spec_l5Join PP v0 v1 v2 v3 w R := by kernel_rfl
theorem c_spec_l5Join {v0 v1 v2 v3 : Value} {w : World} {R : Value → World → Prop} (h : F_spec_l5Join PP v0 v1 v2 v3 w R) : vcall PP n_spec_l5Join #[v0, v1, v2, v3] w R :=
  call_of_vc (T := A_spec_l5Join) (c := (Tryz.f120.body).getD .skip) (n := 75) mixed Tryz.func120 rfl rfl (by kernel_rfl) (by kernel_rfl) rfl (by rw [k_spec_l5Join]; exact h)

/-- spec.l4Max -/
def F_spec_l4Max (P : Program) (v0 v1 : Value) (w : World) (R : Value → World → Prop) : Prop :=
  vbin P .gtr T_int false v0 v1 w fun t7 w_1 =>
  vif t7 (
    R v0 w_1) (
    R v1 w_1)
def A_spec_l4Max : Ann := { ord := [], loops := [], cuts := [] }
theorem k_spec_l4Max (v0 v1 : Value) (w : World) (R : Value → World → Prop) : vc PP A_spec_l4Max ((Tryz.f121.body).getD .skip) (retF PP Tryz.f121.results.toList R) (nthV [v0, v1]) w = F_spec_l4Max PP v0 v1 w R := by kernel_rfl
theorem c_spec_l4Max {v0 v1 : Value} {w : World} {R : Value → World → Prop} (h : F_spec_l4Max PP v0 v1 w R) : vcall PP n_spec_l4Max #[v0, v1] w R :=
  call_of_vc (T := A_spec_l4Max) (c := (Tryz.f121.body).getD .skip) (n := 10) mixed Tryz.func121 rfl rfl (by kernel_rfl) (by kernel_rfl) rfl (by rw [k_spec_l4Max]; exact h)

/-- cmp.isNaN[int] -/
def F_cmp_isNaN_int (P : Program) (v0 : Value) (w : World) (R : Value → World → Prop) : Prop :=
  vbin P .neq T_int false v0 v0 w fun t5 w_1 =>
  R t5 w_1
def A_cmp_isNaN_int : Ann := { ord := [], loops := [], cuts := [] }
theorem k_cmp_isNaN_int (v0 : Value) (w : World) (R : Value → World → Prop) : vc PP A_cmp_isNaN_int ((Tryz.f122.body).getD .skip) (retF PP Tryz.f122.results.toList R) (nthV [v0]) w = F_cmp_isNaN_int PP v0 w R := by kernel_rfl
theorem c_cmp_isNaN_int {v0 : Value} {w : World} {R : Value → World → Prop} (h : F_cmp_isNaN_int PP v0 w R) : vcall PP n_cmp_isNaN_int #[v0] w R :=
  call_of_vc (T := A_cmp_isNaN_int) (c := (Tryz.f122.body).getD .skip) (n := 6) mixed Tryz.func122 rfl rfl (by kernel_rfl) (by kernel_rfl) rfl (by rw [k_cmp_isNaN_int]; exact h)

/-- spec.l5Has -/
def F_spec_l5Has (P : Program) (v0 v1 : Value) (w : World) (R : Value → World → Prop) : Prop :=
  vloop [(.int .i64 0)] w fun C u _ w_1 =>
    vbi P .len [T_Lint] T_int [v0] w_1 fun t8 w_2 =>
    vbin P .lss T_int false (sl 0 u) t8 w_2 fun t9 w_3 =>
    vif t9 (
      viaddr P T_Lint v0 (sl 0 u) w_3 fun t14 w_4 =>
      vload P T_int t14 w_4 fun t15 w_5 =>
      vcall P n_spec_l4Abs #[t15] w_5 fun t16 w_6 =>
      vbin P .eql T_int false t16 v1 w_6 fun t18 w_7 =>
      vif t18 (
        R (.bool true) w_7) (
        vbin P .add T_int true (sl 0 u) (.int .i64 1) w_7 fun t11 w_8 =>
        C [t11] w_8)) (
      R (.bool false) w_3)
def A_spec_l5Has : Ann := { ord := [], loops := [(2, [5])], cuts := [] }
theorem k_spec_l5Has (v0 v1 : Value) (w : World) (R : Value → World → Prop) : vc PP A_spec_l5Has ((Tryz.f125.body).getD .skip) (retF PP Tryz.f125.results.toList R) (nthV [v0, v1]) w = F_spec_l5Has PP v0 v1 w R := by kernel_rfl
theorem c_spec_l5Has {v0 v1 : Value} {w : World} {R : Value → World → Prop} (h : F_spec_l5Has PP v0 v1 w R) : vcall PP n_spec_l5Has #[v0, v1] w R :=
  call_of_vc (T := A_spec_l5Has) (c := (Tryz.f125.body).getD .skip) (n := 19) mixed Tryz.func125 rfl rfl (by kernel_rfl) (by kernel_rfl) rfl (by rw [k_spec_l5Has]; exact h)

end Go.Proofs.YtpihgpfebhegmaaGreat
