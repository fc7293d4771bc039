import Derived.Test.YtcfgmgjofmbfhaaGreatDoorWsnP3
/- A part of the proof: F2. -/
set_option linter.unusedVariables false
set_option linter.unusedSimpArgs false
set_option linter.unnecessarySimpa false
set_option linter.unusedSectionVars false
section
namespace Go.Proofs.YtcfgmgjofmbfhaaGreatDoor
open Go Go.Vc Go.Proofs
def F_slices_ContainsFunc_Limpl_Decl_impl_Decl (P : Program) (v0 v1 : Value) (w : World) (R : Value → World → Prop) : Prop :=
 vcall P n_slices_IndexFunc_Limpl_Decl_impl_Decl #[v0, v1] w fun t7 w_1 =>
 vbin P .geq T_int true t7 (.int .i64 0) w_1 fun t8 w_2 =>
 R t8 w_2
def A_slices_ContainsFunc_Limpl_Decl_impl_Decl : Ann := { ord := [], loops := [], cuts := [] }
theorem k_slices_ContainsFunc_Limpl_Decl_impl_Decl (v0 v1 : Value) (w : World) (R : Value → World → Prop) : vc PP A_slices_ContainsFunc_Limpl_Decl_impl_Decl ((Tryz.f62.body).getD .skip) (retF PP Tryz.f62.results.toList R) (nthV [v0, v1]) w = F_slices_ContainsFunc_Limpl_Decl_impl_Decl PP v0 v1 w R := by kernel_rfl
theorem c_slices_ContainsFunc_Limpl_Decl_impl_Decl {v0 v1 : Value} {w : World} {R : Value → World → Prop} (h : F_slices_ContainsFunc_Limpl_Decl_impl_Decl PP v0 v1 w R) : vcall PP n_slices_ContainsFunc_Limpl_Decl_impl_Decl #[v0, v1] w R :=
  call_of_vc (T := A_slices_ContainsFunc_Limpl_Decl_impl_Decl) (c := (Tryz.f62.body).getD .skip) (n := 9) mixed Tryz.func62 rfl rfl (by kernel_rfl) (by kernel_rfl) rfl (by rw [k_slices_ContainsFunc_Limpl_Decl_impl_Decl]; exact h)
def F_impl_DeclOk_1 (P : Program) (v0 v1 : Value) (w : World) (R : Value → World → Prop) : Prop :=
 vbox P T_impl_Decl v0 w fun t2 w_1 =>
 vfaddr P T_impl_Decl t2 0 w_1 fun t4 w_2 =>
 vload P T_string t4 w_2 fun t5 w_3 =>
 vfaddr P T_impl_Decl v1 0 w_3 fun t6 w_4 =>
 vload P T_string t6 w_4 fun t7 w_5 =>
 vbin P .eql T_string false t5 t7 w_5 fun t8 w_6 =>
 R t8 w_6
def A_impl_DeclOk_1 : Ann := { ord := [], loops := [], cuts := [] }
theorem k_impl_DeclOk_1 (v0 v1 : Value) (w : World) (R : Value → World → Prop) : vc PP A_impl_DeclOk_1 ((Tryz.f63.body).getD .skip) (retF PP Tryz.f63.results.toList R) (nthV [v0, v1]) w = F_impl_DeclOk_1 PP v0 v1 w R := by kernel_rfl
theorem c_impl_DeclOk_1 {v0 v1 : Value} {w : World} {R : Value → World → Prop} (h : F_impl_DeclOk_1 PP v0 v1 w R) : vcall PP n_impl_DeclOk_1 #[v0, v1] w R :=
  call_of_vc (T := A_impl_DeclOk_1) (c := (Tryz.f63.body).getD .skip) (n := 9) mixed Tryz.func63 rfl rfl (by kernel_rfl) (by kernel_rfl) rfl (by rw [k_impl_DeclOk_1]; exact h)
def F_impl_environments (P : Program) (v0 : Value) (w : World) (R : Value → World → Prop) : Prop :=
 vbox P T_Limpl_Decl v0 w fun t1 w_1 =>
 vmkF P (.func n_impl_environments_1) [] [t1] w_1 fun t3 w_2 =>
 R t3 w_2
def A_impl_environments : Ann := { ord := [], loops := [], cuts := [] }
theorem k_impl_environments (v0 : Value) (w : World) (R : Value → World → Prop) : vc PP A_impl_environments ((Tryz.f64.body).getD .skip) (retF PP Tryz.f64.results.toList R) (nthV [v0]) w = F_impl_environments PP v0 w R := by kernel_rfl
theorem c_impl_environments {v0 : Value} {w : World} {R : Value → World → Prop} (h : F_impl_environments PP v0 w R) : vcall PP n_impl_environments #[v0] w R :=
  call_of_vc (T := A_impl_environments) (c := (Tryz.f64.body).getD .skip) (n := 4) mixed Tryz.func64 rfl rfl (by kernel_rfl) (by kernel_rfl) rfl (by rw [k_impl_environments]; exact h)
def F_slices_Clone_Lint_int (P : Program) (v0 : Value) (w : World) (R : Value → World → Prop) : Prop :=
 vbin P .eql T_Lint true v0 (.slice none 0 0) w fun t4 w_1 =>
 vif t4 (
 R (.slice none 0 0) w_1) (
 vbuildS P T_Lint 0 [] w_1 fun t5 w_2 =>
 vbi P .append [T_Lint, T_Lint] T_Lint [t5, v0] w_2 fun t7 w_3 =>
 R t7 w_3)
def A_slices_Clone_Lint_int : Ann := { ord := [], loops := [], cuts := [] }
theorem k_slices_Clone_Lint_int (v0 : Value) (w : World) (R : Value → World → Prop) : vc PP A_slices_Clone_Lint_int ((Tryz.f65.body).getD .skip) (retF PP Tryz.f65.results.toList R) (nthV [v0]) w = F_slices_Clone_Lint_int PP v0 w R := by kernel_rfl
theorem c_slices_Clone_Lint_int {v0 : Value} {w : World} {R : Value → World → Prop} (h : F_slices_Clone_Lint_int PP v0 w R) : vcall PP n_slices_Clone_Lint_int #[v0] w R :=
  call_of_vc (T := A_slices_Clone_Lint_int) (c := (Tryz.f65.body).getD .skip) (n := 8) mixed Tryz.func65 rfl rfl (by kernel_rfl) (by kernel_rfl) rfl (by rw [k_slices_Clone_Lint_int]; exact h)
def F_impl_EnvOk (P : Program) (v0 v1 : Value) (w : World) (R : Value → World → Prop) : Prop :=
 vjoin (fun J =>
 vcall P n_impl_DeclOk #[v0] w fun t8 w_2 =>
 vun P .not t8 w_2 fun t9 w_3 =>
 vif t9 (
 R (.bool false) w_3) (
 vbi P .len [T_Lint] T_int [v1] w_3 fun t12 w_4 =>
 vbi P .len [T_Limpl_Decl] T_int [v0] w_4 fun t14 w_5 =>
 vbin P .neq T_int false t12 t14 w_5 fun t15 w_6 =>
 vif t15 (
 R (.bool false) w_6) (
 J [] w_6))) (fun _ _ w_1 =>
 vbi P .len [T_Lint] T_int [v1] w_1 fun t18 w_7 =>
 vloop [(.int .i64 0)] w_7 fun C u_1 _ w_8 =>
 vbin P .lss T_int false (sl 0 u_1) t18 w_8 fun t20 w_9 =>
 vif t20 (
 viaddr P T_Lint v1 (sl 0 u_1) w_9 fun t22 w_10 =>
 vload P T_int t22 w_10 fun t23 w_11 =>
 viaddr P T_Limpl_Decl v0 (sl 0 u_1) w_11 fun t26 w_12 =>
 vfaddr P T_impl_Decl t26 1 w_12 fun t27 w_13 =>
 vload P T_int t27 w_13 fun t28 w_14 =>
 vbuild P T_impl_Vec [(0, t28), (1, t23)] w_14 fun t30 w_15 =>
 vcall P n_impl_VecOk #[t30] w_15 fun t31 w_16 =>
 vun P .not t31 w_16 fun t32 w_17 =>
 vif t32 (
 R (.bool false) w_17) (
 vbin P .add T_int true (sl 0 u_1) (.int .i64 1) w_17 fun t33 w_18 =>
 C [t33] w_18)) (
 R (.bool true) w_9))
def A_impl_EnvOk : Ann := { ord := [], loops := [(4, [19])], cuts := [(8195, [])] }
theorem k_impl_EnvOk (v0 v1 : Value) (w : World) (R : Value → World → Prop) : vc PP A_impl_EnvOk ((Tryz.f66.body).getD .skip) (retF PP Tryz.f66.results.toList R) (nthV [v0, v1]) w = F_impl_EnvOk PP v0 v1 w R := by kernel_rfl
theorem c_impl_EnvOk {v0 v1 : Value} {w : World} {R : Value → World → Prop} (h : F_impl_EnvOk PP v0 v1 w R) : vcall PP n_impl_EnvOk #[v0, v1] w R :=
  call_of_vc (T := A_impl_EnvOk) (c := (Tryz.f66.body).getD .skip) (n := 34) mixed Tryz.func66 rfl rfl (by kernel_rfl) (by kernel_rfl) rfl (by rw [k_impl_EnvOk]; exact h)
def F_impl_valueOf (P : Program) (v0 v1 v2 v3 : Value) (w : World) (R : Value → World → Prop) : Prop :=
 vbox P T_impl_Term v2 w fun t6 w_1 =>
 valloc P T_impl_Vec w_1 fun t8 w_2 =>
 vfaddr P T_impl_Term t6 4 w_2 fun t12 w_3 =>
 vload P T_Limpl_Term t12 w_3 fun t13 w_4 =>
 vbi P .len [T_Limpl_Term] T_int [t13] w_4 fun t14 w_5 =>
 vloop [(.slice none 0 0), (.int .i64 0)] w_5 fun C u _ w_6 =>
 vbin P .lss T_int false (sl 1 u) t14 w_6 fun t16 w_7 =>
 vif t16 (
 viaddr P T_Limpl_Term t13 (sl 1 u) w_7 fun t17 w_8 =>
 vload P T_impl_Term t17 w_8 fun t18 w_9 =>
 valloc P T_impl_Term w_9 fun t11 w_10 =>
 vstore P T_impl_Term t11 t18 w_10 fun _ w_11 =>
 vload P T_impl_Term t11 w_11 fun t22 w_12 =>
 vcall P n_impl_valueOf #[v0, v1, t22, v3] w_12 fun t24 w_13 =>
 vbuildS P T_Limpl_Vec 1 [(0, t24)] w_13 fun t25 w_14 =>
 vbi P .append [T_Limpl_Vec, T_Limpl_Vec] T_Limpl_Vec [(sl 0 u), t25] w_14 fun t26 w_15 =>
 vbin P .add T_int true (sl 1 u) (.int .i64 1) w_15 fun t27 w_16 =>
 C [t26, t27] w_16) (
 vdraw w_7 fun w_17 =>
 vload P T_impl_Term t6 w_17 fun t30 w_18 => w_18 = w_17 ∧
 vfaddr P T_impl_Term t6 0 w_17 fun t33 w_19 => w_19 = w_17 ∧
 vload P T_int t33 w_17 fun t34 w_20 => w_20 = w_17 ∧
 vlook P T_M_map_int_impl_kind v0 t34 false w_17 fun t35 w_21 => w_21 = w_17 ∧
 vload P T_impl_Term t6 w_17 fun t37 w_22 => w_22 = w_17 ∧
 vcall P n_impl_sortOf #[v0, v1, t30] w_17 fun t31 w_23 => (vload P T_impl_Term t6 w_23 fun v x => v = t37 ∧ x = w_23) ∧ (vlook P T_M_map_int_impl_kind v0 t34 false w_23 fun v x => v = t35 ∧ x = w_23) ∧ (vload P T_int t33 w_23 fun v x => v = t34 ∧ x = w_23) ∧ (vfaddr P T_impl_Term t6 0 w_23 fun v x => v = t33 ∧ x = w_23) ∧
 vinvoke P t35 mn_value #[v3, t37, (sl 0 u)] w_23 fun t39 w_24 =>
 vbuild P T_impl_Vec [(0, t31), (1, t39)] w_24 fun t40 w_25 => w_25 = w_24 ∧
 vstore P T_impl_Vec t8 t40 w_24 fun _ w_26 =>
 vlv P T_impl_Vec t8 w_26 fun r8 w_27 =>
 R r8 w_27)
def A_impl_valueOf : Ann := { ord := [(7, [0, 1, 2, 4, 5, 6, 7, 8, 9, 10, 3, 11, 12, 13], [(0, [3, 11, 12, 13]), (1, [3, 11, 12, 13]), (2, [3, 11, 12, 13]), (4, [7, 11, 12, 13]), (5, [6, 7, 11, 12, 13]), (6, [7, 11, 12, 13]), (7, [11, 12, 13]), (8, [11, 12, 13]), (9, [11, 12, 13]), (10, [11, 12, 13]), (3, [11, 12, 13]), (11, [12, 13]), (12, [13])])], loops := [(3, [9, 15])], cuts := [] }
theorem k_impl_valueOf (v0 v1 v2 v3 : Value) (w : World) (R : Value → World → Prop) : vc PP A_impl_valueOf ((Tryz.f67.body).getD .skip) (retF PP Tryz.f67.results.toList R) (nthV [v0, v1, v2, v3]) w = F_impl_valueOf PP v0 v1 v2 v3 w R := by kernel_rfl
theorem c_impl_valueOf {v0 v1 v2 v3 : Value} {w : World} {R : Value → World → Prop} (h : F_impl_valueOf PP v0 v1 v2 v3 w R) : vcall PP n_impl_valueOf #[v0, v1, v2, v3] w R :=
  call_of_vc (T := A_impl_valueOf) (c := (Tryz.f67.body).getD .skip) (n := 41) mixed Tryz.func67 rfl rfl (by kernel_rfl) (by kernel_rfl) rfl (by rw [k_impl_valueOf]; exact h)
def F_impl_envMap (P : Program) (v0 v1 : Value) (w : World) (R : Value → World → Prop) : Prop :=
 vmkM P T_M_map_string_int none w fun t8 w_1 =>
 vbi P .len [T_Limpl_Decl] T_int [v0] w_1 fun t10 w_2 =>
 vloop [(.int .i64 0)] w_2 fun C u _ w_3 =>
 vbin P .lss T_int false (sl 0 u) t10 w_3 fun t12 w_4 =>
 vif t12 (
 viaddr P T_Limpl_Decl v0 (sl 0 u) w_4 fun t14 w_5 =>
 vload P T_impl_Decl t14 w_5 fun t15 w_6 =>
 valloc P T_impl_Decl w_6 fun t7 w_7 =>
 vstore P T_impl_Decl t7 t15 w_7 fun _ w_8 =>
 vdraw w_8 fun w_9 =>
 vfaddr P T_impl_Decl t7 0 w_9 fun t17 w_10 => w_10 = w_9 ∧
 vload P T_string t17 w_9 fun t18 w_11 => w_11 = w_9 ∧
 viaddr P T_Lint v1 (sl 0 u) w_9 fun t21 w_12 => w_12 = w_9 ∧
 vload P T_int t21 w_9 fun t22 w_13 => w_13 = w_9 ∧
 vmset P T_M_map_string_int t8 t18 t22 w_9 fun _ w_14 =>
 vbin P .add T_int true (sl 0 u) (.int .i64 1) w_14 fun t23 w_15 =>
 C [t23] w_15) (
 R t8 w_4)
def A_impl_envMap : Ann := { ord := [(5, [0, 1, 2, 3, 4, 5, 6, 7], [(0, [7]), (1, [2, 7]), (2, [7]), (3, [5, 6, 7]), (4, [5, 6, 7]), (5, [6, 7]), (6, [7])])], loops := [(3, [11])], cuts := [] }
theorem k_impl_envMap (v0 v1 : Value) (w : World) (R : Value → World → Prop) : vc PP A_impl_envMap ((Tryz.f68.body).getD .skip) (retF PP Tryz.f68.results.toList R) (nthV [v0, v1]) w = F_impl_envMap PP v0 v1 w R := by kernel_rfl
theorem c_impl_envMap {v0 v1 : Value} {w : World} {R : Value → World → Prop} (h : F_impl_envMap PP v0 v1 w R) : vcall PP n_impl_envMap #[v0, v1] w R :=
  call_of_vc (T := A_impl_envMap) (c := (Tryz.f68.body).getD .skip) (n := 25) mixed Tryz.func68 rfl rfl (by kernel_rfl) (by kernel_rfl) rfl (by rw [k_impl_envMap]; exact h)
def F_impl_sortOf (P : Program) (v0 v1 v2 : Value) (w : World) (R : Value → World → Prop) : Prop :=
 vbox P T_impl_Term v2 w fun t5 w_1 =>
 vfaddr P T_impl_Term t5 0 w_1 fun t15 w_2 =>
 vload P T_int t15 w_2 fun t16 w_3 =>
 vlook P T_M_map_int_impl_kind v0 t16 true w_3 fun t17 w_4 =>
 vextract P t17 0 w_4 fun t18 w_5 =>
 vextract P t17 1 w_5 fun t19 w_6 =>
 vjoin (fun J =>
 vdraw w_6 fun w_8 =>
 vun P .not t19 w_8 fun t21 w_9 => w_9 = w_8 ∧
 vif t21 (
 R (.int .i64 (-1)) w_8) (
 vfaddr P T_impl_Term t5 4 w_8 fun t23 w_10 => w_10 = w_8 ∧
 vload P T_Limpl_Term t23 w_8 fun t24 w_11 => w_11 = w_8 ∧
 vbi P .len [T_Limpl_Term] T_int [t24] w_8 fun t25 w_12 => w_12 = w_8 ∧
 vinvoke P t18 mn_kids #[] w_8 fun t27 w_13 => (vbi P .len [T_Limpl_Term] T_int [t24] w_13 fun v x => v = t25 ∧ x = w_13) ∧ (vload P T_Limpl_Term t23 w_13 fun v x => v = t24 ∧ x = w_13) ∧ (vfaddr P T_impl_Term t5 4 w_13 fun v x => v = t23 ∧ x = w_13) ∧
 vbin P .neq T_int false t25 t27 w_13 fun t28 w_14 => w_14 = w_13 ∧
 vif t28 (
 R (.int .i64 (-1)) w_13) (
 vload P T_impl_Term t5 w_13 fun t31 w_15 => w_15 = w_13 ∧
 vcall P n_impl_plain #[t31] w_13 fun t32 w_16 =>
 vun P .not t32 w_16 fun t33 w_17 => w_17 = w_16 ∧
 vif t33 (
 R (.int .i64 (-1)) w_16) (
 J [] w_16)))) (fun _ _ w_7 =>
 vfaddr P T_impl_Term t5 4 w_7 fun t35 w_18 =>
 vload P T_Limpl_Term t35 w_18 fun t36 w_19 =>
 vbi P .len [T_Limpl_Term] T_int [t36] w_19 fun t37 w_20 =>
 vloop [(.slice none 0 0), (.int .i64 0)] w_20 fun C u_1 _ w_21 =>
 vbin P .lss T_int false (sl 1 u_1) t37 w_21 fun t39 w_22 =>
 vif t39 (
 viaddr P T_Limpl_Term t36 (sl 1 u_1) w_22 fun t40 w_23 =>
 vload P T_impl_Term t40 w_23 fun t41 w_24 =>
 valloc P T_impl_Term w_24 fun t11 w_25 =>
 vstore P T_impl_Term t11 t41 w_25 fun _ w_26 =>
 vload P T_impl_Term t11 w_26 fun t44 w_27 =>
 vcall P n_impl_sortOf #[v0, v1, t44] w_27 fun t45 w_28 =>
 vbin P .eql T_int true t45 (.int .i64 (-1)) w_28 fun t47 w_29 =>
 vif t47 (
 R (.int .i64 (-1)) w_29) (
 vbuildS P T_Lint 1 [(0, t45)] w_29 fun t50 w_30 =>
 vbi P .append [T_Lint, T_Lint] T_Lint [(sl 0 u_1), t50] w_30 fun t51 w_31 =>
 vbin P .add T_int true (sl 1 u_1) (.int .i64 1) w_31 fun t52 w_32 =>
 C [t51, t52] w_32)) (
 vload P T_impl_Term t5 w_22 fun t55 w_33 =>
 vinvoke P t18 mn_sort #[v1, t55, (sl 0 u_1)] w_33 fun t57 w_34 =>
 R t57 w_34))
def A_impl_sortOf : Ann := { ord := [(2, [0, 1, 2, 3, 4, 5, 6, 7, 8, 9, 10, 11, 12, 13, 14], [(0, [1, 2, 3, 4, 5, 6, 7, 8, 9, 10, 11, 12, 13, 14]), (1, [2, 3, 4, 5, 6, 7, 8, 9, 10, 11, 12, 13, 14]), (2, [3, 4, 5, 6, 7, 8, 9, 10, 11, 12, 13, 14]), (3, [4, 5, 8, 9, 10, 11, 12, 13, 14]), (4, [5, 8, 9, 10, 11, 12, 13, 14]), (5, [8, 9, 10, 11, 12, 13, 14]), (6, [7, 8, 9, 10, 11, 12, 13, 14]), (7, [8, 9, 10, 11, 12, 13, 14]), (8, [9, 10, 11, 12, 13, 14]), (9, [10, 11, 12, 13, 14]), (10, [11, 12, 13, 14]), (11, [12, 13, 14]), (12, [13, 14]), (13, [14])])], loops := [(6, [9, 38])], cuts := [(12292, [])] }
theorem k_impl_sortOf (v0 v1 v2 : Value) (w : World) (R : Value → World → Prop) : vc PP A_impl_sortOf ((Tryz.f69.body).getD .skip) (retF PP Tryz.f69.results.toList R) (nthV [v0, v1, v2]) w = F_impl_sortOf PP v0 v1 v2 w R := by kernel_rfl
theorem c_impl_sortOf {v0 v1 v2 : Value} {w : World} {R : Value → World → Prop} (h : F_impl_sortOf PP v0 v1 v2 w R) : vcall PP n_impl_sortOf #[v0, v1, v2] w R :=
  call_of_vc (T := A_impl_sortOf) (c := (Tryz.f69.body).getD .skip) (n := 58) mixed Tryz.func69 rfl rfl (by kernel_rfl) (by kernel_rfl) rfl (by rw [k_impl_sortOf]; exact h)
def F_impl_count (P : Program) (v0 v1 v2 : Value) (w : World) (R : Value → World → Prop) : Prop :=
 vbox P T_impl_Term v0 w fun t3 w_1 =>
 vnil P v2 w_1 fun t11 w_2 =>
 vload P T_int t11 w_2 fun t12 w_3 =>
 vbin P .add T_int true t12 (.int .i64 1) w_3 fun t13 w_4 =>
 vnil P v2 w_4 fun t14 w_5 =>
 vstore P T_int t14 t13 w_5 fun _ w_6 =>
 vbin P .gtr T_int true v1 (.int .i64 7) w_6 fun t17 w_7 =>
 vif t17 (
 R v1 w_7) (
 vfaddr P T_impl_Term t3 4 w_7 fun t19 w_8 =>
 vload P T_Limpl_Term t19 w_8 fun t20 w_9 =>
 vbi P .len [T_Limpl_Term] T_int [t20] w_9 fun t21 w_10 =>
 vloop [v1, (.int .i64 0)] w_10 fun C u _ w_11 =>
 vbin P .lss T_int false (sl 1 u) t21 w_11 fun t23 w_12 =>
 vif t23 (
 viaddr P T_Limpl_Term t20 (sl 1 u) w_12 fun t24 w_13 =>
 vload P T_impl_Term t24 w_13 fun t25 w_14 =>
 valloc P T_impl_Term w_14 fun t9 w_15 =>
 vstore P T_impl_Term t9 t25 w_15 fun _ w_16 =>
 vnil P v2 w_16 fun t27 w_17 =>
 vload P T_int t27 w_17 fun t28 w_18 =>
 vbin P .gtr T_int true t28 (.int .i64 20) w_18 fun t29 w_19 =>
 vif t29 (
 R (sl 0 u) w_19) (
 vload P T_impl_Term t9 w_19 fun t31 w_20 =>
 vbin P .add T_int true v1 (.int .i64 1) w_20 fun t33 w_21 =>
 vcall P n_impl_count #[t31, t33, v2] w_21 fun t35 w_22 =>
 vbi P .max [T_int, T_int] T_int [(sl 0 u), t35] w_22 fun t36 w_23 =>
 vbin P .add T_int true (sl 1 u) (.int .i64 1) w_23 fun t37 w_24 =>
 C [t36, t37] w_24)) (
 R (sl 0 u) w_12))
def A_impl_count : Ann := { ord := [], loops := [(6, [7, 22])], cuts := [] }
theorem k_impl_count (v0 v1 v2 : Value) (w : World) (R : Value → World → Prop) : vc PP A_impl_count ((Tryz.f70.body).getD .skip) (retF PP Tryz.f70.results.toList R) (nthV [v0, v1, v2]) w = F_impl_count PP v0 v1 v2 w R := by kernel_rfl
theorem c_impl_count {v0 v1 v2 : Value} {w : World} {R : Value → World → Prop} (h : F_impl_count PP v0 v1 v2 w R) : vcall PP n_impl_count #[v0, v1, v2] w R :=
  call_of_vc (T := A_impl_count) (c := (Tryz.f70.body).getD .skip) (n := 39) mixed Tryz.func70 rfl rfl (by kernel_rfl) (by kernel_rfl) rfl (by rw [k_impl_count]; exact h)
def F_spec_l12Rd_pick (P : Program) (v0 v1 : Value) (w : World) (R : Value → World → Prop) : Prop :=
 vnil P v0 w fun t9 w_1 =>
 vfaddr P T_spec_l12Rd t9 1 w_1 fun t10 w_2 =>
 vload P T_int t10 w_2 fun t11 w_3 =>
 vbin P .add T_int true t11 (.int .i64 1) w_3 fun t12 w_4 =>
 vnil P v0 w_4 fun t13 w_5 =>
 vfaddr P T_spec_l12Rd t13 1 w_5 fun t14 w_6 =>
 vstore P T_int t14 t12 w_6 fun _ w_7 =>
 vjoin (fun J =>
 vbin P .lss T_int true v1 (.int .i64 1) w_7 fun t16 w_9 =>
 vif t16 (
 R (.int .i64 0) w_9) (
 vnil P v0 w_9 fun t19 w_10 =>
 vfaddr P T_spec_l12Rd t19 0 w_10 fun t20 w_11 =>
 vload P T_Luint8 t20 w_11 fun t21 w_12 =>
 vbi P .len [T_Luint8] T_int [t21] w_12 fun t22 w_13 =>
 vbin P .eql T_int true t22 (.int .i64 0) w_13 fun t23 w_14 =>
 vif t23 (
 R (.int .i64 0) w_14) (
 J [] w_14))) (fun _ _ w_8 =>
 vnil P v0 w_8 fun t26 w_15 =>
 vfaddr P T_spec_l12Rd t26 1 w_15 fun t27 w_16 =>
 vload P T_int t27 w_16 fun t28 w_17 =>
 vbin P .sub T_int true t28 (.int .i64 1) w_17 fun t29 w_18 =>
 vnil P v0 w_18 fun t32 w_19 =>
 vfaddr P T_spec_l12Rd t32 0 w_19 fun t33 w_20 =>
 vload P T_Luint8 t33 w_20 fun t34 w_21 =>
 vbi P .len [T_Luint8] T_int [t34] w_21 fun t35 w_22 =>
 vbin P .lss T_int false t29 t35 w_22 fun t36 w_23 =>
 vif t36 (
 vnil P v0 w_23 fun t38 w_24 =>
 vfaddr P T_spec_l12Rd t38 0 w_24 fun t39 w_25 =>
 vload P T_Luint8 t39 w_25 fun t40 w_26 =>
 viaddr P T_Luint8 t40 t29 w_26 fun t42 w_27 =>
 vload P T_uint8 t42 w_27 fun t43 w_28 =>
 vconv P T_uint8 T_int t43 w_28 fun t44 w_29 =>
 vbin P .rem T_int false t44 v1 w_29 fun t46 w_30 =>
 R t46 w_30) (
 vdraw w_23 fun w_31 =>
 vnil P v0 w_31 fun t48 w_32 => w_32 = w_31 ∧
 vfaddr P T_spec_l12Rd t48 0 w_31 fun t49 w_33 => w_33 = w_31 ∧
 vload P T_Luint8 t49 w_31 fun t50 w_34 => w_34 = w_31 ∧
 vnil P v0 w_31 fun t53 w_35 => w_35 = w_31 ∧
 vfaddr P T_spec_l12Rd t53 0 w_31 fun t54 w_36 => w_36 = w_31 ∧
 vload P T_Luint8 t54 w_31 fun t55 w_37 => w_37 = w_31 ∧
 vbi P .len [T_Luint8] T_int [t55] w_31 fun t56 w_38 => w_38 = w_31 ∧
 vbin P .rem T_int false t29 t56 w_31 fun t57 w_39 => w_39 = w_31 ∧
 viaddr P T_Luint8 t50 t57 w_31 fun t58 w_40 => w_40 = w_31 ∧
 vload P T_uint8 t58 w_31 fun t59 w_41 => w_41 = w_31 ∧
 vconv P T_uint8 T_int t59 w_31 fun t60 w_42 => w_42 = w_31 ∧
 vbin P .mul T_int true t60 (.int .i64 131) w_31 fun t61 w_43 => w_43 = w_31 ∧
 vnil P v0 w_31 fun t63 w_44 => w_44 = w_31 ∧
 vfaddr P T_spec_l12Rd t63 0 w_31 fun t64 w_45 => w_45 = w_31 ∧
 vload P T_Luint8 t64 w_31 fun t65 w_46 => w_46 = w_31 ∧
 vbin P .mul T_int true t29 (.int .i64 7) w_31 fun t67 w_47 => w_47 = w_31 ∧
 vbin P .add T_int true t67 (.int .i64 3) w_31 fun t68 w_48 => w_48 = w_31 ∧
 vnil P v0 w_31 fun t70 w_49 => w_49 = w_31 ∧
 vfaddr P T_spec_l12Rd t70 0 w_31 fun t71 w_50 => w_50 = w_31 ∧
 vload P T_Luint8 t71 w_31 fun t72 w_51 => w_51 = w_31 ∧
 vbi P .len [T_Luint8] T_int [t72] w_31 fun t73 w_52 => w_52 = w_31 ∧
 vbin P .rem T_int false t68 t73 w_31 fun t74 w_53 => w_53 = w_31 ∧
 viaddr P T_Luint8 t65 t74 w_31 fun t75 w_54 => w_54 = w_31 ∧
 vload P T_uint8 t75 w_31 fun t76 w_55 => w_55 = w_31 ∧
 vconv P T_uint8 T_int t76 w_31 fun t77 w_56 => w_56 = w_31 ∧
 vbin P .mul T_int true t77 (.int .i64 1117) w_31 fun t78 w_57 => w_57 = w_31 ∧
 vbin P .add T_int false t61 t78 w_31 fun t79 w_58 => w_58 = w_31 ∧
 vbin P .mul T_int true t29 (.int .i64 29) w_31 fun t81 w_59 => w_59 = w_31 ∧
 vbin P .add T_int false t79 t81 w_31 fun t82 w_60 => w_60 = w_31 ∧
 vnil P v0 w_31 fun t85 w_61 => w_61 = w_31 ∧
 vfaddr P T_spec_l12Rd t85 0 w_31 fun t86 w_62 => w_62 = w_31 ∧
 vload P T_Luint8 t86 w_31 fun t87 w_63 => w_63 = w_31 ∧
 vbi P .len [T_Luint8] T_int [t87] w_31 fun t88 w_64 => w_64 = w_31 ∧
 vbin P .quo T_int false t29 t88 w_31 fun t89 w_65 => w_65 = w_31 ∧
 vbin P .mul T_int true t89 (.int .i64 53) w_31 fun t90 w_66 => w_66 = w_31 ∧
 vbin P .add T_int false t82 t90 w_31 fun t91 w_67 => w_67 = w_31 ∧
 vbin P .quo T_int true t91 (.int .i64 64) w_31 fun t94 w_68 =>
 vbin P .xor T_int false t91 t94 w_68 fun t95 w_69 =>
 vbin P .rem T_int false t95 v1 w_69 fun t98 w_70 =>
 R t98 w_70))
def A_spec_l12Rd_pick : Ann := { ord := [(7, [0, 1, 2, 3, 4, 5, 6, 7, 8, 9, 10, 11, 12, 13, 14, 15, 16, 17, 18, 19, 20, 21, 22, 23, 24, 25, 26, 27, 28, 29, 30, 31, 32, 33, 34, 35, 36, 37, 38, 39, 40, 41, 42, 43, 44, 45], [(0, [1, 2, 3, 11, 12, 13, 14, 32, 35, 44, 45]), (1, [2, 3, 11, 12, 13, 14, 32, 35, 44, 45]), (2, [3, 11, 12, 13, 14, 32, 35, 44, 45]), (3, [11, 12, 13, 14, 32, 35, 44, 45]), (4, [10, 11, 12, 13, 14, 32, 35, 44, 45]), (5, [6, 7, 8, 9, 10, 11, 12, 13, 14, 32, 35, 44, 45]), (6, [7, 8, 9, 10, 11, 12, 13, 14, 32, 35, 44, 45]), (7, [8, 9, 10, 11, 12, 13, 14, 32, 35, 44, 45]), (8, [9, 10, 11, 12, 13, 14, 32, 35, 44, 45]), (9, [10, 11, 12, 13, 14, 32, 35, 44, 45]), (10, [11, 12, 13, 14, 32, 35, 44, 45]), (11, [12, 13, 14, 32, 35, 44, 45]), (12, [13, 14, 32, 35, 44, 45]), (13, [14, 32, 35, 44, 45]), (14, [32, 35, 44, 45]), (15, [16, 17, 18, 28, 29, 30, 31, 32, 35, 44, 45]), (16, [17, 18, 28, 29, 30, 31, 32, 35, 44, 45]), (17, [18, 28, 29, 30, 31, 32, 35, 44, 45]), (18, [28, 29, 30, 31, 32, 35, 44, 45]), (19, [20, 21, 27, 28, 29, 30, 31, 32, 35, 44, 45]), (20, [21, 27, 28, 29, 30, 31, 32, 35, 44, 45]), (21, [27, 28, 29, 30, 31, 32, 35, 44, 45]), (22, [23, 24, 25, 26, 27, 28, 29, 30, 31, 32, 35, 44, 45]), (23, [24, 25, 26, 27, 28, 29, 30, 31, 32, 35, 44, 45]), (24, [25, 26, 27, 28, 29, 30, 31, 32, 35, 44, 45]), (25, [26, 27, 28, 29, 30, 31, 32, 35, 44, 45]), (26, [27, 28, 29, 30, 31, 32, 35, 44, 45]), (27, [28, 29, 30, 31, 32, 35, 44, 45]), (28, [29, 30, 31, 32, 35, 44, 45]), (29, [30, 31, 32, 35, 44, 45]), (30, [31, 32, 35, 44, 45]), (31, [32, 35, 44, 45]), (32, [35, 44, 45]), (33, [34, 35, 44, 45]), (34, [35, 44, 45]), (35, [44, 45]), (36, [42, 43, 44, 45]), (37, [38, 39, 40, 41, 42, 43, 44, 45]), (38, [39, 40, 41, 42, 43, 44, 45]), (39, [40, 41, 42, 43, 44, 45]), (40, [41, 42, 43, 44, 45]), (41, [42, 43, 44, 45]), (42, [43, 44, 45]), (43, [44, 45]), (44, [45])])], loops := [], cuts := [(12292, [])] }
theorem k_spec_l12Rd_pick (v0 v1 : Value) (w : World) (R : Value → World → Prop) : vc PP A_spec_l12Rd_pick ((Tryz.f71.body).getD .skip) (retF PP Tryz.f71.results.toList R) (nthV [v0, v1]) w = F_spec_l12Rd_pick PP v0 v1 w R := by kernel_rfl
theorem c_spec_l12Rd_pick {v0 v1 : Value} {w : World} {R : Value → World → Prop} (h : F_spec_l12Rd_pick PP v0 v1 w R) : vcall PP n_spec_l12Rd_pick #[v0, v1] w R :=
  call_of_vc (T := A_spec_l12Rd_pick) (c := (Tryz.f71.body).getD .skip) (n := 99) mixed Tryz.func71 rfl rfl (by kernel_rfl) (by kernel_rfl) rfl (by rw [k_spec_l12Rd_pick]; exact h)
def F_spec_l2Bent (P : Program) (v0 v1 : Value) (w : World) (R : Value → World → Prop) : Prop :=
 vbox P T_impl_Term v1 w fun t3 w_1 =>
 valloc P T_impl_Term w_1 fun t4 w_2 =>
 vbuildS P T_Limpl_Term 0 [] w_2 fun t7 w_3 =>
 vfaddr P T_impl_Term t3 4 w_3 fun t8 w_4 =>
 vload P T_Limpl_Term t8 w_4 fun t9 w_5 =>
 vbi P .append [T_Limpl_Term, T_Limpl_Term] T_Limpl_Term [t7, t9] w_5 fun t10 w_6 =>
 vcall P n_spec_l12Rd_pick #[v0, (.int .i64 60)] w_6 fun t12 w_7 =>
 vbin P .eql T_int true t12 (.int .i64 0) w_7 fun t14 w_8 =>
 vif t14 (
 vbuildS P T_Lint 6 [(0, (.int .i64 0)), (1, (.int .i64 18)), (2, (.int .i64 28)), (3, (.int .i64 3)), (4, (.int .i64 16)), (5, (.int .i64 25))] w_8 fun t16 w_9 =>
 vcall P n_spec_l12Rd_num #[v0, t16] w_9 fun t17 w_10 =>
 vfaddr P T_impl_Term t3 0 w_10 fun t18 w_11 =>
 vstore P T_int t18 t17 w_11 fun _ w_12 =>
 vload P T_impl_Term t3 w_12 fun t56 w_13 =>
 vstore P T_impl_Term t4 t56 w_13 fun _ w_14 =>
 vlv P T_impl_Term t4 w_14 fun r4 w_15 =>
 R r4 w_15) (
 vbin P .eql T_int true t12 (.int .i64 1) w_8 fun t20 w_16 =>
 vif t20 (
 vdraw w_16 fun w_17 =>
 vfaddr P T_impl_Term t3 1 w_17 fun t21 w_18 => w_18 = w_17 ∧
 vload P T_int t21 w_17 fun t22 w_19 => w_19 = w_17 ∧
 vbuildS P T_Lint 2 [(0, (.int .i64 1)), (1, (.int .i64 (-1)))] w_17 fun t24 w_20 => (vload P T_int t21 w_20 fun v x => v = t22 ∧ x = w_20) ∧ (vfaddr P T_impl_Term t3 1 w_20 fun v x => v = t21 ∧ x = w_20) ∧
 vcall P n_spec_l12Rd_num #[v0, t24] w_20 fun t25 w_21 => (vload P T_int t21 w_21 fun v x => v = t22 ∧ x = w_21) ∧ (vfaddr P T_impl_Term t3 1 w_21 fun v x => v = t21 ∧ x = w_21) ∧
 vbin P .add T_int false t22 t25 w_21 fun t26 w_22 => w_22 = w_21 ∧
 vfaddr P T_impl_Term t3 1 w_21 fun t27 w_23 => w_23 = w_21 ∧
 vstore P T_int t27 t26 w_21 fun _ w_24 =>
 vload P T_impl_Term t3 w_24 fun t56_1 w_25 =>
 vstore P T_impl_Term t4 t56_1 w_25 fun _ w_26 =>
 vlv P T_impl_Term t4 w_26 fun r4_1 w_27 =>
 R r4_1 w_27) (
 vbin P .eql T_int true t12 (.int .i64 2) w_16 fun t29 w_28 =>
 vif t29 (
 vdraw w_28 fun w_29 =>
 vfaddr P T_impl_Term t3 2 w_29 fun t30 w_30 => w_30 = w_29 ∧
 vload P T_int t30 w_29 fun t31 w_31 => w_31 = w_29 ∧
 vbuildS P T_Lint 3 [(0, (.int .i64 1)), (1, (.int .i64 (-1))), (2, (.int .i64 16))] w_29 fun t33 w_32 => (vload P T_int t30 w_32 fun v x => v = t31 ∧ x = w_32) ∧ (vfaddr P T_impl_Term t3 2 w_32 fun v x => v = t30 ∧ x = w_32) ∧
 vcall P n_spec_l12Rd_num #[v0, t33] w_32 fun t34 w_33 => (vload P T_int t30 w_33 fun v x => v = t31 ∧ x = w_33) ∧ (vfaddr P T_impl_Term t3 2 w_33 fun v x => v = t30 ∧ x = w_33) ∧
 vbin P .add T_int false t31 t34 w_33 fun t35 w_34 => w_34 = w_33 ∧
 vfaddr P T_impl_Term t3 2 w_33 fun t36 w_35 => w_35 = w_33 ∧
 vstore P T_int t36 t35 w_33 fun _ w_36 =>
 vload P T_impl_Term t3 w_36 fun t56_2 w_37 =>
 vstore P T_impl_Term t4 t56_2 w_37 fun _ w_38 =>
 vlv P T_impl_Term t4 w_38 fun r4_2 w_39 =>
 R r4_2 w_39) (
 vbin P .eql T_int true t12 (.int .i64 3) w_28 fun t38 w_40 =>
 vif t38 (
 vfaddr P T_impl_Term t3 3 w_40 fun t39 w_41 =>
 vstore P T_string t39 (.string { data := #[113] }) w_41 fun _ w_42 =>
 vload P T_impl_Term t3 w_42 fun t56_3 w_43 =>
 vstore P T_impl_Term t4 t56_3 w_43 fun _ w_44 =>
 vlv P T_impl_Term t4 w_44 fun r4_3 w_45 =>
 R r4_3 w_45) (
 vbin P .eql T_int true t12 (.int .i64 4) w_40 fun t41 w_46 =>
 vif t41 (
 vbuild P T_impl_Term [(0, (.int .i64 24))] w_46 fun t43 w_47 =>
 vbuildS P T_Limpl_Term 1 [(0, t43)] w_47 fun t44 w_48 =>
 vbi P .append [T_Limpl_Term, T_Limpl_Term] T_Limpl_Term [t10, t44] w_48 fun t45 w_49 =>
 vfaddr P T_impl_Term t3 4 w_49 fun t46 w_50 =>
 vstore P T_Limpl_Term t46 t45 w_50 fun _ w_51 =>
 vload P T_impl_Term t3 w_51 fun t56_4 w_52 =>
 vstore P T_impl_Term t4 t56_4 w_52 fun _ w_53 =>
 vlv P T_impl_Term t4 w_53 fun r4_4 w_54 =>
 R r4_4 w_54) (
 vbin P .eql T_int true t12 (.int .i64 5) w_46 fun t48 w_55 =>
 vif t48 (
 vloop [(.int .i64 0)] w_55 fun C u _ w_56 =>
 vbin P .lss T_int true (sl 0 u) (.int .i64 7) w_56 fun t50 w_57 =>
 vif t50 (
 vload P T_impl_Term t3 w_57 fun t53 w_58 =>
 vbuildS P T_Limpl_Term 1 [(0, t53)] w_58 fun t54 w_59 =>
 vbuild P T_impl_Term [(0, (.int .i64 25)), (4, t54)] w_59 fun t55 w_60 =>
 vstore P T_impl_Term t3 t55 w_60 fun _ w_61 =>
 vbin P .add T_int true (sl 0 u) (.int .i64 1) w_61 fun t52 w_62 =>
 C [t52] w_62) (
 vload P T_impl_Term t3 w_57 fun t56_5 w_63 =>
 vstore P T_impl_Term t4 t56_5 w_63 fun _ w_64 =>
 vlv P T_impl_Term t4 w_64 fun r4_5 w_65 =>
 R r4_5 w_65)) (
 vload P T_impl_Term t3 w_55 fun t56_6 w_66 =>
 vstore P T_impl_Term t4 t56_6 w_66 fun _ w_67 =>
 vlv P T_impl_Term t4 w_67 fun r4_6 w_68 =>
 R r4_6 w_68))))))
def A_spec_l2Bent : Ann := { ord := [(6, [0, 1, 2, 3, 4, 5, 6, 7], [(0, [1, 5, 6, 7]), (1, [5, 6, 7]), (2, [4, 5, 6, 7]), (3, [4, 5, 6, 7]), (4, [5, 6, 7]), (5, [6, 7]), (6, [7])]), (8, [0, 1, 2, 3, 4, 5, 6, 7], [(0, [1, 5, 6, 7]), (1, [5, 6, 7]), (2, [4, 5, 6, 7]), (3, [4, 5, 6, 7]), (4, [5, 6, 7]), (5, [6, 7]), (6, [7])])], loops := [(15, [6])], cuts := [] }
theorem k_spec_l2Bent (v0 v1 : Value) (w : World) (R : Value → World → Prop) : vc PP A_spec_l2Bent ((Tryz.f72.body).getD .skip) (retF PP Tryz.f72.results.toList R) (nthV [v0, v1]) w = F_spec_l2Bent PP v0 v1 w R := by kernel_rfl
theorem c_spec_l2Bent {v0 v1 : Value} {w : World} {R : Value → World → Prop} (h : F_spec_l2Bent PP v0 v1 w R) : vcall PP n_spec_l2Bent #[v0, v1] w R :=
  call_of_vc (T := A_spec_l2Bent) (c := (Tryz.f72.body).getD .skip) (n := 57) mixed Tryz.func72 rfl rfl (by kernel_rfl) (by kernel_rfl) rfl (by rw [k_spec_l2Bent]; exact h)
def F_spec_l3Bool (P : Program) (v0 : Value) (w : World) (R : Value → World → Prop) : Prop :=
 valloc P T_impl_Term w fun t2 w_1 =>
 vif v0 (
 vbuild P T_impl_Term [(0, (.int .i64 24))] w_1 fun t4 w_2 =>
 vstore P T_impl_Term t2 t4 w_2 fun _ w_3 =>
 vlv P T_impl_Term t2 w_3 fun r2 w_4 =>
 R r2 w_4) (
 vcall P n_spec_l3False #[] w_1 fun t5 w_5 =>
 vstore P T_impl_Term t2 t5 w_5 fun _ w_6 =>
 vlv P T_impl_Term t2 w_6 fun r2_1 w_7 =>
 R r2_1 w_7)
def A_spec_l3Bool : Ann := { ord := [], loops := [], cuts := [] }
theorem k_spec_l3Bool (v0 : Value) (w : World) (R : Value → World → Prop) : vc PP A_spec_l3Bool ((Tryz.f73.body).getD .skip) (retF PP Tryz.f73.results.toList R) (nthV [v0]) w = F_spec_l3Bool PP v0 w R := by kernel_rfl
theorem c_spec_l3Bool {v0 : Value} {w : World} {R : Value → World → Prop} (h : F_spec_l3Bool PP v0 w R) : vcall PP n_spec_l3Bool #[v0] w R :=
  call_of_vc (T := A_spec_l3Bool) (c := (Tryz.f73.body).getD .skip) (n := 6) mixed Tryz.func73 rfl rfl (by kernel_rfl) (by kernel_rfl) rfl (by rw [k_spec_l3Bool]; exact h)
def F_spec_l2Leafy (P : Program) (v0 v1 v2 : Value) (w : World) (R : Value → World → Prop) : Prop :=
 valloc P T_impl_Term w fun t6 w_1 =>
 vbin P .eql T_int true v2 (.int .i64 0) w_1 fun t11 w_2 =>
 vif t11 (
 vbuild P T_impl_Term [(0, (.int .i64 24))] w_2 fun t12 w_3 =>
 vstore P T_impl_Term t6 t12 w_3 fun _ w_4 =>
 vlv P T_impl_Term t6 w_4 fun r6 w_5 =>
 R r6 w_5) (
 vbi P .len [T_Limpl_Decl] T_int [v1] w_2 fun t14 w_6 =>
 vcall P n_spec_l12Rd_pick #[v0, t14] w_6 fun t17 w_7 =>
 vloop [(.int .i64 0)] w_7 fun C u _ w_8 =>
 vjoin (fun J =>
 vbin P .lss T_int false (sl 0 u) t14 w_8 fun t20 w_10 =>
 vif t20 (
 vcall P n_spec_l12Rd_pick #[v0, (.int .i64 4)] w_10 fun t23 w_11 =>
 vbin P .gtr T_int true t23 (.int .i64 0) w_11 fun t24 w_12 =>
 vif t24 (
 J [] w_12) (
 vcall P n_spec_l1Two #[v2] w_12 fun t52 w_13 =>
 vcall P n_spec_l12Rd_pick #[v0, t52] w_13 fun t53 w_14 =>
 vbuild P T_impl_Term [(0, (.int .i64 20)), (1, v2), (2, t53)] w_14 fun t54 w_15 =>
 vstore P T_impl_Term t6 t54 w_15 fun _ w_16 =>
 vlv P T_impl_Term t6 w_16 fun r6_1 w_17 =>
 R r6_1 w_17)) (
 vcall P n_spec_l1Two #[v2] w_10 fun t52_1 w_18 =>
 vcall P n_spec_l12Rd_pick #[v0, t52_1] w_18 fun t53_1 w_19 =>
 vbuild P T_impl_Term [(0, (.int .i64 20)), (1, v2), (2, t53_1)] w_19 fun t54_1 w_20 =>
 vstore P T_impl_Term t6 t54_1 w_20 fun _ w_21 =>
 vlv P T_impl_Term t6 w_21 fun r6_2 w_22 =>
 R r6_2 w_22)) (fun _ _ w_9 =>
 vbin P .add T_int false t17 (sl 0 u) w_9 fun t31 w_23 =>
 vbin P .rem T_int false t31 t14 w_23 fun t33 w_24 =>
 viaddr P T_Limpl_Decl v1 t33 w_24 fun t34 w_25 =>
 vfaddr P T_impl_Decl t34 1 w_25 fun t35 w_26 =>
 vload P T_int t35 w_26 fun t36 w_27 =>
 vbin P .eql T_int false t36 v2 w_27 fun t38 w_28 =>
 vif t38 (
 vbin P .add T_int false t17 (sl 0 u) w_28 fun t42 w_29 =>
 vbin P .rem T_int false t42 t14 w_29 fun t44 w_30 =>
 viaddr P T_Limpl_Decl v1 t44 w_30 fun t45 w_31 =>
 vfaddr P T_impl_Decl t45 0 w_31 fun t46 w_32 =>
 vload P T_string t46 w_32 fun t47 w_33 =>
 vbuild P T_impl_Term [(0, (.int .i64 21)), (3, t47)] w_33 fun t48 w_34 =>
 vstore P T_impl_Term t6 t48 w_34 fun _ w_35 =>
 vlv P T_impl_Term t6 w_35 fun r6_3 w_36 =>
 R r6_3 w_36) (
 vbin P .add T_int true (sl 0 u) (.int .i64 1) w_28 fun t27 w_37 =>
 C [t27] w_37)))
def A_spec_l2Leafy : Ann := { ord := [], loops := [(6, [9])], cuts := [(28680, [])] }
theorem k_spec_l2Leafy (v0 v1 v2 : Value) (w : World) (R : Value → World → Prop) : vc PP A_spec_l2Leafy ((Tryz.f74.body).getD .skip) (retF PP Tryz.f74.results.toList R) (nthV [v0, v1, v2]) w = F_spec_l2Leafy PP v0 v1 v2 w R := by kernel_rfl
theorem c_spec_l2Leafy {v0 v1 v2 : Value} {w : World} {R : Value → World → Prop} (h : F_spec_l2Leafy PP v0 v1 v2 w R) : vcall PP n_spec_l2Leafy #[v0, v1, v2] w R :=
  call_of_vc (T := A_spec_l2Leafy) (c := (Tryz.f74.body).getD .skip) (n := 55) mixed Tryz.func74 rfl rfl (by kernel_rfl) (by kernel_rfl) rfl (by rw [k_spec_l2Leafy]; exact h)
def F_impl_VecOk (P : Program) (v0 : Value) (w : World) (R : Value → World → Prop) : Prop :=
 vbox P T_impl_Vec v0 w fun t1 w_1 =>
 vdraw w_1 fun w_2 =>
 vfaddr P T_impl_Vec t1 0 w_2 fun t3 w_3 => w_3 = w_2 ∧
 vload P T_int t3 w_2 fun t4 w_4 => w_4 = w_2 ∧
 vbin P .geq T_int true t4 (.int .i64 1) w_2 fun t5 w_5 => w_5 = w_2 ∧
 vif t5 (
 vfaddr P T_impl_Vec t1 0 w_2 fun t7 w_6 => w_6 = w_2 ∧
 vload P T_int t7 w_2 fun t8 w_7 => w_7 = w_2 ∧
 vbin P .leq T_int true t8 (.int .i64 4) w_2 fun t9 w_8 => w_8 = w_2 ∧
 vif t9 (
 vfaddr P T_impl_Vec t1 1 w_2 fun t12 w_9 => w_9 = w_2 ∧
 vload P T_int t12 w_2 fun t13 w_10 => w_10 = w_2 ∧
 vbin P .geq T_int true t13 (.int .i64 0) w_2 fun t14 w_11 => w_11 = w_2 ∧
 vif t14 (
 vfaddr P T_impl_Vec t1 1 w_2 fun t17 w_12 => w_12 = w_2 ∧
 vload P T_int t17 w_2 fun t18 w_13 => w_13 = w_2 ∧
 vfaddr P T_impl_Vec t1 0 w_2 fun t19 w_14 => w_14 = w_2 ∧
 vload P T_int t19 w_2 fun t20 w_15 => w_15 = w_2 ∧
 vbin P .shl T_int true (.int .i64 1) t20 w_2 fun t21 w_16 => w_16 = w_2 ∧
 vbin P .lss T_int false t18 t21 w_2 fun t22 w_17 => w_17 = w_2 ∧
 R t22 w_2) (
 R (.bool false) w_2)) (
 R (.bool false) w_2)) (
 R (.bool false) w_2)
def A_impl_VecOk : Ann := { ord := [(1, [0, 1, 2, 3, 4, 5, 6, 7, 8, 9, 10, 11, 12, 13, 14, 15, 16, 17, 18, 19, 20, 21], [(0, [1, 2, 3, 4, 5, 6, 7, 8, 9, 10, 11, 12, 13, 14, 15, 16, 17, 18, 19, 20, 21]), (1, [2, 3, 4, 5, 6, 7, 8, 9, 10, 11, 12, 13, 14, 15, 16, 17, 18, 19, 20, 21]), (2, [3, 4, 5, 6, 7, 8, 9, 10, 11, 12, 13, 14, 15, 16, 17, 18, 19, 20, 21]), (3, [4, 5, 6, 7, 8, 9, 10, 11, 12, 13, 14, 15, 16, 17, 18, 19, 20, 21]), (4, [5, 6, 7, 8, 9, 10, 11, 12, 13, 14, 15, 16, 17, 18, 19, 20, 21]), (5, [6, 7, 8, 9, 10, 11, 12, 13, 14, 15, 16, 17, 18, 19, 20, 21]), (6, [7, 8, 9, 10, 11, 12, 13, 14, 15, 16, 17, 18, 19, 20, 21]), (7, [8, 9, 10, 11, 12, 13, 14, 15, 16, 17, 18, 19, 20, 21]), (8, [9, 10, 11, 12, 13, 14, 15, 16, 17, 18, 19, 20, 21]), (9, [10, 11, 12, 13, 14, 15, 16, 17, 18, 19, 20, 21]), (10, [11, 12, 13, 14, 15, 16, 17, 18, 19, 20, 21]), (11, [12, 13, 14, 15, 16, 17, 18, 19, 20, 21]), (12, [13, 14, 15, 16, 17, 18, 19, 20, 21]), (13, [14, 15, 16, 17, 18, 19, 20, 21]), (14, [15, 19, 20, 21]), (15, [19, 20, 21]), (16, [17, 18, 19, 20, 21]), (17, [18, 19, 20, 21]), (18, [19, 20, 21]), (19, [20, 21]), (20, [21])])], loops := [], cuts := [] }
theorem k_impl_VecOk (v0 : Value) (w : World) (R : Value → World → Prop) : vc PP A_impl_VecOk ((Tryz.f75.body).getD .skip) (retF PP Tryz.f75.results.toList R) (nthV [v0]) w = F_impl_VecOk PP v0 w R := by kernel_rfl
theorem c_impl_VecOk {v0 : Value} {w : World} {R : Value → World → Prop} (h : F_impl_VecOk PP v0 w R) : vcall PP n_impl_VecOk #[v0] w R :=
  call_of_vc (T := A_impl_VecOk) (c := (Tryz.f75.body).getD .skip) (n := 24) mixed Tryz.func75 rfl rfl (by kernel_rfl) (by kernel_rfl) rfl (by rw [k_impl_VecOk]; exact h)
def F_impl_falseTerm (P : Program) (w : World) (R : Value → World → Prop) : Prop :=
 valloc P T_impl_Term w fun t0 w_1 =>
 vbuild P T_impl_Term [(0, (.int .i64 24))] w_1 fun t1 w_2 =>
 vbuildS P T_Limpl_Term 1 [(0, t1)] w_2 fun t2 w_3 =>
 vbuild P T_impl_Term [(0, (.int .i64 25)), (4, t2)] w_3 fun t3 w_4 =>
 vstore P T_impl_Term t0 t3 w_4 fun _ w_5 =>
 vlv P T_impl_Term t0 w_5 fun r0 w_6 =>
 R r0 w_6
def A_impl_falseTerm : Ann := { ord := [], loops := [], cuts := [] }
theorem k_impl_falseTerm (w : World) (R : Value → World → Prop) : vc PP A_impl_falseTerm ((Tryz.f76.body).getD .skip) (retF PP Tryz.f76.results.toList R) (nthV []) w = F_impl_falseTerm PP  w R := by kernel_rfl
theorem c_impl_falseTerm {w : World} {R : Value → World → Prop} (h : F_impl_falseTerm PP  w R) : vcall PP n_impl_falseTerm #[] w R :=
  call_of_vc (T := A_impl_falseTerm) (c := (Tryz.f76.body).getD .skip) (n := 4) mixed Tryz.func76 rfl rfl (by kernel_rfl) (by kernel_rfl) rfl (by rw [k_impl_falseTerm]; exact h)
def F_spec_TermSame (P : Program) (v0 v1 : Value) (w : World) (R : Value → World → Prop) : Prop :=
 vbox P T_impl_Term v0 w fun t2 w_1 =>
 vbox P T_impl_Term v1 w_1 fun t3 w_2 =>
 vjoin (fun J =>
 vfaddr P T_impl_Term t2 0 w_2 fun t6 w_4 =>
 vload P T_int t6 w_4 fun t7 w_5 =>
 vfaddr P T_impl_Term t3 0 w_5 fun t8 w_6 =>
 vload P T_int t8 w_6 fun t9 w_7 =>
 vbin P .neq T_int false t7 t9 w_7 fun t10 w_8 =>
 vif t10 (
 R (.bool false) w_8) (
 vfaddr P T_impl_Term t2 1 w_8 fun t12 w_9 =>
 vload P T_int t12 w_9 fun t13 w_10 =>
 vfaddr P T_impl_Term t3 1 w_10 fun t14 w_11 =>
 vload P T_int t14 w_11 fun t15 w_12 =>
 vbin P .neq T_int false t13 t15 w_12 fun t16 w_13 =>
 vif t16 (
 R (.bool false) w_13) (
 vfaddr P T_impl_Term t2 2 w_13 fun t19 w_14 =>
 vload P T_int t19 w_14 fun t20 w_15 =>
 vfaddr P T_impl_Term t3 2 w_15 fun t21 w_16 =>
 vload P T_int t21 w_16 fun t22 w_17 =>
 vbin P .neq T_int false t20 t22 w_17 fun t23 w_18 =>
 vif t23 (
 R (.bool false) w_18) (
 vfaddr P T_impl_Term t2 3 w_18 fun t26 w_19 =>
 vload P T_string t26 w_19 fun t27 w_20 =>
 vfaddr P T_impl_Term t3 3 w_20 fun t28 w_21 =>
 vload P T_string t28 w_21 fun t29 w_22 =>
 vbin P .neq T_string false t27 t29 w_22 fun t30 w_23 =>
 vif t30 (
 R (.bool false) w_23) (
 vfaddr P T_impl_Term t2 4 w_23 fun t33 w_24 =>
 vload P T_Limpl_Term t33 w_24 fun t34 w_25 =>
 vbi P .len [T_Limpl_Term] T_int [t34] w_25 fun t35 w_26 =>
 vfaddr P T_impl_Term t3 4 w_26 fun t36 w_27 =>
 vload P T_Limpl_Term t36 w_27 fun t37 w_28 =>
 vbi P .len [T_Limpl_Term] T_int [t37] w_28 fun t38 w_29 =>
 vbin P .neq T_int false t35 t38 w_29 fun t39 w_30 =>
 vif t39 (
 R (.bool false) w_30) (
 J [] w_30)))))) (fun _ _ w_3 =>
 vloop [(.int .i64 0)] w_3 fun C u_1 _ w_31 =>
 vfaddr P T_impl_Term t2 4 w_31 fun t42 w_32 =>
 vload P T_Limpl_Term t42 w_32 fun t43 w_33 =>
 vbi P .len [T_Limpl_Term] T_int [t43] w_33 fun t44 w_34 =>
 vbin P .lss T_int false (sl 0 u_1) t44 w_34 fun t45 w_35 =>
 vif t45 (
 vdraw w_35 fun w_36 =>
 vfaddr P T_impl_Term t2 4 w_36 fun t48 w_37 => w_37 = w_36 ∧
 vload P T_Limpl_Term t48 w_36 fun t49 w_38 => w_38 = w_36 ∧
 viaddr P T_Limpl_Term t49 (sl 0 u_1) w_36 fun t51 w_39 => w_39 = w_36 ∧
 vload P T_impl_Term t51 w_36 fun t52 w_40 => w_40 = w_36 ∧
 vfaddr P T_impl_Term t3 4 w_36 fun t53 w_41 => w_41 = w_36 ∧
 vload P T_Limpl_Term t53 w_36 fun t54 w_42 => w_42 = w_36 ∧
 viaddr P T_Limpl_Term t54 (sl 0 u_1) w_36 fun t56 w_43 => w_43 = w_36 ∧
 vload P T_impl_Term t56 w_36 fun t57 w_44 => w_44 = w_36 ∧
 vcall P n_spec_TermSame #[t52, t57] w_36 fun t58 w_45 =>
 vun P .not t58 w_45 fun t59 w_46 => w_46 = w_45 ∧
 vif t59 (
 R (.bool false) w_45) (
 vbin P .add T_int true (sl 0 u_1) (.int .i64 1) w_45 fun t47 w_47 =>
 C [t47] w_47)) (
 R (.bool true) w_35))
def A_spec_TermSame : Ann := { ord := [(6, [0, 1, 2, 3, 4, 5, 6, 7, 8, 9, 10, 11], [(0, [1, 3, 4, 10, 11]), (1, [3, 4, 10, 11]), (2, [3, 4, 10, 11]), (3, [4, 10, 11]), (4, [10, 11]), (5, [6, 8, 9, 10, 11]), (6, [8, 9, 10, 11]), (7, [8, 9, 10, 11]), (8, [9, 10, 11]), (9, [10, 11]), (10, [11])])], loops := [(4, [5])], cuts := [(8195, [])] }
theorem k_spec_TermSame (v0 v1 : Value) (w : World) (R : Value → World → Prop) : vc PP A_spec_TermSame ((Tryz.f77.body).getD .skip) (retF PP Tryz.f77.results.toList R) (nthV [v0, v1]) w = F_spec_TermSame PP v0 v1 w R := by kernel_rfl
theorem c_spec_TermSame {v0 v1 : Value} {w : World} {R : Value → World → Prop} (h : F_spec_TermSame PP v0 v1 w R) : vcall PP n_spec_TermSame #[v0, v1] w R :=
  call_of_vc (T := A_spec_TermSame) (c := (Tryz.f77.body).getD .skip) (n := 60) mixed Tryz.func77 rfl rfl (by kernel_rfl) (by kernel_rfl) rfl (by rw [k_spec_TermSame]; exact h)
def F_spec_l3False (P : Program) (w : World) (R : Value → World → Prop) : Prop :=
 valloc P T_impl_Term w fun t0 w_1 =>
 vbuild P T_impl_Term [(0, (.int .i64 24))] w_1 fun t1 w_2 =>
 vbuildS P T_Limpl_Term 1 [(0, t1)] w_2 fun t2 w_3 =>
 vbuild P T_impl_Term [(0, (.int .i64 25)), (4, t2)] w_3 fun t3 w_4 =>
 vstore P T_impl_Term t0 t3 w_4 fun _ w_5 =>
 vlv P T_impl_Term t0 w_5 fun r0 w_6 =>
 R r0 w_6
def A_spec_l3False : Ann := { ord := [], loops := [], cuts := [] }
theorem k_spec_l3False (w : World) (R : Value → World → Prop) : vc PP A_spec_l3False ((Tryz.f78.body).getD .skip) (retF PP Tryz.f78.results.toList R) (nthV []) w = F_spec_l3False PP  w R := by kernel_rfl
theorem c_spec_l3False {w : World} {R : Value → World → Prop} (h : F_spec_l3False PP  w R) : vcall PP n_spec_l3False #[] w R :=
  call_of_vc (T := A_spec_l3False) (c := (Tryz.f78.body).getD .skip) (n := 4) mixed Tryz.func78 rfl rfl (by kernel_rfl) (by kernel_rfl) rfl (by rw [k_spec_l3False]; exact h)
def F_spec_VecOk (P : Program) (v0 : Value) (w : World) (R : Value → World → Prop) : Prop :=
 vbox P T_impl_Vec v0 w fun t1 w_1 =>
 vdraw w_1 fun w_2 =>
 vfaddr P T_impl_Vec t1 0 w_2 fun t3 w_3 => w_3 = w_2 ∧
 vload P T_int t3 w_2 fun t4 w_4 => w_4 = w_2 ∧
 vbin P .geq T_int true t4 (.int .i64 1) w_2 fun t5 w_5 => w_5 = w_2 ∧
 vif t5 (
 vfaddr P T_impl_Vec t1 0 w_2 fun t7 w_6 => w_6 = w_2 ∧
 vload P T_int t7 w_2 fun t8 w_7 => w_7 = w_2 ∧
 vbin P .leq T_int true t8 (.int .i64 4) w_2 fun t9 w_8 => w_8 = w_2 ∧
 vif t9 (
 vfaddr P T_impl_Vec t1 1 w_2 fun t12 w_9 => w_9 = w_2 ∧
 vload P T_int t12 w_2 fun t13 w_10 => w_10 = w_2 ∧
 vbin P .geq T_int true t13 (.int .i64 0) w_2 fun t14 w_11 => w_11 = w_2 ∧
 vif t14 (
 vfaddr P T_impl_Vec t1 1 w_2 fun t17 w_12 => w_12 = w_2 ∧
 vload P T_int t17 w_2 fun t18 w_13 => w_13 = w_2 ∧
 vfaddr P T_impl_Vec t1 0 w_2 fun t19 w_14 => w_14 = w_2 ∧
 vload P T_int t19 w_2 fun t20 w_15 => w_15 = w_2 ∧
 vcall P n_spec_l1Two #[t20] w_2 fun t21 w_16 => (vload P T_int t17 w_16 fun v x => v = t18 ∧ x = w_16) ∧ (vfaddr P T_impl_Vec t1 1 w_16 fun v x => v = t17 ∧ x = w_16) ∧
 vbin P .lss T_int false t18 t21 w_16 fun t22 w_17 => w_17 = w_16 ∧
 R t22 w_16) (
 R (.bool false) w_2)) (
 R (.bool false) w_2)) (
 R (.bool false) w_2)
def A_spec_VecOk : Ann := { ord := [(1, [0, 1, 2, 3, 4, 5, 6, 7, 8, 9, 10, 11, 12, 13, 14, 15, 16, 17, 18, 19, 20, 21], [(0, [1, 2, 3, 4, 5, 6, 7, 8, 9, 10, 11, 12, 13, 14, 15, 16, 17, 18, 19, 20, 21]), (1, [2, 3, 4, 5, 6, 7, 8, 9, 10, 11, 12, 13, 14, 15, 16, 17, 18, 19, 20, 21]), (2, [3, 4, 5, 6, 7, 8, 9, 10, 11, 12, 13, 14, 15, 16, 17, 18, 19, 20, 21]), (3, [4, 5, 6, 7, 8, 9, 10, 11, 12, 13, 14, 15, 16, 17, 18, 19, 20, 21]), (4, [5, 6, 7, 8, 9, 10, 11, 12, 13, 14, 15, 16, 17, 18, 19, 20, 21]), (5, [6, 7, 8, 9, 10, 11, 12, 13, 14, 15, 16, 17, 18, 19, 20, 21]), (6, [7, 8, 9, 10, 11, 12, 13, 14, 15, 16, 17, 18, 19, 20, 21]), (7, [8, 9, 10, 11, 12, 13, 14, 15, 16, 17, 18, 19, 20, 21]), (8, [9, 10, 11, 12, 13, 14, 15, 16, 17, 18, 19, 20, 21]), (9, [10, 11, 12, 13, 14, 15, 16, 17, 18, 19, 20, 21]), (10, [11, 12, 13, 14, 15, 16, 17, 18, 19, 20, 21]), (11, [12, 13, 14, 15, 16, 17, 18, 19, 20, 21]), (12, [13, 14, 15, 16, 17, 18, 19, 20, 21]), (13, [14, 15, 16, 17, 18, 19, 20, 21]), (14, [15, 19, 20, 21]), (15, [19, 20, 21]), (16, [17, 18, 19, 20, 21]), (17, [18, 19, 20, 21]), (18, [19, 20, 21]), (19, [20, 21]), (20, [21])])], loops := [], cuts := [] }
theorem k_spec_VecOk (v0 : Value) (w : World) (R : Value → World → Prop) : vc PP A_spec_VecOk ((Tryz.f79.body).getD .skip) (retF PP Tryz.f79.results.toList R) (nthV [v0]) w = F_spec_VecOk PP v0 w R := by kernel_rfl
theorem c_spec_VecOk {v0 : Value} {w : World} {R : Value → World → Prop} (h : F_spec_VecOk PP v0 w R) : vcall PP n_spec_VecOk #[v0] w R :=
  call_of_vc (T := A_spec_VecOk) (c := (Tryz.f79.body).getD .skip) (n := 24) mixed Tryz.func79 rfl rfl (by kernel_rfl) (by kernel_rfl) rfl (by rw [k_spec_VecOk]; exact h)
def F_spec_l2Decls (P : Program) (v0 : Value) (w : World) (R : Value → World → Prop) : Prop :=
 vbuildS P T_Lstring 4 [(0, (.string { data := #[120] })), (1, (.string { data := #[121] })), (2, (.string { data := #[122] })), (3, (.string { data := #[119] }))] w fun t8 w_1 =>
 vbuildS P T_Limpl_Decl 0 [] w_1 fun t9 w_2 =>
 vloop [t9, (.int .i64 0), (.int .i64 0)] w_2 fun C u _ w_3 =>
 vjoin (fun J =>
 vcall P n_spec_l12Rd_pick #[v0, (.int .i64 4)] w_3 fun t12 w_5 =>
 vbin P .add T_int true (.int .i64 1) t12 w_5 fun t13 w_6 =>
 vbin P .lss T_int false (sl 2 u) t13 w_6 fun t14 w_7 =>
 vif t14 (
 vbin P .lss T_int true (sl 2 u) (.int .i64 4) w_7 fun t17 w_8 =>
 vif t17 (
 J [] w_8) (
 R (sl 0 u) w_8)) (
 R (sl 0 u) w_7)) (fun _ _ w_4 =>
 vcall P n_spec_l12Rd_pick #[v0, (.int .i64 4)] w_4 fun t22 w_9 =>
 vbin P .add T_int true (.int .i64 1) t22 w_9 fun t23 w_10 =>
 vbin P .sub T_int true (.int .i64 8) (sl 1 u) w_10 fun t25 w_11 =>
 vcall P n_spec_l1Min #[t23, t25] w_11 fun t26 w_12 =>
 vbin P .lss T_int true t26 (.int .i64 1) w_12 fun t28 w_13 =>
 vif t28 (
 R (sl 0 u) w_13) (
 viaddr P T_Lstring t8 (sl 2 u) w_13 fun t32 w_14 =>
 vload P T_string t32 w_14 fun t33 w_15 =>
 vbuild P T_impl_Decl [(0, t33), (1, t26)] w_15 fun t35 w_16 =>
 vbuildS P T_Limpl_Decl 1 [(0, t35)] w_16 fun t36 w_17 =>
 vbi P .append [T_Limpl_Decl, T_Limpl_Decl] T_Limpl_Decl [(sl 0 u), t36] w_17 fun t37 w_18 =>
 vbin P .add T_int false (sl 1 u) t26 w_18 fun t40 w_19 =>
 vbin P .add T_int true (sl 2 u) (.int .i64 1) w_19 fun t20 w_20 =>
 C [t37, t40, t20] w_20))
def A_spec_l2Decls : Ann := { ord := [], loops := [(5, [4, 5, 6])], cuts := [(24583, [])] }
theorem k_spec_l2Decls (v0 : Value) (w : World) (R : Value → World → Prop) : vc PP A_spec_l2Decls ((Tryz.f80.body).getD .skip) (retF PP Tryz.f80.results.toList R) (nthV [v0]) w = F_spec_l2Decls PP v0 w R := by kernel_rfl
theorem c_spec_l2Decls {v0 : Value} {w : World} {R : Value → World → Prop} (h : F_spec_l2Decls PP v0 w R) : vcall PP n_spec_l2Decls #[v0] w R :=
  call_of_vc (T := A_spec_l2Decls) (c := (Tryz.f80.body).getD .skip) (n := 42) mixed Tryz.func80 rfl rfl (by kernel_rfl) (by kernel_rfl) rfl (by rw [k_spec_l2Decls]; exact h)
def F_spec_l2Some (P : Program) (v0 v1 v2 : Value) (w : World) (R : Value → World → Prop) : Prop :=
 valloc P T_impl_Term w fun t6 w_1 =>
 vloop [(.int .i64 4)] w_1 fun C u _ w_2 =>
 vbin P .gtr T_int true (sl 0 u) (.int .i64 0) w_2 fun t10 w_3 =>
 vif t10 (
 vcall P n_spec_l2Term #[v0, v1, v2, (sl 0 u)] w_3 fun t17 w_4 =>
 valloc P T_impl_Term w_4 fun t8 w_5 =>
 vstore P T_impl_Term t8 t17 w_5 fun _ w_6 =>
 vload P T_impl_Term t8 w_6 fun t19 w_7 =>
 vcall P n_spec_TermSort #[v1, t19] w_7 fun t20 w_8 =>
 vbin P .geq T_int true t20 (.int .i64 0) w_8 fun t21 w_9 =>
 vif t21 (
 vload P T_impl_Term t8 w_9 fun t22 w_10 =>
 vstore P T_impl_Term t6 t22 w_10 fun _ w_11 =>
 vlv P T_impl_Term t6 w_11 fun r6 w_12 =>
 R r6 w_12) (
 vbin P .sub T_int true (sl 0 u) (.int .i64 1) w_9 fun t12 w_13 =>
 C [t12] w_13)) (
 vcall P n_spec_l2Leafy #[v0, v1, v2] w_3 fun t26 w_14 =>
 vstore P T_impl_Term t6 t26 w_14 fun _ w_15 =>
 vlv P T_impl_Term t6 w_15 fun r6_1 w_16 =>
 R r6_1 w_16)
def A_spec_l2Some : Ann := { ord := [], loops := [(2, [7])], cuts := [] }
theorem k_spec_l2Some (v0 v1 v2 : Value) (w : World) (R : Value → World → Prop) : vc PP A_spec_l2Some ((Tryz.f81.body).getD .skip) (retF PP Tryz.f81.results.toList R) (nthV [v0, v1, v2]) w = F_spec_l2Some PP v0 v1 v2 w R := by kernel_rfl
theorem c_spec_l2Some {v0 v1 v2 : Value} {w : World} {R : Value → World → Prop} (h : F_spec_l2Some PP v0 v1 v2 w R) : vcall PP n_spec_l2Some #[v0, v1, v2] w R :=
  call_of_vc (T := A_spec_l2Some) (c := (Tryz.f81.body).getD .skip) (n := 27) mixed Tryz.func81 rfl rfl (by kernel_rfl) (by kernel_rfl) rfl (by rw [k_spec_l2Some]; exact h)
def F_spec_l12Rd_num (P : Program) (v0 v1 : Value) (w : World) (R : Value → World → Prop) : Prop :=
 vbi P .len [T_Lint] T_int [v1] w fun t8 w_1 =>
 vcall P n_spec_l12Rd_pick #[v0, t8] w_1 fun t9 w_2 =>
 viaddr P T_Lint v1 t9 w_2 fun t10 w_3 =>
 vload P T_int t10 w_3 fun t11 w_4 =>
 R t11 w_4
def A_spec_l12Rd_num : Ann := { ord := [], loops := [], cuts := [] }
theorem k_spec_l12Rd_num (v0 v1 : Value) (w : World) (R : Value → World → Prop) : vc PP A_spec_l12Rd_num ((Tryz.f82.body).getD .skip) (retF PP Tryz.f82.results.toList R) (nthV [v0, v1]) w = F_spec_l12Rd_num PP v0 v1 w R := by kernel_rfl
theorem c_spec_l12Rd_num {v0 v1 : Value} {w : World} {R : Value → World → Prop} (h : F_spec_l12Rd_num PP v0 v1 w R) : vcall PP n_spec_l12Rd_num #[v0, v1] w R :=
  call_of_vc (T := A_spec_l12Rd_num) (c := (Tryz.f82.body).getD .skip) (n := 12) mixed Tryz.func82 rfl rfl (by kernel_rfl) (by kernel_rfl) rfl (by rw [k_spec_l12Rd_num]; exact h)
def F_spec_l3Dull (P : Program) (v0 v1 v2 : Value) (w : World) (R : Value → World → Prop) : Prop :=
 vbox P T_impl_Term v2 w fun t5 w_1 =>
 valloc P T_impl_Term w_1 fun t6 w_2 =>
 vload P T_impl_Term t5 w_2 fun t10 w_3 =>
 vcall P n_spec_l2Sort #[v1, t10] w_3 fun t11 w_4 =>
 vcall P n_spec_l12Rd_pick #[v0, (.int .i64 8)] w_4 fun t13 w_5 =>
 vbin P .eql T_int true t11 (.int .i64 0) w_5 fun t15 w_6 =>
 vif t15 (
 vjoin (fun J =>
 vjoin (fun J_1 =>
 vbin P .eql T_int true t13 (.int .i64 0) w_6 fun t18 w_9 =>
 vif t18 (
 J_1 [t18] w_9) (
 vbin P .eql T_int true t13 (.int .i64 1) w_9 fun t19 w_10 =>
 J_1 [t19] w_10)) (fun u_1 _ w_8 =>
 vif (sl 0 u_1) (
 vload P T_impl_Term t5 w_8 fun t20 w_11 =>
 vbuildS P T_Limpl_Term 1 [(0, t20)] w_11 fun t21 w_12 =>
 vbuild P T_impl_Term [(0, (.int .i64 25)), (4, t21)] w_12 fun t22 w_13 =>
 vbuildS P T_Limpl_Term 1 [(0, t22)] w_13 fun t23 w_14 =>
 vbuild P T_impl_Term [(0, (.int .i64 25)), (4, t23)] w_14 fun t24 w_15 =>
 vstore P T_impl_Term t6 t24 w_15 fun _ w_16 =>
 vlv P T_impl_Term t6 w_16 fun r6 w_17 =>
 R r6 w_17) (
 vbin P .eql T_int true t13 (.int .i64 2) w_8 fun t26 w_18 =>
 vif t26 (
 vload P T_impl_Term t5 w_18 fun t27 w_19 =>
 vbuild P T_impl_Term [(0, (.int .i64 24))] w_19 fun t28 w_20 =>
 vbuildS P T_Limpl_Term 2 [(0, t27), (1, t28)] w_20 fun t29 w_21 =>
 vbuild P T_impl_Term [(0, (.int .i64 26)), (4, t29)] w_21 fun t30 w_22 =>
 vstore P T_impl_Term t6 t30 w_22 fun _ w_23 =>
 vlv P T_impl_Term t6 w_23 fun r6_1 w_24 =>
 R r6_1 w_24) (
 vbin P .eql T_int true t13 (.int .i64 3) w_18 fun t32 w_25 =>
 vif t32 (
 vdraw w_25 fun w_26 =>
 vload P T_impl_Term t5 w_26 fun t34 w_27 => w_27 = w_26 ∧
 vcall P n_spec_l3False #[] w_26 fun t33 w_28 => (vload P T_impl_Term t5 w_28 fun v x => v = t34 ∧ x = w_28) ∧
 vbuildS P T_Limpl_Term 2 [(0, t33), (1, t34)] w_28 fun t35 w_29 =>
 vbuild P T_impl_Term [(0, (.int .i64 27)), (4, t35)] w_29 fun t36 w_30 => w_30 = w_29 ∧
 vstore P T_impl_Term t6 t36 w_29 fun _ w_31 =>
 vlv P T_impl_Term t6 w_31 fun r6_2 w_32 =>
 R r6_2 w_32) (
 vbin P .eql T_int true t13 (.int .i64 4) w_25 fun t38 w_33 =>
 vif t38 (
 vload P T_impl_Term t5 w_33 fun t39 w_34 =>
 vload P T_impl_Term t5 w_34 fun t40 w_35 =>
 vbuildS P T_Limpl_Term 2 [(0, t39), (1, t40)] w_35 fun t41 w_36 =>
 vbuild P T_impl_Term [(0, (.int .i64 27)), (4, t41)] w_36 fun t42 w_37 =>
 vstore P T_impl_Term t6 t42 w_37 fun _ w_38 =>
 vlv P T_impl_Term t6 w_38 fun r6_3 w_39 =>
 R r6_3 w_39) (
 J [] w_33)))))) (fun _ _ w_7 =>
 vload P T_impl_Term t5 w_7 fun t43 w_40 =>
 vload P T_impl_Term t5 w_40 fun t44 w_41 =>
 vload P T_impl_Term t5 w_41 fun t45 w_42 =>
 vbuildS P T_Limpl_Term 3 [(0, t43), (1, t44), (2, t45)] w_42 fun t46 w_43 =>
 vbuild P T_impl_Term [(0, (.int .i64 23)), (4, t46)] w_43 fun t47 w_44 =>
 vstore P T_impl_Term t6 t47 w_44 fun _ w_45 =>
 vlv P T_impl_Term t6 w_45 fun r6_4 w_46 =>
 R r6_4 w_46)) (
 vbin P .eql T_int true t13 (.int .i64 0) w_6 fun t50 w_47 =>
 vif t50 (
 vload P T_impl_Term t5 w_47 fun t51 w_48 =>
 vbuildS P T_Limpl_Term 1 [(0, t51)] w_48 fun t52 w_49 =>
 vbuild P T_impl_Term [(0, (.int .i64 2)), (4, t52)] w_49 fun t53 w_50 =>
 vbuildS P T_Limpl_Term 1 [(0, t53)] w_50 fun t54 w_51 =>
 vbuild P T_impl_Term [(0, (.int .i64 2)), (4, t54)] w_51 fun t55 w_52 =>
 vstore P T_impl_Term t6 t55 w_52 fun _ w_53 =>
 vlv P T_impl_Term t6 w_53 fun r6_5 w_54 =>
 R r6_5 w_54) (
 vbin P .eql T_int true t13 (.int .i64 1) w_47 fun t57 w_55 =>
 vif t57 (
 vdraw w_55 fun w_56 =>
 vload P T_impl_Term t5 w_56 fun t61 w_57 => w_57 = w_56 ∧
 vcall P n_spec_l12Rd_pick #[v0, (.int .i64 11)] w_56 fun t59 w_58 => (vload P T_impl_Term t5 w_58 fun v x => v = t61 ∧ x = w_58) ∧
 vbin P .add T_int true (.int .i64 3) t59 w_58 fun t60 w_59 => w_59 = w_58 ∧
 vcall P n_spec_l3Zero #[t11] w_58 fun t63 w_60 => (vbin P .add T_int true (.int .i64 3) t59 w_60 fun v x => v = t60 ∧ x = w_60) ∧ (vload P T_impl_Term t5 w_60 fun v x => v = t61 ∧ x = w_60) ∧
 vbuildS P T_Limpl_Term 2 [(0, t61), (1, t63)] w_60 fun t64 w_61 => (vbin P .add T_int true (.int .i64 3) t59 w_61 fun v x => v = t60 ∧ x = w_61) ∧
 vbuild P T_impl_Term [(0, t60), (4, t64)] w_61 fun t65 w_62 => w_62 = w_61 ∧
 vstore P T_impl_Term t6 t65 w_61 fun _ w_63 =>
 vlv P T_impl_Term t6 w_63 fun r6_6 w_64 =>
 R r6_6 w_64) (
 vbin P .eql T_int true t13 (.int .i64 2) w_55 fun t67 w_65 =>
 vif t67 (
 vdraw w_65 fun w_66 =>
 vload P T_impl_Term t5 w_66 fun t73 w_67 => w_67 = w_66 ∧
 vcall P n_spec_l12Rd_pick #[v0, (.int .i64 11)] w_66 fun t69 w_68 => (vload P T_impl_Term t5 w_68 fun v x => v = t73 ∧ x = w_68) ∧
 vbin P .add T_int true (.int .i64 3) t69 w_68 fun t70 w_69 => w_69 = w_68 ∧
 vcall P n_spec_l3Zero #[t11] w_68 fun t72 w_70 => (vbin P .add T_int true (.int .i64 3) t69 w_70 fun v x => v = t70 ∧ x = w_70) ∧ (vload P T_impl_Term t5 w_70 fun v x => v = t73 ∧ x = w_70) ∧
 vbuildS P T_Limpl_Term 2 [(0, t72), (1, t73)] w_70 fun t74 w_71 => (vbin P .add T_int true (.int .i64 3) t69 w_71 fun v x => v = t70 ∧ x = w_71) ∧
 vbuild P T_impl_Term [(0, t70), (4, t74)] w_71 fun t75 w_72 => w_72 = w_71 ∧
 vstore P T_impl_Term t6 t75 w_71 fun _ w_73 =>
 vlv P T_impl_Term t6 w_73 fun r6_7 w_74 =>
 R r6_7 w_74) (
 vbin P .eql T_int true t13 (.int .i64 3) w_65 fun t77 w_75 =>
 vif t77 (
 vdraw w_75 fun w_76 =>
 vload P T_impl_Term t5 w_76 fun t81 w_77 => w_77 = w_76 ∧
 vload P T_impl_Term t5 w_76 fun t82 w_78 => w_78 = w_76 ∧
 (vcall P n_spec_l12Rd_pick #[v0, (.int .i64 11)] w_76 fun t79 w_79 => (vload P T_impl_Term t5 w_79 fun v x => v = t82 ∧ x = w_79) ∧ (vload P T_impl_Term t5 w_79 fun v x => v = t81 ∧ x = w_79) ∧
 vbin P .add T_int true (.int .i64 3) t79 w_79 fun t80 w_80 => w_80 = w_79 ∧
 (vbuildS P T_Limpl_Term 2 [(0, t81), (1, t82)] w_79 fun t83 w_81 => (vbin P .add T_int true (.int .i64 3) t79 w_81 fun v x => v = t80 ∧ x = w_81) ∧
 vbuild P T_impl_Term [(0, t80), (4, t83)] w_81 fun t84 w_82 => w_82 = w_81 ∧
 (vstore P T_impl_Term t6 t84 w_81 fun _ w_83 =>
 vlv P T_impl_Term t6 w_83 fun r6_8 w_84 =>
 R r6_8 w_84) ∧
 True) ∧
 True) ∧
 (vbuildS P T_Limpl_Term 2 [(0, t81), (1, t82)] w_76 fun t83_1 w_85 =>
 (vcall P n_spec_l12Rd_pick #[v0, (.int .i64 11)] w_85 fun t79_1 w_86 =>
 vbin P .add T_int true (.int .i64 3) t79_1 w_86 fun t80_1 w_87 => w_87 = w_86 ∧
 vbuild P T_impl_Term [(0, t80_1), (4, t83_1)] w_86 fun t84_1 w_88 => w_88 = w_86 ∧
 (vstore P T_impl_Term t6 t84_1 w_86 fun _ w_89 =>
 vlv P T_impl_Term t6 w_89 fun r6_9 w_90 =>
 R r6_9 w_90) ∧
 True) ∧
 True) ∧
 True) (
 vbin P .eql T_int true t13 (.int .i64 4) w_75 fun t86 w_91 =>
 vif t86 (
 vdraw w_91 fun w_92 =>
 vload P T_impl_Term t5 w_92 fun t90 w_93 => w_93 = w_92 ∧
 vload P T_impl_Term t5 w_92 fun t91 w_94 => w_94 = w_92 ∧
 (vcall P n_spec_l12Rd_pick #[v0, (.int .i64 3)] w_92 fun t88 w_95 => (vload P T_impl_Term t5 w_95 fun v x => v = t91 ∧ x = w_95) ∧ (vload P T_impl_Term t5 w_95 fun v x => v = t90 ∧ x = w_95) ∧
 vbin P .add T_int true (.int .i64 15) t88 w_95 fun t89 w_96 => w_96 = w_95 ∧
 (vbuildS P T_Limpl_Term 2 [(0, t90), (1, t91)] w_95 fun t92 w_97 => (vbin P .add T_int true (.int .i64 15) t88 w_97 fun v x => v = t89 ∧ x = w_97) ∧
 vbuild P T_impl_Term [(0, t89), (4, t92)] w_97 fun t93 w_98 => w_98 = w_97 ∧
 (vstore P T_impl_Term t6 t93 w_97 fun _ w_99 =>
 vlv P T_impl_Term t6 w_99 fun r6_10 w_100 =>
 R r6_10 w_100) ∧
 True) ∧
 True) ∧
 (vbuildS P T_Limpl_Term 2 [(0, t90), (1, t91)] w_92 fun t92_1 w_101 =>
 (vcall P n_spec_l12Rd_pick #[v0, (.int .i64 3)] w_101 fun t88_1 w_102 =>
 vbin P .add T_int true (.int .i64 15) t88_1 w_102 fun t89_1 w_103 => w_103 = w_102 ∧
 vbuild P T_impl_Term [(0, t89_1), (4, t92_1)] w_102 fun t93_1 w_104 => w_104 = w_102 ∧
 (vstore P T_impl_Term t6 t93_1 w_102 fun _ w_105 =>
 vlv P T_impl_Term t6 w_105 fun r6_11 w_106 =>
 R r6_11 w_106) ∧
 True) ∧
 True) ∧
 True) (
 vbin P .eql T_int true t13 (.int .i64 5) w_91 fun t95 w_107 =>
 vif t95 (
 vbin P .sub T_int true t11 (.int .i64 1) w_107 fun t97 w_108 =>
 vload P T_impl_Term t5 w_108 fun t98 w_109 =>
 vbuildS P T_Limpl_Term 1 [(0, t98)] w_109 fun t99 w_110 =>
 vbuild P T_impl_Term [(0, (.int .i64 22)), (1, t97), (4, t99)] w_110 fun t100 w_111 =>
 vstore P T_impl_Term t6 t100 w_111 fun _ w_112 =>
 vlv P T_impl_Term t6 w_112 fun r6_12 w_113 =>
 R r6_12 w_113) (
 vbin P .eql T_int true t13 (.int .i64 6) w_107 fun t102 w_114 =>
 vif t102 (
 vbuild P T_impl_Term [(0, (.int .i64 20)), (1, t11), (2, (.int .i64 1))] w_114 fun t104 w_115 =>
 vload P T_impl_Term t5 w_115 fun t105 w_116 =>
 vbuildS P T_Limpl_Term 2 [(0, t104), (1, t105)] w_116 fun t106 w_117 =>
 vbuild P T_impl_Term [(0, (.int .i64 8)), (4, t106)] w_117 fun t107 w_118 =>
 vstore P T_impl_Term t6 t107 w_118 fun _ w_119 =>
 vlv P T_impl_Term t6 w_119 fun r6_13 w_120 =>
 R r6_13 w_120) (
 vdraw w_114 fun w_121 =>
 vbuild P T_impl_Term [(0, (.int .i64 24))] w_121 fun t108 w_122 => w_122 = w_121 ∧
 vload P T_impl_Term t5 w_121 fun t109 w_123 => w_123 = w_121 ∧
 vcall P n_spec_l3Zero #[t11] w_121 fun t111 w_124 => (vload P T_impl_Term t5 w_124 fun v x => v = t109 ∧ x = w_124) ∧ (vbuild P T_impl_Term [(0, (.int .i64 24))] w_124 fun v x => v = t108 ∧ x = w_124) ∧
 vbuildS P T_Limpl_Term 3 [(0, t108), (1, t109), (2, t111)] w_124 fun t112 w_125 =>
 vbuild P T_impl_Term [(0, (.int .i64 23)), (4, t112)] w_125 fun t113 w_126 => w_126 = w_125 ∧
 vstore P T_impl_Term t6 t113 w_125 fun _ w_127 =>
 vlv P T_impl_Term t6 w_127 fun r6_14 w_128 =>
 R r6_14 w_128))))))))
def A_spec_l3Dull : Ann := { ord := [(11, [1, 0, 2, 3, 4], [(1, [2, 3, 4]), (0, [2, 3, 4]), (2, [3, 4]), (3, [4])]), (19, [0, 3, 4, 1, 2, 5, 6, 7, 8], [(0, [1, 2, 5, 6, 7, 8]), (3, [6, 7, 8]), (4, [5, 6, 7, 8]), (1, [2, 5, 6, 7, 8]), (2, [7, 8]), (5, [6, 7, 8]), (6, [7, 8]), (7, [8])]), (21, [0, 3, 5, 1, 2, 4, 6, 7, 8], [(0, [1, 2, 4, 6, 7, 8]), (3, [4, 6, 7, 8]), (5, [6, 7, 8]), (1, [2, 4, 6, 7, 8]), (2, [7, 8]), (4, [6, 7, 8]), (6, [7, 8]), (7, [8])]), (30, [0, 1, 2, 3, 4, 5, 6], [(0, [4, 5, 6]), (1, [4, 5, 6]), (2, [3, 4, 5, 6]), (3, [4, 5, 6]), (4, [5, 6]), (5, [6])])], loops := [], cuts := [(20494, []), (24583, [17])], trees := [(23, (.st 0 (.st 3 (.st 4 (.alt 1 (.st 2 (.alt 5 (.st 6 (.alt 7 .nil .no)) .no)) (.alt 5 (.alt 1 (.st 2 (.st 6 (.alt 7 .nil .no))) .no) .no))))), [(0, [1, 2, 6, 7]), (1, [2, 6, 7]), (2, [6, 7]), (3, [5, 6, 7]), (4, [5, 6, 7]), (5, [6, 7]), (6, [7])]), (25, (.st 0 (.st 3 (.st 4 (.alt 1 (.st 2 (.alt 5 (.st 6 (.alt 7 .nil .no)) .no)) (.alt 5 (.alt 1 (.st 2 (.st 6 (.alt 7 .nil .no))) .no) .no))))), [(0, [1, 2, 6, 7]), (1, [2, 6, 7]), (2, [6, 7]), (3, [5, 6, 7]), (4, [5, 6, 7]), (5, [6, 7]), (6, [7])])] }
theorem k_spec_l3Dull (v0 v1 v2 : Value) (w : World) (R : Value → World → Prop) : vc PP A_spec_l3Dull ((Tryz.f83.body).getD .skip) (retF PP Tryz.f83.results.toList R) (nthV [v0, v1, v2]) w = F_spec_l3Dull PP v0 v1 v2 w R := by kernel_rfl
theorem c_spec_l3Dull {v0 v1 v2 : Value} {w : World} {R : Value → World → Prop} (h : F_spec_l3Dull PP v0 v1 v2 w R) : vcall PP n_spec_l3Dull #[v0, v1, v2] w R :=
  call_of_vc (T := A_spec_l3Dull) (c := (Tryz.f83.body).getD .skip) (n := 114) mixed Tryz.func83 rfl rfl (by kernel_rfl) (by kernel_rfl) rfl (by rw [k_spec_l3Dull]; exact h)
def F_spec_l2Spoil (P : Program) (v0 v1 : Value) (w : World) (R : Value → World → Prop) : Prop :=
 vbuildS P T_Limpl_Decl 0 [] w fun t7 w_1 =>
 vbi P .append [T_Limpl_Decl, T_Limpl_Decl] T_Limpl_Decl [t7, v1] w_1 fun t9 w_2 =>
 vbi P .len [T_Limpl_Decl] T_int [v1] w_2 fun t11 w_3 =>
 vbin P .eql T_int true t11 (.int .i64 0) w_3 fun t12 w_4 =>
 vif t12 (
 R t9 w_4) (
 vbi P .len [T_Limpl_Decl] T_int [v1] w_4 fun t16 w_5 =>
 vcall P n_spec_l12Rd_pick #[v0, t16] w_5 fun t17 w_6 =>
 vcall P n_spec_l12Rd_pick #[v0, (.int .i64 80)] w_6 fun t19 w_7 =>
 vbin P .eql T_int true t19 (.int .i64 0) w_7 fun t21 w_8 =>
 vif t21 (
 vbuildS P T_Lint 4 [(0, (.int .i64 0)), (1, (.int .i64 5)), (2, (.int .i64 (-1))), (3, (.int .i64 4))] w_8 fun t25 w_9 =>
 vcall P n_spec_l12Rd_num #[v0, t25] w_9 fun t26 w_10 =>
 viaddr P T_Limpl_Decl t9 t17 w_10 fun t27 w_11 =>
 vfaddr P T_impl_Decl t27 1 w_11 fun t28 w_12 =>
 vstore P T_int t28 t26 w_12 fun _ w_13 =>
 R t9 w_13) (
 vbin P .eql T_int true t19 (.int .i64 1) w_8 fun t30 w_14 =>
 vif t30 (
 vbuildS P T_Lstring 6 [(0, (.string { data := #[] })), (1, (.string { data := #[116, 114, 117, 101] })), (2, (.string { data := #[97, 98, 99, 100, 101] })), (3, (.string { data := #[65] })), (4, (.string { data := #[110, 111, 116] })), (5, (.string { data := #[120] }))] w_14 fun t34 w_15 =>
 vcall P n_spec_l12Rd_of #[v0, t34] w_15 fun t35 w_16 =>
 viaddr P T_Limpl_Decl t9 t17 w_16 fun t36 w_17 =>
 vfaddr P T_impl_Decl t36 0 w_17 fun t37 w_18 =>
 vstore P T_string t37 t35 w_18 fun _ w_19 =>
 R t9 w_19) (
 vbin P .eql T_int true t19 (.int .i64 2) w_14 fun t39 w_20 =>
 vif t39 (
 vbuild P T_impl_Decl [(0, (.string { data := #[113] })), (1, (.int .i64 4))] w_20 fun t41 w_21 =>
 vbuild P T_impl_Decl [(0, (.string { data := #[112] })), (1, (.int .i64 1))] w_21 fun t42 w_22 =>
 vbuildS P T_Limpl_Decl 2 [(0, t41), (1, t42)] w_22 fun t43 w_23 =>
 vbi P .append [T_Limpl_Decl, T_Limpl_Decl] T_Limpl_Decl [t9, t43] w_23 fun t44 w_24 =>
 R t44 w_24) (
 vbin P .eql T_int true t19 (.int .i64 3) w_20 fun t46 w_25 =>
 vif t46 (
 vbuildS P T_Limpl_Decl 0 [] w_25 fun t47 w_26 =>
 R t47 w_26) (
 R t9 w_25)))))
def A_spec_l2Spoil : Ann := { ord := [], loops := [], cuts := [] }
theorem k_spec_l2Spoil (v0 v1 : Value) (w : World) (R : Value → World → Prop) : vc PP A_spec_l2Spoil ((Tryz.f84.body).getD .skip) (retF PP Tryz.f84.results.toList R) (nthV [v0, v1]) w = F_spec_l2Spoil PP v0 v1 w R := by kernel_rfl
theorem c_spec_l2Spoil {v0 v1 : Value} {w : World} {R : Value → World → Prop} (h : F_spec_l2Spoil PP v0 v1 w R) : vcall PP n_spec_l2Spoil #[v0, v1] w R :=
  call_of_vc (T := A_spec_l2Spoil) (c := (Tryz.f84.body).getD .skip) (n := 49) mixed Tryz.func84 rfl rfl (by kernel_rfl) (by kernel_rfl) rfl (by rw [k_spec_l2Spoil]; exact h)
def F_impl_kinds_1 (P : Program) (v0 : Value) (w : World) (R : Value → World → Prop) : Prop :=
 R (.bool true) w
def A_impl_kinds_1 : Ann := { ord := [], loops := [], cuts := [] }
theorem k_impl_kinds_1 (v0 : Value) (w : World) (R : Value → World → Prop) : vc PP A_impl_kinds_1 ((Tryz.f85.body).getD .skip) (retF PP Tryz.f85.results.toList R) (nthV [v0]) w = F_impl_kinds_1 PP v0 w R := by kernel_rfl
theorem c_impl_kinds_1 {v0 : Value} {w : World} {R : Value → World → Prop} (h : F_impl_kinds_1 PP v0 w R) : vcall PP n_impl_kinds_1 #[v0] w R :=
  call_of_vc (T := A_impl_kinds_1) (c := (Tryz.f85.body).getD .skip) (n := 3) mixed Tryz.func85 rfl rfl (by kernel_rfl) (by kernel_rfl) rfl (by rw [k_impl_kinds_1]; exact h)
def F_impl_kinds_2 (P : Program) (v0 : Value) (w : World) (R : Value → World → Prop) : Prop :=
 viaddr P T_Limpl_Vec v0 (.int .i64 0) w fun t4 w_1 =>
 vfaddr P T_impl_Vec t4 1 w_1 fun t5 w_2 =>
 vload P T_int t5 w_2 fun t6 w_3 =>
 vbin P .eql T_int true t6 (.int .i64 0) w_3 fun t7 w_4 =>
 R t7 w_4
def A_impl_kinds_2 : Ann := { ord := [], loops := [], cuts := [] }
theorem k_impl_kinds_2 (v0 : Value) (w : World) (R : Value → World → Prop) : vc PP A_impl_kinds_2 ((Tryz.f86.body).getD .skip) (retF PP Tryz.f86.results.toList R) (nthV [v0]) w = F_impl_kinds_2 PP v0 w R := by kernel_rfl
theorem c_impl_kinds_2 {v0 : Value} {w : World} {R : Value → World → Prop} (h : F_impl_kinds_2 PP v0 w R) : vcall PP n_impl_kinds_2 #[v0] w R :=
  call_of_vc (T := A_impl_kinds_2) (c := (Tryz.f86.body).getD .skip) (n := 8) mixed Tryz.func86 rfl rfl (by kernel_rfl) (by kernel_rfl) rfl (by rw [k_impl_kinds_2]; exact h)
def F_impl_kinds_3 (P : Program) (v0 : Value) (w : World) (R : Value → World → Prop) : Prop :=
 viaddr P T_Limpl_Vec v0 (.int .i64 0) w fun t4 w_1 =>
 vfaddr P T_impl_Vec t4 1 w_1 fun t5 w_2 =>
 vload P T_int t5 w_2 fun t6 w_3 =>
 vbin P .eql T_int true t6 (.int .i64 1) w_3 fun t7 w_4 =>
 vif t7 (
 viaddr P T_Limpl_Vec v0 (.int .i64 1) w_4 fun t10 w_5 =>
 vfaddr P T_impl_Vec t10 1 w_5 fun t11 w_6 =>
 vload P T_int t11 w_6 fun t12 w_7 =>
 vbin P .eql T_int true t12 (.int .i64 1) w_7 fun t13 w_8 =>
 R t13 w_8) (
 R (.bool false) w_4)
def A_impl_kinds_3 : Ann := { ord := [], loops := [], cuts := [] }
theorem k_impl_kinds_3 (v0 : Value) (w : World) (R : Value → World → Prop) : vc PP A_impl_kinds_3 ((Tryz.f87.body).getD .skip) (retF PP Tryz.f87.results.toList R) (nthV [v0]) w = F_impl_kinds_3 PP v0 w R := by kernel_rfl
theorem c_impl_kinds_3 {v0 : Value} {w : World} {R : Value → World → Prop} (h : F_impl_kinds_3 PP v0 w R) : vcall PP n_impl_kinds_3 #[v0] w R :=
  call_of_vc (T := A_impl_kinds_3) (c := (Tryz.f87.body).getD .skip) (n := 15) mixed Tryz.func87 rfl rfl (by kernel_rfl) (by kernel_rfl) rfl (by rw [k_impl_kinds_3]; exact h)
def F_impl_kinds_4 (P : Program) (v0 : Value) (w : World) (R : Value → World → Prop) : Prop :=
 viaddr P T_Limpl_Vec v0 (.int .i64 0) w fun t4 w_1 =>
 vfaddr P T_impl_Vec t4 1 w_1 fun t5 w_2 =>
 vload P T_int t5 w_2 fun t6 w_3 =>
 vbin P .eql T_int true t6 (.int .i64 1) w_3 fun t7 w_4 =>
 vif t7 (
 R (.bool true) w_4) (
 viaddr P T_Limpl_Vec v0 (.int .i64 1) w_4 fun t10 w_5 =>
 vfaddr P T_impl_Vec t10 1 w_5 fun t11 w_6 =>
 vload P T_int t11 w_6 fun t12 w_7 =>
 vbin P .eql T_int true t12 (.int .i64 1) w_7 fun t13 w_8 =>
 R t13 w_8)
def A_impl_kinds_4 : Ann := { ord := [], loops := [], cuts := [] }
theorem k_impl_kinds_4 (v0 : Value) (w : World) (R : Value → World → Prop) : vc PP A_impl_kinds_4 ((Tryz.f88.body).getD .skip) (retF PP Tryz.f88.results.toList R) (nthV [v0]) w = F_impl_kinds_4 PP v0 w R := by kernel_rfl
theorem c_impl_kinds_4 {v0 : Value} {w : World} {R : Value → World → Prop} (h : F_impl_kinds_4 PP v0 w R) : vcall PP n_impl_kinds_4 #[v0] w R :=
  call_of_vc (T := A_impl_kinds_4) (c := (Tryz.f88.body).getD .skip) (n := 15) mixed Tryz.func88 rfl rfl (by kernel_rfl) (by kernel_rfl) rfl (by rw [k_impl_kinds_4]; exact h)
def F_spec_l1Max (P : Program) (v0 v1 : Value) (w : World) (R : Value → World → Prop) : Prop :=
 vbin P .gtr T_int false v0 v1 w fun t7 w_1 =>
 vif t7 (
 R v0 w_1) (
 R v1 w_1)
def A_spec_l1Max : Ann := { ord := [], loops := [], cuts := [] }
theorem k_spec_l1Max (v0 v1 : Value) (w : World) (R : Value → World → Prop) : vc PP A_spec_l1Max ((Tryz.f89.body).getD .skip) (retF PP Tryz.f89.results.toList R) (nthV [v0, v1]) w = F_spec_l1Max PP v0 v1 w R := by kernel_rfl
theorem c_spec_l1Max {v0 v1 : Value} {w : World} {R : Value → World → Prop} (h : F_spec_l1Max PP v0 v1 w R) : vcall PP n_spec_l1Max #[v0, v1] w R :=
  call_of_vc (T := A_spec_l1Max) (c := (Tryz.f89.body).getD .skip) (n := 10) mixed Tryz.func89 rfl rfl (by kernel_rfl) (by kernel_rfl) rfl (by rw [k_spec_l1Max]; exact h)
def F_spec_l2Name (P : Program) (v0 : Value) (w : World) (R : Value → World → Prop) : Prop :=
 vloop [(.int .i64 0)] w fun C u _ w_1 =>
 vbi P .len [T_string] T_int [v0] w_1 fun t6 w_2 =>
 vbin P .lss T_int false (sl 0 u) t6 w_2 fun t7 w_3 =>
 vif t7 (
 vindex P T_string v0 (sl 0 u) w_3 fun t12 w_4 =>
 vbin P .lss T_uint8 true t12 (.int .u8 97) w_4 fun t13 w_5 =>
 vif t13 (
 R (.bool false) w_5) (
 vindex P T_string v0 (sl 0 u) w_5 fun t17 w_6 =>
 vbin P .gtr T_uint8 true t17 (.int .u8 122) w_6 fun t18 w_7 =>
 vif t18 (
 R (.bool false) w_7) (
 vbin P .add T_int true (sl 0 u) (.int .i64 1) w_7 fun t9 w_8 =>
 C [t9] w_8))) (
 vbi P .len [T_string] T_int [v0] w_3 fun t21 w_9 =>
 vbin P .geq T_int true t21 (.int .i64 1) w_9 fun t22 w_10 =>
 vif t22 (
 vbi P .len [T_string] T_int [v0] w_10 fun t25 w_11 =>
 vbin P .leq T_int true t25 (.int .i64 4) w_11 fun t26 w_12 =>
 vif t26 (
 vbin P .neq T_string true v0 (.string { data := #[116, 114, 117, 101] }) w_12 fun t30 w_13 =>
 R t30 w_13) (
 R (.bool false) w_12)) (
 R (.bool false) w_10))
def A_spec_l2Name : Ann := { ord := [], loops := [(2, [3])], cuts := [] }
theorem k_spec_l2Name (v0 : Value) (w : World) (R : Value → World → Prop) : vc PP A_spec_l2Name ((Tryz.f90.body).getD .skip) (retF PP Tryz.f90.results.toList R) (nthV [v0]) w = F_spec_l2Name PP v0 w R := by kernel_rfl
theorem c_spec_l2Name {v0 : Value} {w : World} {R : Value → World → Prop} (h : F_spec_l2Name PP v0 w R) : vcall PP n_spec_l2Name #[v0] w R :=
  call_of_vc (T := A_spec_l2Name) (c := (Tryz.f90.body).getD .skip) (n := 32) mixed Tryz.func90 rfl rfl (by kernel_rfl) (by kernel_rfl) rfl (by rw [k_spec_l2Name]; exact h)
def F_spec_l2Find (P : Program) (v0 v1 : Value) (w : World) (R : Value → World → Prop) : Prop :=
 vloop [(.int .i64 0)] w fun C u _ w_1 =>
 vbi P .len [T_Limpl_Decl] T_int [v0] w_1 fun t8 w_2 =>
 vbin P .lss T_int false (sl 0 u) t8 w_2 fun t9 w_3 =>
 vif t9 (
 viaddr P T_Limpl_Decl v0 (sl 0 u) w_3 fun t14 w_4 =>
 vfaddr P T_impl_Decl t14 0 w_4 fun t15 w_5 =>
 vload P T_string t15 w_5 fun t16 w_6 =>
 vbin P .eql T_string false t16 v1 w_6 fun t18 w_7 =>
 vif t18 (
 R (sl 0 u) w_7) (
 vbin P .add T_int true (sl 0 u) (.int .i64 1) w_7 fun t11 w_8 =>
 C [t11] w_8)) (
 R (.int .i64 (-1)) w_3)
def A_spec_l2Find : Ann := { ord := [], loops := [(2, [5])], cuts := [] }
theorem k_spec_l2Find (v0 v1 : Value) (w : World) (R : Value → World → Prop) : vc PP A_spec_l2Find ((Tryz.f91.body).getD .skip) (retF PP Tryz.f91.results.toList R) (nthV [v0, v1]) w = F_spec_l2Find PP v0 v1 w R := by kernel_rfl
theorem c_spec_l2Find {v0 v1 : Value} {w : World} {R : Value → World → Prop} (h : F_spec_l2Find PP v0 v1 w R) : vcall PP n_spec_l2Find #[v0, v1] w R :=
  call_of_vc (T := A_spec_l2Find) (c := (Tryz.f91.body).getD .skip) (n := 20) mixed Tryz.func91 rfl rfl (by kernel_rfl) (by kernel_rfl) rfl (by rw [k_spec_l2Find]; exact h)
def F_spec_l2Plain (P : Program) (v0 : Value) (w : World) (R : Value → World → Prop) : Prop :=
 vbox P T_impl_Term v0 w fun t1 w_1 =>
 vjoin (fun J =>
 vfaddr P T_impl_Term t1 0 w_1 fun t3 w_3 =>
 vload P T_int t3 w_3 fun t4 w_4 =>
 vbin P .neq T_int true t4 (.int .i64 21) w_4 fun t5 w_5 =>
 vif t5 (
 vfaddr P T_impl_Term t1 3 w_5 fun t7 w_6 =>
 vload P T_string t7 w_6 fun t8 w_7 =>
 vbin P .neq T_string true t8 (.string { data := #[] }) w_7 fun t9 w_8 =>
 vif t9 (
 R (.bool false) w_8) (
 J [] w_8)) (
 J [] w_5)) (fun _ _ w_2 =>
 vjoin (fun J_1 =>
 vfaddr P T_impl_Term t1 0 w_2 fun t11 w_10 =>
 vload P T_int t11 w_10 fun t12 w_11 =>
 vbin P .neq T_int true t12 (.int .i64 20) w_11 fun t13 w_12 =>
 vif t13 (
 vfaddr P T_impl_Term t1 0 w_12 fun t15 w_13 =>
 vload P T_int t15 w_13 fun t16 w_14 =>
 vbin P .neq T_int true t16 (.int .i64 22) w_14 fun t17 w_15 =>
 vif t17 (
 vfaddr P T_impl_Term t1 1 w_15 fun t20 w_16 =>
 vload P T_int t20 w_16 fun t21 w_17 =>
 vbin P .neq T_int true t21 (.int .i64 0) w_17 fun t22 w_18 =>
 vif t22 (
 R (.bool false) w_18) (
 vfaddr P T_impl_Term t1 2 w_18 fun t24 w_19 =>
 vload P T_int t24 w_19 fun t25 w_20 =>
 vbin P .neq T_int true t25 (.int .i64 0) w_20 fun t26 w_21 =>
 vif t26 (
 R (.bool false) w_21) (
 J_1 [] w_21))) (
 J_1 [] w_15)) (
 J_1 [] w_12)) (fun _ _ w_9 =>
 vdraw w_9 fun w_22 =>
 vfaddr P T_impl_Term t1 4 w_22 fun t29 w_23 => w_23 = w_22 ∧
 vload P T_Limpl_Term t29 w_22 fun t30 w_24 => w_24 = w_22 ∧
 vbi P .len [T_Limpl_Term] T_int [t30] w_22 fun t31 w_25 => w_25 = w_22 ∧
 vfaddr P T_impl_Term t1 0 w_22 fun t32 w_26 => w_26 = w_22 ∧
 vload P T_int t32 w_22 fun t33 w_27 => w_27 = w_22 ∧
 vcall P n_spec_l2Arity #[t33] w_22 fun t34 w_28 => (vbi P .len [T_Limpl_Term] T_int [t30] w_28 fun v x => v = t31 ∧ x = w_28) ∧ (vload P T_Limpl_Term t29 w_28 fun v x => v = t30 ∧ x = w_28) ∧ (vfaddr P T_impl_Term t1 4 w_28 fun v x => v = t29 ∧ x = w_28) ∧
 vbin P .eql T_int false t31 t34 w_28 fun t35 w_29 => w_29 = w_28 ∧
 R t35 w_28))
def A_spec_l2Plain : Ann := { ord := [(5, [0, 1, 2, 3, 4, 5, 6, 7], [(0, [1, 2, 6, 7]), (1, [2, 6, 7]), (2, [6, 7]), (3, [4, 5, 6, 7]), (4, [5, 6, 7]), (5, [6, 7]), (6, [7])])], loops := [], cuts := [(8195, []), (16389, [])] }
theorem k_spec_l2Plain (v0 : Value) (w : World) (R : Value → World → Prop) : vc PP A_spec_l2Plain ((Tryz.f92.body).getD .skip) (retF PP Tryz.f92.results.toList R) (nthV [v0]) w = F_spec_l2Plain PP v0 w R := by kernel_rfl
theorem c_spec_l2Plain {v0 : Value} {w : World} {R : Value → World → Prop} (h : F_spec_l2Plain PP v0 w R) : vcall PP n_spec_l2Plain #[v0] w R :=
  call_of_vc (T := A_spec_l2Plain) (c := (Tryz.f92.body).getD .skip) (n := 36) mixed Tryz.func92 rfl rfl (by kernel_rfl) (by kernel_rfl) rfl (by rw [k_spec_l2Plain]; exact h)
def F_spec_l2One (P : Program) (v0 v1 : Value) (w : World) (R : Value → World → Prop) : Prop :=
 vbox P T_impl_Term v0 w fun t2 w_1 =>
 vjoin (fun J =>
 vfaddr P T_impl_Term t2 0 w_1 fun t6 w_3 =>
 vload P T_int t6 w_3 fun t7 w_4 =>
 vbin P .eql T_int true t7 (.int .i64 25) w_4 fun t8 w_5 =>
 vif t8 (
 vbin P .eql T_int true v1 (.int .i64 0) w_5 fun t11 w_6 =>
 J [t11] w_6) (
 J [(.bool false)] w_5)) (fun u _ w_2 =>
 vif (sl 0 u) (
 R (.int .i64 0) w_2) (
 vjoin (fun J_1 =>
 vfaddr P T_impl_Term t2 0 w_2 fun t14 w_8 =>
 vload P T_int t14 w_8 fun t15 w_9 =>
 vbin P .eql T_int true t15 (.int .i64 25) w_9 fun t16 w_10 =>
 vif t16 (
 J_1 [(.bool true)] w_10) (
 vbin P .lss T_int true v1 (.int .i64 1) w_10 fun t19 w_11 =>
 J_1 [t19] w_11)) (fun u_1 _ w_7 =>
 vif (sl 0 u_1) (
 R (.int .i64 (-1)) w_7) (
 vfaddr P T_impl_Term t2 0 w_7 fun t22 w_12 =>
 vload P T_int t22 w_12 fun t23 w_13 =>
 vbin P .eql T_int true t23 (.int .i64 22) w_13 fun t24 w_14 =>
 vif t24 (
 vjoin (fun J_2 =>
 vfaddr P T_impl_Term t2 2 w_14 fun t25 w_16 =>
 vload P T_int t25 w_16 fun t26 w_17 =>
 vbin P .geq T_int true t26 (.int .i64 0) w_17 fun t27 w_18 =>
 vif t27 (
 vfaddr P T_impl_Term t2 1 w_18 fun t29 w_19 =>
 vload P T_int t29 w_19 fun t30 w_20 =>
 vfaddr P T_impl_Term t2 2 w_20 fun t31 w_21 =>
 vload P T_int t31 w_21 fun t32 w_22 =>
 vbin P .geq T_int false t30 t32 w_22 fun t33 w_23 =>
 vif t33 (
 vfaddr P T_impl_Term t2 1 w_23 fun t36 w_24 =>
 vload P T_int t36 w_24 fun t37 w_25 =>
 vbin P .lss T_int false t37 v1 w_25 fun t39 w_26 =>
 J_2 [t39] w_26) (
 J_2 [(.bool false)] w_23)) (
 J_2 [(.bool false)] w_18)) (fun u_2 _ w_15 =>
 vif (sl 0 u_2) (
 vfaddr P T_impl_Term t2 1 w_15 fun t41 w_27 =>
 vload P T_int t41 w_27 fun t42 w_28 =>
 vfaddr P T_impl_Term t2 2 w_28 fun t43 w_29 =>
 vload P T_int t43 w_29 fun t44 w_30 =>
 vbin P .sub T_int false t42 t44 w_30 fun t45 w_31 =>
 vbin P .add T_int true t45 (.int .i64 1) w_31 fun t46 w_32 =>
 R t46 w_32) (
 R (.int .i64 (-1)) w_15))) (
 R v1 w_14)))))
def A_spec_l2One : Ann := { ord := [], loops := [], cuts := [(8194, [5]), (16388, [13]), (28679, [40])] }
theorem k_spec_l2One (v0 v1 : Value) (w : World) (R : Value → World → Prop) : vc PP A_spec_l2One ((Tryz.f93.body).getD .skip) (retF PP Tryz.f93.results.toList R) (nthV [v0, v1]) w = F_spec_l2One PP v0 v1 w R := by kernel_rfl
theorem c_spec_l2One {v0 v1 : Value} {w : World} {R : Value → World → Prop} (h : F_spec_l2One PP v0 v1 w R) : vcall PP n_spec_l2One #[v0, v1] w R :=
  call_of_vc (T := A_spec_l2One) (c := (Tryz.f93.body).getD .skip) (n := 48) mixed Tryz.func93 rfl rfl (by kernel_rfl) (by kernel_rfl) rfl (by rw [k_spec_l2One]; exact h)
def F_spec_l2Both (P : Program) (v0 v1 v2 : Value) (w : World) (R : Value → World → Prop) : Prop :=
 vjoin (fun J =>
 vbin P .eql T_int true v0 (.int .i64 26) w fun t10 w_2 =>
 vif t10 (
 J [(.bool true)] w_2) (
 vbin P .eql T_int true v0 (.int .i64 27) w_2 fun t13 w_3 =>
 J [t13] w_3)) (fun u _ w_1 =>
 vif (sl 0 u) (
 vbin P .eql T_int true v1 (.int .i64 0) w_1 fun t16 w_4 =>
 vif t16 (
 vbin P .eql T_int true v2 (.int .i64 0) w_4 fun t19 w_5 =>
 vif t19 (
 R (.int .i64 0) w_5) (
 R (.int .i64 (-1)) w_5)) (
 R (.int .i64 (-1)) w_4)) (
 vjoin (fun J_1 =>
 vbin P .lss T_int true v1 (.int .i64 1) w_1 fun t23 w_7 =>
 vif t23 (
 J_1 [(.bool true)] w_7) (
 vbin P .lss T_int true v2 (.int .i64 1) w_7 fun t26 w_8 =>
 J_1 [t26] w_8)) (fun u_1 _ w_6 =>
 vif (sl 0 u_1) (
 R (.int .i64 (-1)) w_6) (
 vbin P .eql T_int true v0 (.int .i64 14) w_6 fun t30 w_9 =>
 vif t30 (
 vbin P .add T_int false v1 v2 w_9 fun t33 w_10 =>
 vbin P .leq T_int true t33 (.int .i64 4) w_10 fun t34 w_11 =>
 vif t34 (
 vbin P .add T_int false v1 v2 w_11 fun t37 w_12 =>
 R t37 w_12) (
 R (.int .i64 (-1)) w_11)) (
 vbin P .neq T_int false v1 v2 w_9 fun t41 w_13 =>
 vif t41 (
 R (.int .i64 (-1)) w_13) (
 vbin P .geq T_int true v0 (.int .i64 15) w_13 fun t44 w_14 =>
 vif t44 (
 R (.int .i64 0) w_14) (
 R v1 w_14)))))))
def A_spec_l2Both : Ann := { ord := [], loops := [], cuts := [(12291, [8]), (24582, [21])] }
theorem k_spec_l2Both (v0 v1 v2 : Value) (w : World) (R : Value → World → Prop) : vc PP A_spec_l2Both ((Tryz.f94.body).getD .skip) (retF PP Tryz.f94.results.toList R) (nthV [v0, v1, v2]) w = F_spec_l2Both PP v0 v1 v2 w R := by kernel_rfl
theorem c_spec_l2Both {v0 v1 v2 : Value} {w : World} {R : Value → World → Prop} (h : F_spec_l2Both PP v0 v1 v2 w R) : vcall PP n_spec_l2Both #[v0, v1, v2] w R :=
  call_of_vc (T := A_spec_l2Both) (c := (Tryz.f94.body).getD .skip) (n := 45) mixed Tryz.func94 rfl rfl (by kernel_rfl) (by kernel_rfl) rfl (by rw [k_spec_l2Both]; exact h)
def F_impl_folder_rules (P : Program) (v0 : Value) (w : World) (R : Value → World → Prop) : Prop :=
 vbox P T_impl_folder v0 w fun t1 w_1 =>
 vload P T_impl_folder t1 w_1 fun t3 w_2 =>
 vmkF P (.func n_impl_folder_fixed) [t3] [] w_2 fun t4 w_3 =>
 vload P T_impl_folder t1 w_3 fun t5 w_4 =>
 vmkF P (.func n_impl_folder_branches) [t5] [] w_4 fun t6 w_5 =>
 vload P T_impl_folder t1 w_5 fun t7 w_6 =>
 vmkF P (.func n_impl_folder_truths) [t7] [] w_6 fun t8 w_7 =>
 vload P T_impl_folder t1 w_7 fun t9 w_8 =>
 vmkF P (.func n_impl_folder_layers) [t9] [] w_8 fun t10 w_9 =>
 vload P T_impl_folder t1 w_9 fun t11 w_10 =>
 vmkF P (.func n_impl_folder_twins) [t11] [] w_10 fun t12 w_11 =>
 vload P T_impl_folder t1 w_11 fun t13 w_12 =>
 vmkF P (.func n_impl_folder_seconds) [t13] [] w_12 fun t14 w_13 =>
 vload P T_impl_folder t1 w_13 fun t15 w_14 =>
 vmkF P (.func n_impl_folder_firsts) [t15] [] w_14 fun t16 w_15 =>
 vbuildS P T_Lfunc_impl_Term_impl_Term_bool 7 [(0, t4), (1, t6), (2, t8), (3, t10), (4, t12), (5, t14), (6, t16)] w_15 fun t17 w_16 =>
 R t17 w_16
def A_impl_folder_rules : Ann := { ord := [], loops := [], cuts := [] }
theorem k_impl_folder_rules (v0 : Value) (w : World) (R : Value → World → Prop) : vc PP A_impl_folder_rules ((Tryz.f95.body).getD .skip) (retF PP Tryz.f95.results.toList R) (nthV [v0]) w = F_impl_folder_rules PP v0 w R := by kernel_rfl
theorem c_impl_folder_rules {v0 : Value} {w : World} {R : Value → World → Prop} (h : F_impl_folder_rules PP v0 w R) : vcall PP n_impl_folder_rules #[v0] w R :=
  call_of_vc (T := A_impl_folder_rules) (c := (Tryz.f95.body).getD .skip) (n := 18) mixed Tryz.func95 rfl rfl (by kernel_rfl) (by kernel_rfl) rfl (by rw [k_impl_folder_rules]; exact h)
end Go.Proofs.YtcfgmgjofmbfhaaGreatDoor
end
