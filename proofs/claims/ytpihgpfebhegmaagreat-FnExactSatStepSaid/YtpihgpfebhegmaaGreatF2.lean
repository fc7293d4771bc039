import Derived.Test.YtpihgpfebhegmaaGreatNm
set_option linter.unusedVariables false
set_option linter.unusedSimpArgs false
set_option linter.unnecessarySimpa false
set_option linter.unusedSectionVars false
namespace Go.Proofs.YtpihgpfebhegmaaGreat
open Go Go.Vc Go.Proofs
/-- impl.copyLists -/
def F_impl_copyLists (P : Program) (v0 : Value) (w : World) (R : Value → World → Prop) : Prop :=
  vbi P .len [T_LLint] T_int [v0] w fun t7 w_1 =>
  vloop [(.slice none 0 0), (.int .i64 0)] w_1 fun C u _ w_2 =>
    vbin P .lss T_int false (sl 1 u) t7 w_2 fun t9 w_3 =>
    vif t9 (
      viaddr P T_LLint v0 (sl 1 u) w_3 fun t10 w_4 =>
      vload P T_Lint t10 w_4 fun t11 w_5 =>
      vcall P n_slices_Clone_Lint_int #[t11] w_5 fun t14 w_6 =>
      vbuildS P T_LLint 1 [(0, t14)] w_6 fun t15 w_7 =>
      vbi P .append [T_LLint, T_LLint] T_LLint [(sl 0 u), t15] w_7 fun t16 w_8 =>
      vbin P .add T_int true (sl 1 u) (.int .i64 1) w_8 fun t17 w_9 =>
      C [t16, t17] w_9) (
      R (sl 0 u) w_3)
def A_impl_copyLists : Ann := { ord := [], loops := [(3, [3, 8])], cuts := [] }
theorem k_impl_copyLists (v0 : Value) (w : World) (R : Value → World → Prop) : vc PP A_impl_copyLists ((Tryz.f74.body).getD .skip) (retF PP Tryz.f74.results.toList R) (nthV [v0]) w = F_impl_copyLists PP v0 w R := by kernel_rfl
theorem c_impl_copyLists {v0 : Value} {w : World} {R : Value → World → Prop} (h : F_impl_copyLists PP v0 w R) : vcall PP n_impl_copyLists #[v0] w R :=
  call_of_vc (T := A_impl_copyLists) (c := (Tryz.f74.body).getD .skip) (n := 19) mixed Tryz.func74 rfl rfl (by kernel_rfl) (by kernel_rfl) rfl (by rw [k_impl_copyLists]; exact h)

/-- (*impl.trail).implies -/
def F_impl_trail_implies (P : Program) (v0 v1 v2 : Value) (w : World) (R : Value → World → Prop) : Prop :=
  vbox P T_P_impl_trail v0 w fun t3 w_1 =>
  vbox P T_int v2 w_1 fun t5 w_2 =>
  vdraw w_2 fun w_3 =>
  vload P T_P_impl_trail t3 w_3 fun t8 w_4 => w_4 = w_3 ∧
  vnil P t8 w_3 fun t9 w_5 => w_5 = w_3 ∧
  vfaddr P T_impl_trail t9 0 w_3 fun t10 w_6 => w_6 = w_3 ∧
  vload P T_Lint t10 w_3 fun t11 w_7 => w_7 = w_3 ∧
  vload P T_int t5 w_3 fun t12 w_8 => w_8 = w_3 ∧
  viaddr P T_Lint t11 t12 w_3 fun t13 w_9 => w_9 = w_3 ∧
  vload P T_int t13 w_3 fun t14 w_10 => w_10 = w_3 ∧
  vcall P n_slices_Contains_Lint_int #[v1, t14] w_3 fun t15 w_11 =>
  vif t15 (
    vmkF P (.func n_impl_trail_implies_1) [] [t3, t5] w_11 fun t18 w_12 => w_12 = w_11 ∧
    vcall P n_slices_ContainsFunc_Lint_int #[v1, t18] w_11 fun t19 w_13 =>
    vun P .not t19 w_13 fun t20 w_14 => w_14 = w_13 ∧
    R t20 w_13) (
    R (.bool false) w_11)
def A_impl_trail_implies : Ann := { ord := [(1, [0, 1, 2, 3, 4, 5, 6, 7, 8, 9, 10, 11, 12, 13, 14, 15], [(0, [8, 9, 10, 11, 12, 13, 14, 15]), (1, [2, 3, 4, 6, 7, 8, 9, 10, 11, 12, 13, 14, 15]), (2, [3, 4, 6, 7, 8, 9, 10, 11, 12, 13, 14, 15]), (3, [4, 6, 7, 8, 9, 10, 11, 12, 13, 14, 15]), (4, [6, 7, 8, 9, 10, 11, 12, 13, 14, 15]), (5, [6, 7, 8, 9, 10, 11, 12, 13, 14, 15]), (6, [7, 8, 9, 10, 11, 12, 13, 14, 15]), (7, [8, 9, 10, 11, 12, 13, 14, 15]), (8, [9, 10, 11, 12, 13, 14, 15]), (9, [10, 11, 12, 13, 14, 15]), (10, [12, 13, 14, 15]), (11, [12, 13, 14, 15]), (12, [13, 14, 15]), (13, [14, 15]), (14, [15])])], loops := [], cuts := [] }
theorem k_impl_trail_implies (v0 v1 v2 : Value) (w : World) (R : Value → World → Prop) : vc PP A_impl_trail_implies ((Tryz.f75.body).getD .skip) (retF PP Tryz.f75.results.toList R) (nthV [v0, v1, v2]) w = F_impl_trail_implies PP v0 v1 v2 w R := by kernel_rfl
theorem c_impl_trail_implies {v0 v1 v2 : Value} {w : World} {R : Value → World → Prop} (h : F_impl_trail_implies PP v0 v1 v2 w R) : vcall PP n_impl_trail_implies #[v0, v1, v2] w R :=
  call_of_vc (T := A_impl_trail_implies) (c := (Tryz.f75.body).getD .skip) (n := 22) mixed Tryz.func75 rfl rfl (by kernel_rfl) (by kernel_rfl) rfl (by rw [k_impl_trail_implies]; exact h)

/-- (*impl.search).clause -/
def F_impl_search_clause (P : Program) (v0 v1 : Value) (w : World) (R : Value → World → Prop) : Prop :=
  vnil P v0 w fun t7 w_1 =>
  vfaddr P T_impl_search t7 0 w_1 fun t8 w_2 =>
  vfaddr P T_impl_Cnf t8 1 w_2 fun t9 w_3 =>
  vload P T_LLint t9 w_3 fun t10 w_4 =>
  vbi P .len [T_LLint] T_int [t10] w_4 fun t11 w_5 =>
  vbin P .lss T_int false v1 t11 w_5 fun t12 w_6 =>
  vif t12 (
    vnil P v0 w_6 fun t14 w_7 =>
    vfaddr P T_impl_search t14 0 w_7 fun t15 w_8 =>
    vfaddr P T_impl_Cnf t15 1 w_8 fun t16 w_9 =>
    vload P T_LLint t16 w_9 fun t17 w_10 =>
    viaddr P T_LLint t17 v1 w_10 fun t19 w_11 =>
    vload P T_Lint t19 w_11 fun t20 w_12 =>
    R t20 w_12) (
    vdraw w_6 fun w_13 =>
    vnil P v0 w_13 fun t22 w_14 => w_14 = w_13 ∧
    vfaddr P T_impl_search t22 3 w_13 fun t23 w_15 => w_15 = w_13 ∧
    vload P T_LLint t23 w_13 fun t24 w_16 => w_16 = w_13 ∧
    vnil P v0 w_13 fun t27 w_17 => w_17 = w_13 ∧
    vfaddr P T_impl_search t27 0 w_13 fun t28 w_18 => w_18 = w_13 ∧
    vfaddr P T_impl_Cnf t28 1 w_13 fun t29 w_19 => w_19 = w_13 ∧
    vload P T_LLint t29 w_13 fun t30 w_20 => w_20 = w_13 ∧
    vbi P .len [T_LLint] T_int [t30] w_13 fun t31 w_21 => w_21 = w_13 ∧
    vbin P .sub T_int false v1 t31 w_13 fun t32 w_22 => w_22 = w_13 ∧
    viaddr P T_LLint t24 t32 w_13 fun t33 w_23 => w_23 = w_13 ∧
    vload P T_Lint t33 w_13 fun t34 w_24 => w_24 = w_13 ∧
    R t34 w_13)
def A_impl_search_clause : Ann := { ord := [(3, [0, 1, 2, 3, 4, 5, 6, 7, 8, 9, 10, 11, 12, 13, 14], [(0, [1, 2, 3, 12, 13, 14]), (1, [2, 3, 12, 13, 14]), (2, [3, 12, 13, 14]), (3, [12, 13, 14]), (4, [11, 12, 13, 14]), (5, [6, 7, 8, 9, 10, 11, 12, 13, 14]), (6, [7, 8, 9, 10, 11, 12, 13, 14]), (7, [8, 9, 10, 11, 12, 13, 14]), (8, [9, 10, 11, 12, 13, 14]), (9, [10, 11, 12, 13, 14]), (10, [11, 12, 13, 14]), (11, [12, 13, 14]), (12, [13, 14]), (13, [14])])], loops := [], cuts := [] }
theorem k_impl_search_clause (v0 v1 : Value) (w : World) (R : Value → World → Prop) : vc PP A_impl_search_clause ((Tryz.f76.body).getD .skip) (retF PP Tryz.f76.results.toList R) (nthV [v0, v1]) w = F_impl_search_clause PP v0 v1 w R := by kernel_rfl
theorem c_impl_search_clause {v0 v1 : Value} {w : World} {R : Value → World → Prop} (h : F_impl_search_clause PP v0 v1 w R) : vcall PP n_impl_search_clause #[v0, v1] w R :=
  call_of_vc (T := A_impl_search_clause) (c := (Tryz.f76.body).getD .skip) (n := 35) mixed Tryz.func76 rfl rfl (by kernel_rfl) (by kernel_rfl) rfl (by rw [k_impl_search_clause]; exact h)

/-- (impl.literal).variable -/
def F_impl_literal_variable (P : Program) (v0 : Value) (w : World) (R : Value → World → Prop) : Prop :=
  vbin P .lss T_impl_literal true v0 (.int .i64 0) w fun t4 w_1 =>
  vif t4 (
    vun P .neg v0 w_1 fun t6 w_2 =>
    R t6 w_2) (
    R v0 w_1)
def A_impl_literal_variable : Ann := { ord := [], loops := [], cuts := [] }
theorem k_impl_literal_variable (v0 : Value) (w : World) (R : Value → World → Prop) : vc PP A_impl_literal_variable ((Tryz.f77.body).getD .skip) (retF PP Tryz.f77.results.toList R) (nthV [v0]) w = F_impl_literal_variable PP v0 w R := by kernel_rfl
theorem c_impl_literal_variable {v0 : Value} {w : World} {R : Value → World → Prop} (h : F_impl_literal_variable PP v0 w R) : vcall PP n_impl_literal_variable #[v0] w R :=
  call_of_vc (T := A_impl_literal_variable) (c := (Tryz.f77.body).getD .skip) (n := 8) mixed Tryz.func77 rfl rfl (by kernel_rfl) (by kernel_rfl) rfl (by rw [k_impl_literal_variable]; exact h)

/-- spec.l5State -/
def F_spec_l5State (P : Program) (v0 v1 : Value) (w : World) (R : Value → World → Prop) : Prop :=
  vbox P T_impl_Cnf v1 w fun t3 w_1 =>
  valloc P T_impl_Sat w_1 fun t4 w_2 =>
  vload P T_impl_Cnf t3 w_2 fun t7 w_3 =>
  vcall P n_spec_CnfOk #[t7] w_3 fun t8 w_4 =>
  vun P .not t8 w_4 fun t9 w_5 =>
  vif t9 (
    vbuild P T_impl_Sat [] w_5 fun t10 w_6 =>
    vstore P T_impl_Sat t4 t10 w_6 fun _ w_7 =>
    vlv P T_impl_Sat t4 w_7 fun r4 w_8 =>
    R r4 w_8) (
    vdraw w_5 fun w_9 =>
    vload P T_impl_Cnf t3 w_9 fun t11 w_10 => w_10 = w_9 ∧
    ∃ I : (Nat → Prop) → List Value → World → Prop, I (fun _ => False) [undef, undef, undef, undef, undef] w_9 ∧
    ∀ (d : Nat → Prop) (u : List Value) (g : Fr) (w_11 : World), I d u w_11 → (vload P T_impl_Cnf t3 w_11 fun v x => v = t11 ∧ x = w_11) ∧ 
      (((d 2 → False) → vbuildS P T_Lint 9 [(0, (.int .i64 2)), (1, (.int .i64 5)), (2, (.int .i64 9)), (3, (.int .i64 14)), (4, (.int .i64 20)), (5, (.int .i64 30)), (6, (.int .i64 50)), (7, (.int .i64 1)), (8, (.int .i64 0))] w_11 fun t13 w_12 => I (fun x => x = 2 ∨ d x) [(sl 0 u), t13, (sl 2 u), (sl 3 u), (sl 4 u)] w_12) ∧
      ((d 3 → False) → d 2 → vcall P n_spec_l12Rd_num #[v0, (sl 1 u)] w_11 fun t14 w_13 => I (fun x => x = 3 ∨ d x) [(sl 0 u), (sl 1 u), t14, (sl 3 u), (sl 4 u)] w_13) ∧
      ((d 4 → False) → d 3 → d 3 → vcall P n_spec_l5Run #[t11, (sl 2 u)] w_11 fun t15 w_14 => I (fun x => x = 4 ∨ d x) [(sl 0 u), (sl 1 u), (sl 2 u), t15, (sl 4 u)] w_14) ∧
      ((d 5 → False) → d 4 → d 4 → vcall P n_spec_l5Copy #[(sl 3 u)] w_11 fun t16 w_15 => I (fun x => x = 5 ∨ d x) [(sl 0 u), (sl 1 u), (sl 2 u), (sl 3 u), t16] w_15) ∧
      ((d 6 → False) → valloc P T_impl_Sat w_11 fun t5 w_16 => I (fun x => x = 6 ∨ d x) [t5, (sl 1 u), (sl 2 u), (sl 3 u), (sl 4 u)] w_16) ∧
      ((d 7 → False) → d 6 → d 5 → d 5 → d 2 → d 3 → d 4 → d 5 → d 6 → vstore P T_impl_Sat (sl 0 u) (sl 4 u) w_11 fun _ w_17 => I (fun x => x = 7 ∨ d x) [(sl 0 u), (sl 1 u), (sl 2 u), (sl 3 u), (sl 4 u)] w_17) ∧
      True) ∧
      (d 2 → d 3 → d 4 → d 5 → d 6 → d 7 →
        vfaddr P T_impl_Sat (sl 0 u) 0 w_11 fun t17 w_18 =>
        vload P T_Lint t17 w_18 fun t18 w_19 =>
        vbi P .len [T_Lint] T_int [t18] w_19 fun t19 w_20 =>
        vjoin (fun J =>
          vcall P n_spec_l12Rd_pick #[v0, (.int .i64 64)] w_20 fun t21 w_22 =>
          vbin P .eql T_int true t21 (.int .i64 0) w_22 fun t23 w_23 =>
          vif t23 (
            vbuildS P T_Lint 5 [(0, (.int .i64 (-1))), (1, (.int .i64 1)), (2, (.int .i64 3)), (3, (.int .i64 4)), (4, (.int .i64 2))] w_23 fun t25 w_24 =>
            vcall P n_spec_l12Rd_num #[v0, t25] w_24 fun t26 w_25 =>
            vfaddr P T_impl_Sat (sl 0 u) 3 w_25 fun t27 w_26 =>
            vstore P T_int t27 t26 w_26 fun _ w_27 =>
            J [] w_27) (
            vbin P .eql T_int true t21 (.int .i64 1) w_23 fun t29 w_28 =>
            vif t29 (
              vdraw w_28 fun w_29 =>
              vfaddr P T_impl_Sat (sl 0 u) 0 w_29 fun t30 w_30 => w_30 = w_29 ∧
              vload P T_Lint t30 w_29 fun t31 w_31 => w_31 = w_29 ∧
              vbuildS P T_Lint 5 [(0, (.int .i64 0)), (1, (.int .i64 9)), (2, (.int .i64 1)), (3, (.int .i64 (-1))), (4, (.int .i64 (-9223372036854775808)))] w_29 fun t33 w_32 => (vload P T_Lint t30 w_32 fun v x => v = t31 ∧ x = w_32) ∧ (vfaddr P T_impl_Sat (sl 0 u) 0 w_32 fun v x => v = t30 ∧ x = w_32) ∧
              vcall P n_spec_l12Rd_num #[v0, t33] w_32 fun t34 w_33 => (vload P T_Lint t30 w_33 fun v x => v = t31 ∧ x = w_33) ∧ (vfaddr P T_impl_Sat (sl 0 u) 0 w_33 fun v x => v = t30 ∧ x = w_33) ∧
              vbuildS P T_Lint 1 [(0, t34)] w_33 fun t35 w_34 => (vload P T_Lint t30 w_34 fun v x => v = t31 ∧ x = w_34) ∧ (vfaddr P T_impl_Sat (sl 0 u) 0 w_34 fun v x => v = t30 ∧ x = w_34) ∧
              vbi P .append [T_Lint, T_Lint] T_Lint [t31, t35] w_34 fun t36 w_35 =>
              vfaddr P T_impl_Sat (sl 0 u) 0 w_35 fun t37 w_36 => w_36 = w_35 ∧
              vstore P T_Lint t37 t36 w_35 fun _ w_37 =>
              vdraw w_37 fun w_38 =>
              vfaddr P T_impl_Sat (sl 0 u) 1 w_38 fun t38 w_39 => w_39 = w_38 ∧
              vload P T_Lint t38 w_38 fun t39 w_40 => w_40 = w_38 ∧
              vbuildS P T_Lint 4 [(0, (.int .i64 (-1))), (1, (.int .i64 0)), (2, (.int .i64 (-2))), (3, (.int .i64 99))] w_38 fun t41 w_41 => (vload P T_Lint t38 w_41 fun v x => v = t39 ∧ x = w_41) ∧ (vfaddr P T_impl_Sat (sl 0 u) 1 w_41 fun v x => v = t38 ∧ x = w_41) ∧
              vcall P n_spec_l12Rd_num #[v0, t41] w_41 fun t42 w_42 => (vload P T_Lint t38 w_42 fun v x => v = t39 ∧ x = w_42) ∧ (vfaddr P T_impl_Sat (sl 0 u) 1 w_42 fun v x => v = t38 ∧ x = w_42) ∧
              vbuildS P T_Lint 1 [(0, t42)] w_42 fun t43 w_43 => (vload P T_Lint t38 w_43 fun v x => v = t39 ∧ x = w_43) ∧ (vfaddr P T_impl_Sat (sl 0 u) 1 w_43 fun v x => v = t38 ∧ x = w_43) ∧
              vbi P .append [T_Lint, T_Lint] T_Lint [t39, t43] w_43 fun t44 w_44 =>
              vfaddr P T_impl_Sat (sl 0 u) 1 w_44 fun t45 w_45 => w_45 = w_44 ∧
              vstore P T_Lint t45 t44 w_44 fun _ w_46 =>
              J [] w_46) (
              vbin P .eql T_int true t21 (.int .i64 2) w_28 fun t47 w_47 =>
              vif t47 (
                vfaddr P T_impl_Sat (sl 0 u) 1 w_47 fun t48 w_48 =>
                vload P T_Lint t48 w_48 fun t49 w_49 =>
                vbuildS P T_Lint 1 [(0, (.int .i64 (-1)))] w_49 fun t50 w_50 =>
                vbi P .append [T_Lint, T_Lint] T_Lint [t49, t50] w_50 fun t51 w_51 =>
                vfaddr P T_impl_Sat (sl 0 u) 1 w_51 fun t52 w_52 =>
                vstore P T_Lint t52 t51 w_52 fun _ w_53 =>
                J [] w_53) (
                vbin P .eql T_int true t21 (.int .i64 3) w_47 fun t54 w_54 =>
                vif t54 (
                  vdraw w_54 fun w_55 =>
                  vfaddr P T_impl_Sat (sl 0 u) 2 w_55 fun t55 w_56 => w_56 = w_55 ∧
                  vload P T_LLint t55 w_55 fun t56 w_57 => w_57 = w_55 ∧
                  vcall P n_spec_l12Rd_pick #[v0, (.int .i64 9)] w_55 fun t58 w_58 => (vload P T_LLint t55 w_58 fun v x => v = t56 ∧ x = w_58) ∧ (vfaddr P T_impl_Sat (sl 0 u) 2 w_58 fun v x => v = t55 ∧ x = w_58) ∧
                  vbin P .sub T_int true t58 (.int .i64 1) w_58 fun t59 w_59 => w_59 = w_58 ∧
                  vbuildS P T_Lint 1 [(0, t59)] w_58 fun t60 w_60 => (vload P T_LLint t55 w_60 fun v x => v = t56 ∧ x = w_60) ∧ (vfaddr P T_impl_Sat (sl 0 u) 2 w_60 fun v x => v = t55 ∧ x = w_60) ∧
                  vbuildS P T_LLint 1 [(0, t60)] w_60 fun t61 w_61 => (vload P T_LLint t55 w_61 fun v x => v = t56 ∧ x = w_61) ∧ (vfaddr P T_impl_Sat (sl 0 u) 2 w_61 fun v x => v = t55 ∧ x = w_61) ∧
                  vbi P .append [T_LLint, T_LLint] T_LLint [t56, t61] w_61 fun t62 w_62 =>
                  vfaddr P T_impl_Sat (sl 0 u) 2 w_62 fun t63 w_63 => w_63 = w_62 ∧
                  vstore P T_LLint t63 t62 w_62 fun _ w_64 =>
                  J [] w_64) (
                  vbin P .eql T_int true t21 (.int .i64 4) w_54 fun t65 w_65 =>
                  vif t65 (
                    vbin P .gtr T_int true t19 (.int .i64 0) w_65 fun t67 w_66 =>
                    vif t67 (
                      vdraw w_66 fun w_67 =>
                      vfaddr P T_impl_Sat (sl 0 u) 0 w_67 fun t68 w_68 => w_68 = w_67 ∧
                      vload P T_Lint t68 w_67 fun t69 w_69 => w_69 = w_67 ∧
                      (vcall P n_spec_l12Rd_pick #[v0, t19] w_67 fun t72 w_70 => (vload P T_Lint t68 w_70 fun v x => v = t69 ∧ x = w_70) ∧ (vfaddr P T_impl_Sat (sl 0 u) 0 w_70 fun v x => v = t68 ∧ x = w_70) ∧
                        (vbuildS P T_Lint 3 [(0, (.int .i64 1)), (1, (.int .i64 (-1))), (2, (.int .i64 2))] w_70 fun t74 w_71 => (vload P T_Lint t68 w_71 fun v x => v = t69 ∧ x = w_71) ∧ (vfaddr P T_impl_Sat (sl 0 u) 0 w_71 fun v x => v = t68 ∧ x = w_71) ∧
                          (vcall P n_spec_l12Rd_num #[v0, t74] w_71 fun t75 w_72 => (vload P T_Lint t68 w_72 fun v x => v = t69 ∧ x = w_72) ∧ (vfaddr P T_impl_Sat (sl 0 u) 0 w_72 fun v x => v = t68 ∧ x = w_72) ∧
                            viaddr P T_Lint t69 t72 w_72 fun t76 w_73 => w_73 = w_72 ∧
                            (vstore P T_int t76 t75 w_72 fun _ w_74 =>
                              J [] w_74) ∧
                            True) ∧
                          True) ∧
                        True) ∧
                      (vbuildS P T_Lint 3 [(0, (.int .i64 1)), (1, (.int .i64 (-1))), (2, (.int .i64 2))] w_67 fun t74_1 w_75 => (vload P T_Lint t68 w_75 fun v x => v = t69 ∧ x = w_75) ∧ (vfaddr P T_impl_Sat (sl 0 u) 0 w_75 fun v x => v = t68 ∧ x = w_75) ∧
                        (vcall P n_spec_l12Rd_pick #[v0, t19] w_75 fun t72_1 w_76 => (vload P T_Lint t68 w_76 fun v x => v = t69 ∧ x = w_76) ∧ (vfaddr P T_impl_Sat (sl 0 u) 0 w_76 fun v x => v = t68 ∧ x = w_76) ∧
                          (vcall P n_spec_l12Rd_num #[v0, t74_1] w_76 fun t75_1 w_77 => (vload P T_Lint t68 w_77 fun v x => v = t69 ∧ x = w_77) ∧ (vfaddr P T_impl_Sat (sl 0 u) 0 w_77 fun v x => v = t68 ∧ x = w_77) ∧
                            viaddr P T_Lint t69 t72_1 w_77 fun t76_1 w_78 => w_78 = w_77 ∧
                            (vstore P T_int t76_1 t75_1 w_77 fun _ w_79 =>
                              J [] w_79) ∧
                            True) ∧
                          True) ∧
                        True) ∧
                      True) (
                      J [] w_66)) (
                    vbin P .eql T_int true t21 (.int .i64 5) w_65 fun t78 w_80 =>
                    vif t78 (
                      vbin P .gtr T_int true t19 (.int .i64 0) w_80 fun t80 w_81 =>
                      vif t80 (
                        vdraw w_81 fun w_82 =>
                        vfaddr P T_impl_Sat (sl 0 u) 1 w_82 fun t81 w_83 => w_83 = w_82 ∧
                        vload P T_Lint t81 w_82 fun t82 w_84 => w_84 = w_82 ∧
                        (vcall P n_spec_l12Rd_pick #[v0, t19] w_82 fun t85 w_85 => (vload P T_Lint t81 w_85 fun v x => v = t82 ∧ x = w_85) ∧ (vfaddr P T_impl_Sat (sl 0 u) 1 w_85 fun v x => v = t81 ∧ x = w_85) ∧
                          (vbuildS P T_Lint 4 [(0, (.int .i64 (-1))), (1, (.int .i64 0)), (2, (.int .i64 1)), (3, (.int .i64 (-2)))] w_85 fun t87 w_86 => (vload P T_Lint t81 w_86 fun v x => v = t82 ∧ x = w_86) ∧ (vfaddr P T_impl_Sat (sl 0 u) 1 w_86 fun v x => v = t81 ∧ x = w_86) ∧
                            (vcall P n_spec_l12Rd_num #[v0, t87] w_86 fun t88 w_87 => (vload P T_Lint t81 w_87 fun v x => v = t82 ∧ x = w_87) ∧ (vfaddr P T_impl_Sat (sl 0 u) 1 w_87 fun v x => v = t81 ∧ x = w_87) ∧
                              viaddr P T_Lint t82 t85 w_87 fun t89 w_88 => w_88 = w_87 ∧
                              (vstore P T_int t89 t88 w_87 fun _ w_89 =>
                                J [] w_89) ∧
                              True) ∧
                            True) ∧
                          True) ∧
                        (vbuildS P T_Lint 4 [(0, (.int .i64 (-1))), (1, (.int .i64 0)), (2, (.int .i64 1)), (3, (.int .i64 (-2)))] w_82 fun t87_1 w_90 => (vload P T_Lint t81 w_90 fun v x => v = t82 ∧ x = w_90) ∧ (vfaddr P T_impl_Sat (sl 0 u) 1 w_90 fun v x => v = t81 ∧ x = w_90) ∧
                          (vcall P n_spec_l12Rd_pick #[v0, t19] w_90 fun t85_1 w_91 => (vload P T_Lint t81 w_91 fun v x => v = t82 ∧ x = w_91) ∧ (vfaddr P T_impl_Sat (sl 0 u) 1 w_91 fun v x => v = t81 ∧ x = w_91) ∧
                            (vcall P n_spec_l12Rd_num #[v0, t87_1] w_91 fun t88_1 w_92 => (vload P T_Lint t81 w_92 fun v x => v = t82 ∧ x = w_92) ∧ (vfaddr P T_impl_Sat (sl 0 u) 1 w_92 fun v x => v = t81 ∧ x = w_92) ∧
                              viaddr P T_Lint t82 t85_1 w_92 fun t89_1 w_93 => w_93 = w_92 ∧
                              (vstore P T_int t89_1 t88_1 w_92 fun _ w_94 =>
                                J [] w_94) ∧
                              True) ∧
                            True) ∧
                          True) ∧
                        True) (
                        J [] w_81)) (
                      vbin P .eql T_int true t21 (.int .i64 6) w_80 fun t91 w_95 =>
                      vif t91 (
                        vbin P .gtr T_int true t19 (.int .i64 0) w_95 fun t93 w_96 =>
                        vif t93 (
                          vfaddr P T_impl_Sat (sl 0 u) 0 w_96 fun t94 w_97 =>
                          vload P T_Lint t94 w_97 fun t95 w_98 =>
                          vbin P .sub T_int true t19 (.int .i64 1) w_98 fun t97 w_99 =>
                          vslice P T_Lint t95 none (some t97) none w_99 fun t98 w_100 =>
                          vfaddr P T_impl_Sat (sl 0 u) 0 w_100 fun t99 w_101 =>
                          vstore P T_Lint t99 t98 w_101 fun _ w_102 =>
                          vfaddr P T_impl_Sat (sl 0 u) 1 w_102 fun t100 w_103 =>
                          vload P T_Lint t100 w_103 fun t101 w_104 =>
                          vbin P .sub T_int true t19 (.int .i64 1) w_104 fun t103 w_105 =>
                          vslice P T_Lint t101 none (some t103) none w_105 fun t104 w_106 =>
                          vfaddr P T_impl_Sat (sl 0 u) 1 w_106 fun t105 w_107 =>
                          vstore P T_Lint t105 t104 w_107 fun _ w_108 =>
                          J [] w_108) (
                          J [] w_96)) (
                        vbin P .eql T_int true t21 (.int .i64 7) w_95 fun t107 w_109 =>
                        vif t107 (
                          vfaddr P T_impl_Sat (sl 0 u) 0 w_109 fun t108 w_110 =>
                          vload P T_Lint t108 w_110 fun t109 w_111 =>
                          vfaddr P T_impl_Cnf t3 0 w_111 fun t110 w_112 =>
                          vload P T_int t110 w_112 fun t111 w_113 =>
                          vbuildS P T_Lint 1 [(0, t111)] w_113 fun t112 w_114 =>
                          vbi P .append [T_Lint, T_Lint] T_Lint [t109, t112] w_114 fun t113 w_115 =>
                          vfaddr P T_impl_Sat (sl 0 u) 0 w_115 fun t114 w_116 =>
                          vstore P T_Lint t114 t113 w_116 fun _ w_117 =>
                          vfaddr P T_impl_Sat (sl 0 u) 1 w_117 fun t115 w_118 =>
                          vload P T_Lint t115 w_118 fun t116 w_119 =>
                          vbuildS P T_Lint 1 [(0, (.int .i64 (-1)))] w_119 fun t117 w_120 =>
                          vbi P .append [T_Lint, T_Lint] T_Lint [t116, t117] w_120 fun t118 w_121 =>
                          vfaddr P T_impl_Sat (sl 0 u) 1 w_121 fun t119 w_122 =>
                          vstore P T_Lint t119 t118 w_122 fun _ w_123 =>
                          J [] w_123) (
                          J [] w_109))))))))) (fun _ _ w_21 =>
          vload P T_impl_Sat (sl 0 u) w_21 fun t120 w_124 =>
          vstore P T_impl_Sat t4 t120 w_124 fun _ w_125 =>
          vlv P T_impl_Sat t4 w_125 fun r4_1 w_126 =>
          R r4_1 w_126)))
def A_spec_l5State : Ann := { ord := [(9, [0, 1, 2, 3, 4, 5, 6, 7, 8], [(0, [1, 6, 7, 8]), (1, [6, 7, 8]), (2, [4, 5, 6, 7, 8]), (3, [4, 5, 6, 7, 8]), (4, [5, 6, 7, 8]), (5, [6, 7, 8]), (6, [7, 8]), (7, [8])]), (10, [0, 1, 2, 3, 4, 5, 6, 7, 8], [(0, [1, 6, 7, 8]), (1, [6, 7, 8]), (2, [4, 5, 6, 7, 8]), (3, [4, 5, 6, 7, 8]), (4, [5, 6, 7, 8]), (5, [6, 7, 8]), (6, [7, 8]), (7, [8])]), (14, [0, 1, 2, 3, 4, 5, 6, 7, 8, 9], [(0, [1, 7, 8, 9]), (1, [7, 8, 9]), (2, [3, 4, 5, 6, 7, 8, 9]), (3, [4, 5, 6, 7, 8, 9]), (4, [5, 6, 7, 8, 9]), (5, [6, 7, 8, 9]), (6, [7, 8, 9]), (7, [8, 9]), (8, [9])])], loops := [], cuts := [(24604, [])], trees := [(17, (.st 0 (.st 1 (.st 2 (.st 3 (.st 5 (.alt 4 (.alt 6 (.alt 7 (.st 8 (.alt 9 .nil .no)) .no) .no) (.alt 6 (.alt 4 (.alt 7 (.st 8 (.alt 9 .nil .no)) .no) .no) .no))))))), [(0, [1, 8, 9]), (1, [8, 9]), (2, [4, 7, 8, 9]), (3, [4, 7, 8, 9]), (4, [7, 8, 9]), (5, [7, 8, 9]), (6, [7, 8, 9]), (7, [8, 9]), (8, [9])]), (20, (.st 0 (.st 1 (.st 2 (.st 3 (.st 5 (.alt 4 (.alt 6 (.alt 7 (.st 8 (.alt 9 .nil .no)) .no) .no) (.alt 6 (.alt 4 (.alt 7 (.st 8 (.alt 9 .nil .no)) .no) .no) .no))))))), [(0, [1, 8, 9]), (1, [8, 9]), (2, [4, 7, 8, 9]), (3, [4, 7, 8, 9]), (4, [7, 8, 9]), (5, [7, 8, 9]), (6, [7, 8, 9]), (7, [8, 9]), (8, [9])])], pars := [(3, [0, 1], [2, 3, 4, 5, 6, 7], [5, 13, 14, 15, 16], [(0, [4, 5, 7]), (1, [3, 4, 5, 7])])] }
theorem k_spec_l5State (v0 v1 : Value) (w : World) (R : Value → World → Prop) : vc PP A_spec_l5State ((Tryz.f78.body).getD .skip) (retF PP Tryz.f78.results.toList R) (nthV [v0, v1]) w = F_spec_l5State PP v0 v1 w R := by kernel_rfl
theorem c_spec_l5State {v0 v1 : Value} {w : World} {R : Value → World → Prop} (h : F_spec_l5State PP v0 v1 w R) : vcall PP n_spec_l5State #[v0, v1] w R :=
  call_of_vc (T := A_spec_l5State) (c := (Tryz.f78.body).getD .skip) (n := 121) mixed Tryz.func78 rfl rfl (by kernel_rfl) (by kernel_rfl) rfl (by rw [k_spec_l5State]; exact h)

/-- (*impl.trail).next -/
def F_impl_trail_next (P : Program) (v0 v1 : Value) (w : World) (R : Value → World → Prop) : Prop :=
  vbi P .len [T_LLLint] T_int [v1] w fun t16 w_1 =>
  vloop [(.int .i64 (-1)), (.int .i64 (-1)), (.int .i64 0), (.int .i64 0), (.int .i64 0)] w_1 fun C u _ w_2 =>
    vbin P .lss T_int false (sl 4 u) t16 w_2 fun t18 w_3 =>
    vif t18 (
      viaddr P T_LLLint v1 (sl 4 u) w_3 fun t19 w_4 =>
      vload P T_LLint t19 w_4 fun t20 w_5 =>
      vbi P .len [T_LLint] T_int [t20] w_5 fun t22 w_6 =>
      vloop [(sl 0 u), (sl 1 u), (sl 2 u), (sl 3 u), (.int .i64 0)] w_6 fun C_1 u_1 _ w_7 =>
        vbin P .lss T_int false (sl 4 u_1) t22 w_7 fun t24 w_8 =>
        vif t24 (
          viaddr P T_LLint t20 (sl 4 u_1) w_8 fun t25 w_9 =>
          vload P T_Lint t25 w_9 fun t26 w_10 =>
          vcall P n_impl_trail_look #[v0, t26] w_10 fun t30 w_11 =>
          vextract P t30 0 w_11 fun t31 w_12 =>
          vextract P t30 1 w_12 fun t32 w_13 =>
          vextract P t30 2 w_13 fun t33 w_14 =>
          vif t31 (
            vbin P .add T_int true (sl 3 u_1) (.int .i64 1) w_14 fun t52 w_15 =>
            vbin P .add T_int true (sl 4 u_1) (.int .i64 1) w_15 fun t53 w_16 =>
            C_1 [(sl 0 u_1), (sl 1 u_1), (sl 2 u_1), t52, t53] w_16) (
            vbin P .eql T_int true t32 (.int .i64 0) w_14 fun t38 w_17 =>
            vif t38 (
              R (.tuple #[(sl 3 u_1), (sl 1 u_1), (sl 2 u_1)]) w_17) (
              vbin P .eql T_int true t32 (.int .i64 1) w_17 fun t44 w_18 =>
              vif t44 (
                vbin P .lss T_int true (sl 1 u_1) (.int .i64 0) w_18 fun t47 w_19 =>
                vif t47 (
                  vbin P .add T_int true (sl 3 u_1) (.int .i64 1) w_19 fun t52_1 w_20 =>
                  vbin P .add T_int true (sl 4 u_1) (.int .i64 1) w_20 fun t53_1 w_21 =>
                  C_1 [(sl 0 u_1), (sl 3 u_1), t33, t52_1, t53_1] w_21) (
                  vbin P .add T_int true (sl 3 u_1) (.int .i64 1) w_19 fun t52_2 w_22 =>
                  vbin P .add T_int true (sl 4 u_1) (.int .i64 1) w_22 fun t53_2 w_23 =>
                  C_1 [(sl 0 u_1), (sl 1 u_1), (sl 2 u_1), t52_2, t53_2] w_23)) (
                vbin P .add T_int true (sl 3 u_1) (.int .i64 1) w_18 fun t52_3 w_24 =>
                vbin P .add T_int true (sl 4 u_1) (.int .i64 1) w_24 fun t53_3 w_25 =>
                C_1 [(sl 0 u_1), (sl 1 u_1), (sl 2 u_1), t52_3, t53_3] w_25)))) (
          vbin P .add T_int true (sl 4 u) (.int .i64 1) w_8 fun t54 w_26 =>
          C [(sl 0 u_1), (sl 1 u_1), (sl 2 u_1), (sl 3 u_1), t54] w_26)) (
      R (.tuple #[(sl 0 u), (sl 1 u), (sl 2 u)]) w_3)
def A_impl_trail_next : Ann := { ord := [], loops := [(4, [4, 5, 6, 7, 17]), (7, [4, 5, 6, 7, 23])], cuts := [] }
theorem k_impl_trail_next (v0 v1 : Value) (w : World) (R : Value → World → Prop) : vc PP A_impl_trail_next ((Tryz.f79.body).getD .skip) (retF PP Tryz.f79.results.toList R) (nthV [v0, v1]) w = F_impl_trail_next PP v0 v1 w R := by kernel_rfl
theorem c_impl_trail_next {v0 v1 : Value} {w : World} {R : Value → World → Prop} (h : F_impl_trail_next PP v0 v1 w R) : vcall PP n_impl_trail_next #[v0, v1] w R :=
  call_of_vc (T := A_impl_trail_next) (c := (Tryz.f79.body).getD .skip) (n := 58) mixed Tryz.func79 rfl rfl (by kernel_rfl) (by kernel_rfl) rfl (by rw [k_impl_trail_next]; exact h)

/-- (*impl.search).resolve -/
def F_impl_search_resolve (P : Program) (v0 v1 : Value) (w : World) (R : Value → World → Prop) : Prop :=
  vbox P T_P_impl_search v0 w fun t2 w_1 =>
  vmkF P (.func n_impl_search_resolve_1) [] [t2] w_1 fun t7 w_2 =>
  vcall P n_slices_ContainsFunc_Lint_int #[v1, t7] w_2 fun t8 w_3 =>
  vun P .not t8 w_3 fun t9 w_4 =>
  vif t9 (
    vload P T_P_impl_search t2 w_4 fun t10 w_5 =>
    vnil P t10 w_5 fun t11 w_6 =>
    vfaddr P T_impl_search t11 4 w_6 fun t12 w_7 =>
    vstore P T_int t12 (.int .i64 2) w_7 fun _ w_8 =>
    R (.tuple #[]) w_8) (
    vload P T_P_impl_search t2 w_4 fun t13 w_9 =>
    vnil P t13 w_9 fun t14 w_10 =>
    vfaddr P T_impl_search t14 3 w_10 fun t15 w_11 =>
    vload P T_LLint t15 w_11 fun t16 w_12 =>
    vbi P .len [T_LLint] T_int [t16] w_12 fun t17 w_13 =>
    vbin P .eql T_int true t17 (.int .i64 300) w_13 fun t18 w_14 =>
    vif t18 (
      vload P T_P_impl_search t2 w_14 fun t19 w_15 =>
      vnil P t19 w_15 fun t20 w_16 =>
      vfaddr P T_impl_search t20 4 w_16 fun t21 w_17 =>
      vstore P T_int t21 (.int .i64 3) w_17 fun _ w_18 =>
      R (.tuple #[]) w_18) (
      vload P T_P_impl_search t2 w_14 fun t23 w_19 =>
      vcall P n_impl_search_learn #[t23, v1] w_19 fun t25 w_20 =>
      vextract P t25 0 w_20 fun t26 w_21 =>
      vextract P t25 1 w_21 fun t27 w_22 =>
      vdraw w_22 fun w_23 =>
      vload P T_P_impl_search t2 w_23 fun t28 w_24 => w_24 = w_23 ∧
      vload P T_P_impl_search t2 w_23 fun t29 w_25 => w_25 = w_23 ∧
      vnil P t29 w_23 fun t30 w_26 => w_26 = w_23 ∧
      vfaddr P T_impl_search t30 3 w_23 fun t31 w_27 => w_27 = w_23 ∧
      vload P T_LLint t31 w_23 fun t32 w_28 => w_28 = w_23 ∧
      vbuildS P T_LLint 1 [(0, t26)] w_23 fun t34 w_29 => (vload P T_LLint t31 w_29 fun v x => v = t32 ∧ x = w_29) ∧ (vfaddr P T_impl_search t30 3 w_29 fun v x => v = t31 ∧ x = w_29) ∧ (vnil P t29 w_29 fun v x => v = t30 ∧ x = w_29) ∧ (vload P T_P_impl_search t2 w_29 fun v x => v = t29 ∧ x = w_29) ∧ (vload P T_P_impl_search t2 w_29 fun v x => v = t28 ∧ x = w_29) ∧
      vbi P .append [T_LLint, T_LLint] T_LLint [t32, t34] w_29 fun t35 w_30 => (vload P T_P_impl_search t2 w_30 fun v x => v = t28 ∧ x = w_30) ∧
      vnil P t28 w_30 fun t36 w_31 => w_31 = w_30 ∧
      vfaddr P T_impl_search t36 3 w_30 fun t37 w_32 => w_32 = w_30 ∧
      vstore P T_LLint t37 t35 w_30 fun _ w_33 =>
      vload P T_P_impl_search t2 w_33 fun t38 w_34 =>
      vcall P n_impl_search_goBack #[t38, t27] w_34 fun _ w_35 =>
      R (.tuple #[]) w_35))
def A_impl_search_resolve : Ann := { ord := [(6, [0, 1, 2, 3, 4, 5, 6, 7, 8, 9, 10], [(0, [8, 9, 10]), (1, [2, 3, 4, 7, 8, 9, 10]), (2, [3, 4, 7, 8, 9, 10]), (3, [4, 7, 8, 9, 10]), (4, [7, 8, 9, 10]), (5, [6, 7, 8, 9, 10]), (6, [7, 8, 9, 10]), (7, [8, 9, 10]), (8, [9, 10]), (9, [10])])], loops := [], cuts := [] }
theorem k_impl_search_resolve (v0 v1 : Value) (w : World) (R : Value → World → Prop) : vc PP A_impl_search_resolve ((Tryz.f80.body).getD .skip) (retF PP Tryz.f80.results.toList R) (nthV [v0, v1]) w = F_impl_search_resolve PP v0 v1 w R := by kernel_rfl
theorem c_impl_search_resolve {v0 v1 : Value} {w : World} {R : Value → World → Prop} (h : F_impl_search_resolve PP v0 v1 w R) : vcall PP n_impl_search_resolve #[v0, v1] w R :=
  call_of_vc (T := A_impl_search_resolve) (c := (Tryz.f80.body).getD .skip) (n := 41) mixed Tryz.func80 rfl rfl (by kernel_rfl) (by kernel_rfl) rfl (by rw [k_impl_search_resolve]; exact h)

/-- (*impl.search).assign -/
def F_impl_search_assign (P : Program) (v0 v1 v2 : Value) (w : World) (R : Value → World → Prop) : Prop :=
  vnil P v0 w fun t7 w_1 =>
  vfaddr P T_impl_search t7 1 w_1 fun t8 w_2 =>
  vload P T_P_impl_trail t8 w_2 fun t9 w_3 =>
  vbin P .eql T_int true v2 (.int .i64 (-1)) w_3 fun t12 w_4 =>
  vcall P n_impl_trail_push #[t9, v1, t12] w_4 fun _ w_5 =>
  vnil P v0 w_5 fun t16 w_6 =>
  vfaddr P T_impl_search t16 2 w_6 fun t17 w_7 =>
  vload P T_Lint t17 w_7 fun t18 w_8 =>
  vbuildS P T_Lint 1 [(0, v2)] w_8 fun t20 w_9 =>
  vbi P .append [T_Lint, T_Lint] T_Lint [t18, t20] w_9 fun t21 w_10 =>
  vnil P v0 w_10 fun t22 w_11 =>
  vfaddr P T_impl_search t22 2 w_11 fun t23 w_12 =>
  vstore P T_Lint t23 t21 w_12 fun _ w_13 =>
  R (.tuple #[]) w_13
def A_impl_search_assign : Ann := { ord := [], loops := [], cuts := [] }
theorem k_impl_search_assign (v0 v1 v2 : Value) (w : World) (R : Value → World → Prop) : vc PP A_impl_search_assign ((Tryz.f81.body).getD .skip) (retF PP Tryz.f81.results.toList R) (nthV [v0, v1, v2]) w = F_impl_search_assign PP v0 v1 v2 w R := by kernel_rfl
theorem c_impl_search_assign {v0 v1 v2 : Value} {w : World} {R : Value → World → Prop} (h : F_impl_search_assign PP v0 v1 v2 w R) : vcall PP n_impl_search_assign #[v0, v1, v2] w R :=
  call_of_vc (T := A_impl_search_assign) (c := (Tryz.f81.body).getD .skip) (n := 24) mixed Tryz.func81 rfl rfl (by kernel_rfl) (by kernel_rfl) rfl (by rw [k_impl_search_assign]; exact h)

/-- (*impl.trail).assigned -/
def F_impl_trail_assigned (P : Program) (v0 v1 : Value) (w : World) (R : Value → World → Prop) : Prop :=
  vdraw w fun w_1 =>
  vnil P v0 w_1 fun t6 w_2 => w_2 = w_1 ∧
  vfaddr P T_impl_trail t6 1 w_1 fun t7 w_3 => w_3 = w_1 ∧
  vload P T_Lint t7 w_1 fun t8 w_4 => w_4 = w_1 ∧
  vcall P n_impl_literal_variable #[v1] w_1 fun t10 w_5 => (vload P T_Lint t7 w_5 fun v x => v = t8 ∧ x = w_5) ∧ (vfaddr P T_impl_trail t6 1 w_5 fun v x => v = t7 ∧ x = w_5) ∧ (vnil P v0 w_5 fun v x => v = t6 ∧ x = w_5) ∧
  viaddr P T_Lint t8 t10 w_5 fun t11 w_6 => w_6 = w_5 ∧
  vload P T_int t11 w_5 fun t12 w_7 => w_7 = w_5 ∧
  vbin P .neq T_int true t12 (.int .i64 0) w_5 fun t13 w_8 => w_8 = w_5 ∧
  R t13 w_5
def A_impl_trail_assigned : Ann := { ord := [(1, [0, 1, 2, 3, 4, 5, 6, 7, 8, 9], [(0, [1, 2, 3, 6, 7, 8, 9]), (1, [2, 3, 6, 7, 8, 9]), (2, [3, 6, 7, 8, 9]), (3, [6, 7, 8, 9]), (4, [5, 6, 7, 8, 9]), (5, [6, 7, 8, 9]), (6, [7, 8, 9]), (7, [8, 9]), (8, [9])])], loops := [], cuts := [] }
theorem k_impl_trail_assigned (v0 v1 : Value) (w : World) (R : Value → World → Prop) : vc PP A_impl_trail_assigned ((Tryz.f82.body).getD .skip) (retF PP Tryz.f82.results.toList R) (nthV [v0, v1]) w = F_impl_trail_assigned PP v0 v1 w R := by kernel_rfl
theorem c_impl_trail_assigned {v0 v1 : Value} {w : World} {R : Value → World → Prop} (h : F_impl_trail_assigned PP v0 v1 w R) : vcall PP n_impl_trail_assigned #[v0, v1] w R :=
  call_of_vc (T := A_impl_trail_assigned) (c := (Tryz.f82.body).getD .skip) (n := 14) mixed Tryz.func82 rfl rfl (by kernel_rfl) (by kernel_rfl) rfl (by rw [k_impl_trail_assigned]; exact h)

/-- spec.l5Vals -/
def F_spec_l5Vals (P : Program) (v0 v1 : Value) (w : World) (R : Value → World → Prop) : Prop :=
  vbox P T_impl_Cnf v0 w fun t2 w_1 =>
  vfaddr P T_impl_Cnf t2 0 w_1 fun t7 w_2 =>
  vload P T_int t7 w_2 fun t8 w_3 =>
  vbin P .add T_int true t8 (.int .i64 1) w_3 fun t9 w_4 =>
  vmkS P T_Lint t9 t9 w_4 fun t10 w_5 =>
  vloop [(.int .i64 0)] w_5 fun C u _ w_6 =>
    vbi P .len [T_Lint] T_int [v1] w_6 fun t13 w_7 =>
    vbin P .lss T_int false (sl 0 u) t13 w_7 fun t14 w_8 =>
    vif t14 (
      viaddr P T_Lint v1 (sl 0 u) w_8 fun t19 w_9 =>
      vload P T_int t19 w_9 fun t20 w_10 =>
      vbin P .gtr T_int true t20 (.int .i64 0) w_10 fun t21 w_11 =>
      vif t21 (
        viaddr P T_Lint v1 (sl 0 u) w_11 fun t25 w_12 =>
        vload P T_int t25 w_12 fun t26 w_13 =>
        viaddr P T_Lint t10 t26 w_13 fun t27 w_14 =>
        vstore P T_int t27 (.int .i64 1) w_14 fun _ w_15 =>
        vbin P .add T_int true (sl 0 u) (.int .i64 1) w_15 fun t16 w_16 =>
        C [t16] w_16) (
        viaddr P T_Lint v1 (sl 0 u) w_11 fun t31 w_17 =>
        vload P T_int t31 w_17 fun t32 w_18 =>
        vun P .neg t32 w_18 fun t33 w_19 =>
        viaddr P T_Lint t10 t33 w_19 fun t34 w_20 =>
        vstore P T_int t34 (.int .i64 (-1)) w_20 fun _ w_21 =>
        vbin P .add T_int true (sl 0 u) (.int .i64 1) w_21 fun t16_1 w_22 =>
        C [t16_1] w_22)) (
      R t10 w_8)
def A_spec_l5Vals : Ann := { ord := [], loops := [(3, [6])], cuts := [] }
theorem k_spec_l5Vals (v0 v1 : Value) (w : World) (R : Value → World → Prop) : vc PP A_spec_l5Vals ((Tryz.f83.body).getD .skip) (retF PP Tryz.f83.results.toList R) (nthV [v0, v1]) w = F_spec_l5Vals PP v0 v1 w R := by kernel_rfl
theorem c_spec_l5Vals {v0 v1 : Value} {w : World} {R : Value → World → Prop} (h : F_spec_l5Vals PP v0 v1 w R) : vcall PP n_spec_l5Vals #[v0, v1] w R :=
  call_of_vc (T := A_spec_l5Vals) (c := (Tryz.f83.body).getD .skip) (n := 36) mixed Tryz.func83 rfl rfl (by kernel_rfl) (by kernel_rfl) rfl (by rw [k_spec_l5Vals]; exact h)

/-- spec.l5Find -/
def F_spec_l5Find (P : Program) (v0 v1 v2 : Value) (w : World) (R : Value → World → Prop) : Prop :=
  vbox P T_impl_Cnf v0 w fun t3 w_1 =>
  vfaddr P T_impl_Cnf t3 1 w_1 fun t16 w_2 =>
  vload P T_LLint t16 w_2 fun t17 w_3 =>
  vbi P .len [T_LLint] T_int [t17] w_3 fun t18 w_4 =>
  vloop [(.int .i64 (-1)), (.int .i64 0), (.int .i64 0)] w_4 fun C u _ w_5 =>
    vbi P .len [T_LLint] T_int [v1] w_5 fun t22 w_6 =>
    vbin P .add T_int false t18 t22 w_6 fun t23 w_7 =>
    vbin P .lss T_int false (sl 2 u) t23 w_7 fun t24 w_8 =>
    vif t24 (
      vbuildS P T_Lint 0 [] w_8 fun _ w_9 =>
      vjoin (fun J =>
        vbin P .lss T_int false (sl 2 u) t18 w_9 fun t30 w_11 =>
        vif t30 (
          vfaddr P T_impl_Cnf t3 1 w_11 fun t31 w_12 =>
          vload P T_LLint t31 w_12 fun t32 w_13 =>
          viaddr P T_LLint t32 (sl 2 u) w_13 fun t34 w_14 =>
          vload P T_Lint t34 w_14 fun t35 w_15 =>
          J [t35] w_15) (
          vbin P .sub T_int false (sl 2 u) t18 w_11 fun t39 w_16 =>
          viaddr P T_LLint v1 t39 w_16 fun t40 w_17 =>
          vload P T_Lint t40 w_17 fun t41 w_18 =>
          J [t41] w_18)) (fun u_1 _ w_10 =>
        vcall P n_spec_l5Look #[v2, (sl 0 u_1)] w_10 fun t45 w_19 =>
        vextract P t45 0 w_19 fun t46 w_20 =>
        vextract P t45 1 w_20 fun t47 w_21 =>
        vbin P .eql T_int true t46 (.int .i64 0) w_21 fun t49 w_22 =>
        vif t49 (
          R (.tuple #[(sl 2 u), (.int .i64 (-1)), (.int .i64 0)]) w_22) (
          vbin P .eql T_int true t46 (.int .i64 1) w_22 fun t52 w_23 =>
          vif t52 (
            vbin P .lss T_int true (sl 0 u) (.int .i64 0) w_23 fun t55 w_24 =>
            vif t55 (
              vbin P .add T_int true (sl 2 u) (.int .i64 1) w_24 fun t26 w_25 =>
              C [(sl 2 u), t47, t26] w_25) (
              vbin P .add T_int true (sl 2 u) (.int .i64 1) w_24 fun t26_1 w_26 =>
              C [(sl 0 u), (sl 1 u), t26_1] w_26)) (
            vbin P .add T_int true (sl 2 u) (.int .i64 1) w_23 fun t26_2 w_27 =>
            C [(sl 0 u), (sl 1 u), t26_2] w_27)))) (
      R (.tuple #[(.int .i64 (-1)), (sl 0 u), (sl 1 u)]) w_8)
def A_spec_l5Find : Ann := { ord := [], loops := [(5, [9, 10, 12])], cuts := [(36875, [13])] }
theorem k_spec_l5Find (v0 v1 v2 : Value) (w : World) (R : Value → World → Prop) : vc PP A_spec_l5Find ((Tryz.f84.body).getD .skip) (retF PP Tryz.f84.results.toList R) (nthV [v0, v1, v2]) w = F_spec_l5Find PP v0 v1 v2 w R := by kernel_rfl
theorem c_spec_l5Find {v0 v1 v2 : Value} {w : World} {R : Value → World → Prop} (h : F_spec_l5Find PP v0 v1 v2 w R) : vcall PP n_spec_l5Find #[v0, v1, v2] w R :=
  call_of_vc (T := A_spec_l5Find) (c := (Tryz.f84.body).getD .skip) (n := 61) mixed Tryz.func84 rfl rfl (by kernel_rfl) (by kernel_rfl) rfl (by rw [k_spec_l5Find]; exact h)

/-- spec.l5Clash -/
def F_spec_l5Clash (P : Program) (v0 v1 v2 : Value) (w : World) (R : Value → World → Prop) : Prop :=
  vbox P T_impl_Cnf v0 w fun t3 w_1 =>
  vbox P T_impl_Sat v1 w_1 fun t4 w_2 =>
  valloc P T_impl_Sat w_2 fun t6 w_3 =>
  vload P T_impl_Cnf t3 w_3 fun t10 w_4 =>
  vload P T_impl_Sat t4 w_4 fun t11 w_5 =>
  vcall P n_spec_l5Levels #[t10, t11] w_5 fun t12 w_6 =>
  vcall P n_spec_l5Top #[t12, v2] w_6 fun t16 w_7 =>
  vextract P t16 0 w_7 fun t17 w_8 =>
  vextract P t16 1 w_8 fun _ w_9 =>
  vbin P .eql T_int true t17 (.int .i64 0) w_9 fun t20 w_10 =>
  vif t20 (
    vfaddr P T_impl_Sat t4 3 w_10 fun t21 w_11 =>
    vstore P T_int t21 (.int .i64 2) w_11 fun _ w_12 =>
    vload P T_impl_Sat t4 w_12 fun t22 w_13 =>
    vstore P T_impl_Sat t6 t22 w_13 fun _ w_14 =>
    vlv P T_impl_Sat t6 w_14 fun r6 w_15 =>
    R r6 w_15) (
    vfaddr P T_impl_Sat t4 2 w_10 fun t23 w_16 =>
    vload P T_LLint t23 w_16 fun t24 w_17 =>
    vbi P .len [T_LLint] T_int [t24] w_17 fun t25 w_18 =>
    vbin P .geq T_int true t25 (.int .i64 300) w_18 fun t26 w_19 =>
    vif t26 (
      vfaddr P T_impl_Sat t4 3 w_19 fun t27 w_20 =>
      vstore P T_int t27 (.int .i64 3) w_20 fun _ w_21 =>
      vload P T_impl_Sat t4 w_21 fun t28 w_22 =>
      vstore P T_impl_Sat t6 t28 w_22 fun _ w_23 =>
      vlv P T_impl_Sat t6 w_23 fun r6_1 w_24 =>
      R r6_1 w_24) (
      vdraw w_19 fun w_25 =>
      vload P T_impl_Cnf t3 w_25 fun t29 w_26 => w_26 = w_25 ∧
      vload P T_impl_Sat t4 w_25 fun t30 w_27 => w_27 = w_25 ∧
      vbuildS P T_Lint 0 [] w_25 fun t32 w_28 => (vload P T_impl_Sat t4 w_28 fun v x => v = t30 ∧ x = w_28) ∧ (vload P T_impl_Cnf t3 w_28 fun v x => v = t29 ∧ x = w_28) ∧
      vbi P .append [T_Lint, T_Lint] T_Lint [t32, v2] w_28 fun t34 w_29 => (vload P T_impl_Sat t4 w_29 fun v x => v = t30 ∧ x = w_29) ∧ (vload P T_impl_Cnf t3 w_29 fun v x => v = t29 ∧ x = w_29) ∧
      vcall P n_spec_l5Learn #[t29, t30, t12, t34] w_29 fun t35 w_30 =>
      vbuildS P T_LLint 0 [] w_30 fun t36 w_31 =>
      vfaddr P T_impl_Sat t4 2 w_31 fun t37 w_32 =>
      vload P T_LLint t37 w_32 fun t38 w_33 =>
      vbi P .append [T_LLint, T_LLint] T_LLint [t36, t38] w_33 fun t39 w_34 =>
      vbuildS P T_LLint 1 [(0, t35)] w_34 fun t41 w_35 =>
      vbi P .append [T_LLint, T_LLint] T_LLint [t39, t41] w_35 fun t42 w_36 =>
      vfaddr P T_impl_Sat t4 2 w_36 fun t43 w_37 =>
      vstore P T_LLint t43 t42 w_37 fun _ w_38 =>
      vdraw w_38 fun w_39 =>
      vload P T_impl_Sat t4 w_39 fun t44 w_40 => w_40 = w_39 ∧
      vcall P n_spec_l5Below #[t12, t35, t17] w_39 fun t48 w_41 => (vload P T_impl_Sat t4 w_41 fun v x => v = t44 ∧ x = w_41) ∧
      vcall P n_spec_l5Back #[t44, t48] w_41 fun t49 w_42 =>
      vstore P T_impl_Sat t6 t49 w_42 fun _ w_43 =>
      vlv P T_impl_Sat t6 w_43 fun r6_2 w_44 =>
      R r6_2 w_44))
def A_spec_l5Clash : Ann := { ord := [(9, [0, 1, 2, 4, 3, 5, 6, 7], [(0, [6, 7]), (1, [6, 7]), (2, [6, 7]), (4, [5, 6, 7]), (3, [5, 6, 7]), (5, [6, 7]), (6, [7])]), (11, [0, 1, 2, 3, 4, 5, 6], [(0, [5, 6]), (1, [4, 5, 6]), (2, [4, 5, 6]), (3, [4, 5, 6]), (4, [5, 6]), (5, [6])])], loops := [], cuts := [] }
theorem k_spec_l5Clash (v0 v1 v2 : Value) (w : World) (R : Value → World → Prop) : vc PP A_spec_l5Clash ((Tryz.f85.body).getD .skip) (retF PP Tryz.f85.results.toList R) (nthV [v0, v1, v2]) w = F_spec_l5Clash PP v0 v1 v2 w R := by kernel_rfl
theorem c_spec_l5Clash {v0 v1 v2 : Value} {w : World} {R : Value → World → Prop} (h : F_spec_l5Clash PP v0 v1 v2 w R) : vcall PP n_spec_l5Clash #[v0, v1, v2] w R :=
  call_of_vc (T := A_spec_l5Clash) (c := (Tryz.f85.body).getD .skip) (n := 50) mixed Tryz.func85 rfl rfl (by kernel_rfl) (by kernel_rfl) rfl (by rw [k_spec_l5Clash]; exact h)

/-- spec.l5At -/
def F_spec_l5At (P : Program) (v0 v1 v2 : Value) (w : World) (R : Value → World → Prop) : Prop :=
  vbox P T_impl_Cnf v0 w fun t3 w_1 =>
  vbox P T_impl_Sat v1 w_1 fun t4 w_2 =>
  vfaddr P T_impl_Cnf t3 1 w_2 fun t8 w_3 =>
  vload P T_LLint t8 w_3 fun t9 w_4 =>
  vbi P .len [T_LLint] T_int [t9] w_4 fun t10 w_5 =>
  vbin P .lss T_int false v2 t10 w_5 fun t11 w_6 =>
  vif t11 (
    vfaddr P T_impl_Cnf t3 1 w_6 fun t12 w_7 =>
    vload P T_LLint t12 w_7 fun t13 w_8 =>
    viaddr P T_LLint t13 v2 w_8 fun t15 w_9 =>
    vload P T_Lint t15 w_9 fun t16 w_10 =>
    R t16 w_10) (
    vfaddr P T_impl_Sat t4 2 w_6 fun t17 w_11 =>
    vload P T_LLint t17 w_11 fun t18 w_12 =>
    vfaddr P T_impl_Cnf t3 1 w_12 fun t20 w_13 =>
    vload P T_LLint t20 w_13 fun t21 w_14 =>
    vbi P .len [T_LLint] T_int [t21] w_14 fun t22 w_15 =>
    vbin P .sub T_int false v2 t22 w_15 fun t23 w_16 =>
    viaddr P T_LLint t18 t23 w_16 fun t24 w_17 =>
    vload P T_Lint t24 w_17 fun t25 w_18 =>
    R t25 w_18)
def A_spec_l5At : Ann := { ord := [], loops := [], cuts := [] }
theorem k_spec_l5At (v0 v1 v2 : Value) (w : World) (R : Value → World → Prop) : vc PP A_spec_l5At ((Tryz.f86.body).getD .skip) (retF PP Tryz.f86.results.toList R) (nthV [v0, v1, v2]) w = F_spec_l5At PP v0 v1 v2 w R := by kernel_rfl
theorem c_spec_l5At {v0 v1 v2 : Value} {w : World} {R : Value → World → Prop} (h : F_spec_l5At PP v0 v1 v2 w R) : vcall PP n_spec_l5At #[v0, v1, v2] w R :=
  call_of_vc (T := A_spec_l5At) (c := (Tryz.f86.body).getD .skip) (n := 26) mixed Tryz.func86 rfl rfl (by kernel_rfl) (by kernel_rfl) rfl (by rw [k_spec_l5At]; exact h)

/-- spec.l4Abs -/
def F_spec_l4Abs (P : Program) (v0 : Value) (w : World) (R : Value → World → Prop) : Prop :=
  vbin P .lss T_int true v0 (.int .i64 0) w fun t4 w_1 =>
  vif t4 (
    vun P .neg v0 w_1 fun t6 w_2 =>
    R t6 w_2) (
    R v0 w_1)
def A_spec_l4Abs : Ann := { ord := [], loops := [], cuts := [] }
theorem k_spec_l4Abs (v0 : Value) (w : World) (R : Value → World → Prop) : vc PP A_spec_l4Abs ((Tryz.f87.body).getD .skip) (retF PP Tryz.f87.results.toList R) (nthV [v0]) w = F_spec_l4Abs PP v0 w R := by kernel_rfl
theorem c_spec_l4Abs {v0 : Value} {w : World} {R : Value → World → Prop} (h : F_spec_l4Abs PP v0 w R) : vcall PP n_spec_l4Abs #[v0] w R :=
  call_of_vc (T := A_spec_l4Abs) (c := (Tryz.f87.body).getD .skip) (n := 8) mixed Tryz.func87 rfl rfl (by kernel_rfl) (by kernel_rfl) rfl (by rw [k_spec_l4Abs]; exact h)

/-- spec.l5Because -/
def F_spec_l5Because (P : Program) (v0 v1 v2 : Value) (w : World) (R : Value → World → Prop) : Prop :=
  vloop [(.bool false), (.int .i64 0)] w fun C u _ w_1 =>
    vbi P .len [T_Lint] T_int [v1] w_1 fun t11 w_2 =>
    vbin P .lss T_int false (sl 1 u) t11 w_2 fun t12 w_3 =>
    vif t12 (
      viaddr P T_Lint v1 (sl 1 u) w_3 fun t17 w_4 =>
      vload P T_int t17 w_4 fun t18 w_5 =>
      vbin P .eql T_int false t18 v2 w_5 fun t20 w_6 =>
      vif t20 (
        vbin P .add T_int true (sl 1 u) (.int .i64 1) w_6 fun t14 w_7 =>
        C [(.bool true), t14] w_7) (
        viaddr P T_Lint v1 (sl 1 u) w_6 fun t24 w_8 =>
        vload P T_int t24 w_8 fun t25 w_9 =>
        vcall P n_spec_l5Sign #[v0, t25] w_9 fun t26 w_10 =>
        vbin P .geq T_int true t26 (.int .i64 0) w_10 fun t27 w_11 =>
        vif t27 (
          R (.bool false) w_11) (
          vbin P .add T_int true (sl 1 u) (.int .i64 1) w_11 fun t14_1 w_12 =>
          C [(sl 0 u), t14_1] w_12))) (
      R (sl 0 u) w_3)
def A_spec_l5Because : Ann := { ord := [], loops := [(3, [7, 8])], cuts := [] }
theorem k_spec_l5Because (v0 v1 v2 : Value) (w : World) (R : Value → World → Prop) : vc PP A_spec_l5Because ((Tryz.f88.body).getD .skip) (retF PP Tryz.f88.results.toList R) (nthV [v0, v1, v2]) w = F_spec_l5Because PP v0 v1 v2 w R := by kernel_rfl
theorem c_spec_l5Because {v0 v1 v2 : Value} {w : World} {R : Value → World → Prop} (h : F_spec_l5Because PP v0 v1 v2 w R) : vcall PP n_spec_l5Because #[v0, v1, v2] w R :=
  call_of_vc (T := A_spec_l5Because) (c := (Tryz.f88.body).getD .skip) (n := 29) mixed Tryz.func88 rfl rfl (by kernel_rfl) (by kernel_rfl) rfl (by rw [k_spec_l5Because]; exact h)

/-- slices.IndexFunc[[][]int,[]int] -/
def F_slices_IndexFunc_LLint_Lint (P : Program) (v0 v1 : Value) (w : World) (R : Value → World → Prop) : Prop :=
  vbi P .len [T_LLint] T_int [v0] w fun t7 w_1 =>
  vloop [(.int .i64 0)] w_1 fun C u _ w_2 =>
    vbin P .lss T_int false (sl 0 u) t7 w_2 fun t9 w_3 =>
    vif t9 (
      viaddr P T_LLint v0 (sl 0 u) w_3 fun t14 w_4 =>
      vload P T_Lint t14 w_4 fun t15 w_5 =>
      vcallv P v1 #[t15] w_5 fun t16 w_6 =>
      vif t16 (
        R (sl 0 u) w_6) (
        vbin P .add T_int true (sl 0 u) (.int .i64 1) w_6 fun t18 w_7 =>
        C [t18] w_7)) (
      R (.int .i64 (-1)) w_3)
def A_slices_IndexFunc_LLint_Lint : Ann := { ord := [], loops := [(2, [8])], cuts := [] }
theorem k_slices_IndexFunc_LLint_Lint (v0 v1 : Value) (w : World) (R : Value → World → Prop) : vc PP A_slices_IndexFunc_LLint_Lint ((Tryz.f89.body).getD .skip) (retF PP Tryz.f89.results.toList R) (nthV [v0, v1]) w = F_slices_IndexFunc_LLint_Lint PP v0 v1 w R := by kernel_rfl
theorem c_slices_IndexFunc_LLint_Lint {v0 v1 : Value} {w : World} {R : Value → World → Prop} (h : F_slices_IndexFunc_LLint_Lint PP v0 v1 w R) : vcall PP n_slices_IndexFunc_LLint_Lint #[v0, v1] w R :=
  call_of_vc (T := A_slices_IndexFunc_LLint_Lint) (c := (Tryz.f89.body).getD .skip) (n := 19) mixed Tryz.func89 rfl rfl (by kernel_rfl) (by kernel_rfl) rfl (by rw [k_slices_IndexFunc_LLint_Lint]; exact h)

/-- (impl.literal).of -/
def F_impl_literal_of (P : Program) (v0 v1 : Value) (w : World) (R : Value → World → Prop) : Prop :=
  vbin P .neq T_impl_literal true v0 (.int .i64 0) w fun t6 w_1 =>
  vif t6 (
    vun P .neg v1 w_1 fun t10 w_2 =>
    vbin P .geq T_impl_literal false v0 t10 w_2 fun t11 w_3 =>
    vif t11 (
      vbin P .leq T_impl_literal false v0 v1 w_3 fun t16 w_4 =>
      R t16 w_4) (
      R (.bool false) w_3)) (
    R (.bool false) w_1)
def A_impl_literal_of : Ann := { ord := [], loops := [], cuts := [] }
theorem k_impl_literal_of (v0 v1 : Value) (w : World) (R : Value → World → Prop) : vc PP A_impl_literal_of ((Tryz.f90.body).getD .skip) (retF PP Tryz.f90.results.toList R) (nthV [v0, v1]) w = F_impl_literal_of PP v0 v1 w R := by kernel_rfl
theorem c_impl_literal_of {v0 v1 : Value} {w : World} {R : Value → World → Prop} (h : F_impl_literal_of PP v0 v1 w R) : vcall PP n_impl_literal_of #[v0, v1] w R :=
  call_of_vc (T := A_impl_literal_of) (c := (Tryz.f90.body).getD .skip) (n := 18) mixed Tryz.func90 rfl rfl (by kernel_rfl) (by kernel_rfl) rfl (by rw [k_impl_literal_of]; exact h)

/-- slices.ContainsFunc[[]int,int] -/
def F_slices_ContainsFunc_Lint_int (P : Program) (v0 v1 : Value) (w : World) (R : Value → World → Prop) : Prop :=
  vcall P n_slices_IndexFunc_Lint_int #[v0, v1] w fun t7 w_1 =>
  vbin P .geq T_int true t7 (.int .i64 0) w_1 fun t8 w_2 =>
  R t8 w_2
def A_slices_ContainsFunc_Lint_int : Ann := { ord := [], loops := [], cuts := [] }
theorem k_slices_ContainsFunc_Lint_int (v0 v1 : Value) (w : World) (R : Value → World → Prop) : vc PP A_slices_ContainsFunc_Lint_int ((Tryz.f91.body).getD .skip) (retF PP Tryz.f91.results.toList R) (nthV [v0, v1]) w = F_slices_ContainsFunc_Lint_int PP v0 v1 w R := by kernel_rfl
theorem c_slices_ContainsFunc_Lint_int {v0 v1 : Value} {w : World} {R : Value → World → Prop} (h : F_slices_ContainsFunc_Lint_int PP v0 v1 w R) : vcall PP n_slices_ContainsFunc_Lint_int #[v0, v1] w R :=
  call_of_vc (T := A_slices_ContainsFunc_Lint_int) (c := (Tryz.f91.body).getD .skip) (n := 9) mixed Tryz.func91 rfl rfl (by kernel_rfl) (by kernel_rfl) rfl (by rw [k_slices_ContainsFunc_Lint_int]; exact h)

/-- impl.ClauseHas$1 -/
def F_impl_ClauseHas_1 (P : Program) (v0 v1 : Value) (w : World) (R : Value → World → Prop) : Prop :=
  vload P T_Lbool v1 w fun t5 w_1 =>
  vcall P n_impl_literal_holds #[v0, t5] w_1 fun t6 w_2 =>
  R t6 w_2
def A_impl_ClauseHas_1 : Ann := { ord := [], loops := [], cuts := [] }
theorem k_impl_ClauseHas_1 (v0 v1 : Value) (w : World) (R : Value → World → Prop) : vc PP A_impl_ClauseHas_1 ((Tryz.f92.body).getD .skip) (retF PP Tryz.f92.results.toList R) (nthV [v0, v1]) w = F_impl_ClauseHas_1 PP v0 v1 w R := by kernel_rfl
theorem c_impl_ClauseHas_1 {v0 v1 : Value} {w : World} {R : Value → World → Prop} (h : F_impl_ClauseHas_1 PP v0 v1 w R) : vcall PP n_impl_ClauseHas_1 #[v0, v1] w R :=
  call_of_vc (T := A_impl_ClauseHas_1) (c := (Tryz.f92.body).getD .skip) (n := 7) mixed Tryz.func92 rfl rfl (by kernel_rfl) (by kernel_rfl) rfl (by rw [k_impl_ClauseHas_1]; exact h)

/-- (impl.literal).holds -/
def F_impl_literal_holds (P : Program) (v0 v1 : Value) (w : World) (R : Value → World → Prop) : Prop :=
  vbi P .len [T_Lbool] T_int [v1] w fun t7 w_1 =>
  vcall P n_impl_literal_of #[v0, t7] w_1 fun t8 w_2 =>
  vif t8 (
    vcall P n_impl_literal_variable #[v0] w_2 fun t12 w_3 =>
    vbin P .sub T_int true t12 (.int .i64 1) w_3 fun t13 w_4 =>
    viaddr P T_Lbool v1 t13 w_4 fun t14 w_5 =>
    vload P T_bool t14 w_5 fun t15 w_6 =>
    vbin P .gtr T_impl_literal true v0 (.int .i64 0) w_6 fun t17 w_7 =>
    vbin P .eql T_bool false t15 t17 w_7 fun t18 w_8 =>
    R t18 w_8) (
    R (.bool false) w_2)
def A_impl_literal_holds : Ann := { ord := [], loops := [], cuts := [] }
theorem k_impl_literal_holds (v0 v1 : Value) (w : World) (R : Value → World → Prop) : vc PP A_impl_literal_holds ((Tryz.f93.body).getD .skip) (retF PP Tryz.f93.results.toList R) (nthV [v0, v1]) w = F_impl_literal_holds PP v0 v1 w R := by kernel_rfl
theorem c_impl_literal_holds {v0 v1 : Value} {w : World} {R : Value → World → Prop} (h : F_impl_literal_holds PP v0 v1 w R) : vcall PP n_impl_literal_holds #[v0, v1] w R :=
  call_of_vc (T := A_impl_literal_holds) (c := (Tryz.f93.body).getD .skip) (n := 20) mixed Tryz.func93 rfl rfl (by kernel_rfl) (by kernel_rfl) rfl (by rw [k_impl_literal_holds]; exact h)

/-- (*impl.trail).push -/
def F_impl_trail_push (P : Program) (v0 v1 v2 : Value) (w : World) (R : Value → World → Prop) : Prop :=
  vjoin (fun J =>
    vnil P v0 w fun t8 w_2 =>
    vfaddr P T_impl_trail t8 2 w_2 fun t9 w_3 =>
    vload P T_Lint t9 w_3 fun t10 w_4 =>
    vbi P .len [T_Lint] T_int [t10] w_4 fun t11 w_5 =>
    vbin P .gtr T_int true t11 (.int .i64 0) w_5 fun t12 w_6 =>
    vif t12 (
      vdraw w_6 fun w_7 =>
      vnil P v0 w_7 fun t14 w_8 => w_8 = w_7 ∧
      vfaddr P T_impl_trail t14 2 w_7 fun t15 w_9 => w_9 = w_7 ∧
      vload P T_Lint t15 w_7 fun t16 w_10 => w_10 = w_7 ∧
      vnil P v0 w_7 fun t18 w_11 => w_11 = w_7 ∧
      vfaddr P T_impl_trail t18 2 w_7 fun t19 w_12 => w_12 = w_7 ∧
      vload P T_Lint t19 w_7 fun t20 w_13 => w_13 = w_7 ∧
      vbi P .len [T_Lint] T_int [t20] w_7 fun t21 w_14 => w_14 = w_7 ∧
      vbin P .sub T_int true t21 (.int .i64 1) w_7 fun t22 w_15 => w_15 = w_7 ∧
      viaddr P T_Lint t16 t22 w_7 fun t23 w_16 => w_16 = w_7 ∧
      vload P T_int t23 w_7 fun t24 w_17 => w_17 = w_7 ∧
      J [t24] w_7) (
      J [(.int .i64 0)] w_6)) (fun u _ w_1 =>
    vjoin (fun J_1 =>
      vif v2 (
        vbin P .add T_int true (sl 0 u) (.int .i64 1) w_1 fun t27 w_19 =>
        J_1 [t27] w_19) (
        J_1 [(sl 0 u)] w_1)) (fun u_1 _ w_18 =>
      vnil P v0 w_18 fun t30 w_20 =>
      vfaddr P T_impl_trail t30 0 w_20 fun t31 w_21 =>
      vload P T_Lint t31 w_21 fun t32 w_22 =>
      vbuildS P T_Lint 1 [(0, v1)] w_22 fun t34 w_23 =>
      vbi P .append [T_Lint, T_Lint] T_Lint [t32, t34] w_23 fun t35 w_24 =>
      vnil P v0 w_24 fun t36 w_25 =>
      vfaddr P T_impl_trail t36 0 w_25 fun t37 w_26 =>
      vstore P T_Lint t37 t35 w_26 fun _ w_27 =>
      vnil P v0 w_27 fun t40 w_28 =>
      vfaddr P T_impl_trail t40 2 w_28 fun t41 w_29 =>
      vload P T_Lint t41 w_29 fun t42 w_30 =>
      vbuildS P T_Lint 1 [(0, (sl 0 u_1))] w_30 fun t44 w_31 =>
      vbi P .append [T_Lint, T_Lint] T_Lint [t42, t44] w_31 fun t45 w_32 =>
      vnil P v0 w_32 fun t46 w_33 =>
      vfaddr P T_impl_trail t46 2 w_33 fun t47 w_34 =>
      vstore P T_Lint t47 t45 w_34 fun _ w_35 =>
      vdraw w_35 fun w_36 =>
      vnil P v0 w_36 fun t49 w_37 => w_37 = w_36 ∧
      vfaddr P T_impl_trail t49 1 w_36 fun t50 w_38 => w_38 = w_36 ∧
      vload P T_Lint t50 w_36 fun t51 w_39 => w_39 = w_36 ∧
      vnil P v0 w_36 fun t55 w_40 => w_40 = w_36 ∧
      vfaddr P T_impl_trail t55 0 w_36 fun t56 w_41 => w_41 = w_36 ∧
      vload P T_Lint t56 w_36 fun t57 w_42 => w_42 = w_36 ∧
      vbi P .len [T_Lint] T_int [t57] w_36 fun t58 w_43 => w_43 = w_36 ∧
      vcall P n_impl_literal_variable #[v1] w_36 fun t53 w_44 => (vbi P .len [T_Lint] T_int [t57] w_44 fun v x => v = t58 ∧ x = w_44) ∧ (vload P T_Lint t56 w_44 fun v x => v = t57 ∧ x = w_44) ∧ (vfaddr P T_impl_trail t55 0 w_44 fun v x => v = t56 ∧ x = w_44) ∧ (vnil P v0 w_44 fun v x => v = t55 ∧ x = w_44) ∧ (vload P T_Lint t50 w_44 fun v x => v = t51 ∧ x = w_44) ∧ (vfaddr P T_impl_trail t49 1 w_44 fun v x => v = t50 ∧ x = w_44) ∧ (vnil P v0 w_44 fun v x => v = t49 ∧ x = w_44) ∧
      viaddr P T_Lint t51 t53 w_44 fun t59 w_45 => w_45 = w_44 ∧
      vstore P T_int t59 t58 w_44 fun _ w_46 =>
      R (.tuple #[]) w_46))
def A_impl_trail_push : Ann := { ord := [(2, [0, 1, 2, 3, 4, 5, 6, 7, 8, 9, 10, 11, 12], [(0, [1, 2, 3, 10, 11, 12]), (1, [2, 3, 10, 11, 12]), (2, [3, 10, 11, 12]), (3, [10, 11, 12]), (4, [5, 6, 7, 8, 9, 10, 11, 12]), (5, [6, 7, 8, 9, 10, 11, 12]), (6, [7, 8, 9, 10, 11, 12]), (7, [8, 9, 10, 11, 12]), (8, [9, 10, 11, 12]), (9, [10, 11, 12]), (10, [11, 12]), (11, [12])]), (7, [0, 1, 2, 3, 4, 6, 7, 8, 9, 10, 5, 11, 12], [(0, [1, 2, 3, 11, 12]), (1, [2, 3, 11, 12]), (2, [3, 11, 12]), (3, [11, 12]), (4, [5, 11, 12]), (6, [7, 8, 9, 10, 11, 12]), (7, [8, 9, 10, 11, 12]), (8, [9, 10, 11, 12]), (9, [10, 11, 12]), (10, [11, 12]), (5, [11, 12]), (11, [12])])], loops := [], cuts := [(8195, [6]), (16389, [6])] }
theorem k_impl_trail_push (v0 v1 v2 : Value) (w : World) (R : Value → World → Prop) : vc PP A_impl_trail_push ((Tryz.f94.body).getD .skip) (retF PP Tryz.f94.results.toList R) (nthV [v0, v1, v2]) w = F_impl_trail_push PP v0 v1 v2 w R := by kernel_rfl
theorem c_impl_trail_push {v0 v1 v2 : Value} {w : World} {R : Value → World → Prop} (h : F_impl_trail_push PP v0 v1 v2 w R) : vcall PP n_impl_trail_push #[v0, v1, v2] w R :=
  call_of_vc (T := A_impl_trail_push) (c := (Tryz.f94.body).getD .skip) (n := 60) mixed Tryz.func94 rfl rfl (by kernel_rfl) (by kernel_rfl) rfl (by rw [k_impl_trail_push]; exact h)

/-- slices.Contains[[]int,int] -/
def F_slices_Contains_Lint_int (P : Program) (v0 v1 : Value) (w : World) (R : Value → World → Prop) : Prop :=
  vcall P n_slices_Index_Lint_int #[v0, v1] w fun t7 w_1 =>
  vbin P .geq T_int true t7 (.int .i64 0) w_1 fun t8 w_2 =>
  R t8 w_2
def A_slices_Contains_Lint_int : Ann := { ord := [], loops := [], cuts := [] }
theorem k_slices_Contains_Lint_int (v0 v1 : Value) (w : World) (R : Value → World → Prop) : vc PP A_slices_Contains_Lint_int ((Tryz.f95.body).getD .skip) (retF PP Tryz.f95.results.toList R) (nthV [v0, v1]) w = F_slices_Contains_Lint_int PP v0 v1 w R := by kernel_rfl
theorem c_slices_Contains_Lint_int {v0 v1 : Value} {w : World} {R : Value → World → Prop} (h : F_slices_Contains_Lint_int PP v0 v1 w R) : vcall PP n_slices_Contains_Lint_int #[v0, v1] w R :=
  call_of_vc (T := A_slices_Contains_Lint_int) (c := (Tryz.f95.body).getD .skip) (n := 9) mixed Tryz.func95 rfl rfl (by kernel_rfl) (by kernel_rfl) rfl (by rw [k_slices_Contains_Lint_int]; exact h)

/-- (*impl.trail).implies$1 -/
def F_impl_trail_implies_1 (P : Program) (v0 v1 v2 : Value) (w : World) (R : Value → World → Prop) : Prop :=
  vdraw w fun w_1 =>
  vload P T_P_impl_trail v1 w_1 fun t6 w_2 => w_2 = w_1 ∧
  vnil P t6 w_1 fun t7 w_3 => w_3 = w_1 ∧
  vfaddr P T_impl_trail t7 0 w_1 fun t8 w_4 => w_4 = w_1 ∧
  vload P T_Lint t8 w_1 fun t9 w_5 => w_5 = w_1 ∧
  vload P T_int v2 w_1 fun t10 w_6 => w_6 = w_1 ∧
  viaddr P T_Lint t9 t10 w_1 fun t11 w_7 => w_7 = w_1 ∧
  vload P T_int t11 w_1 fun t12 w_8 => w_8 = w_1 ∧
  vbin P .neq T_int false v0 t12 w_1 fun t13 w_9 => w_9 = w_1 ∧
  vif t13 (
    vload P T_P_impl_trail v1 w_1 fun t15 w_10 => w_10 = w_1 ∧
    vcall P n_impl_trail_assigned #[t15, v0] w_1 fun t17 w_11 =>
    vun P .not t17 w_11 fun t18 w_12 => w_12 = w_11 ∧
    vif t18 (
      R (.bool true) w_11) (
      vload P T_P_impl_trail v1 w_11 fun t20 w_13 => w_13 = w_11 ∧
      vcall P n_impl_trail_isTrue #[t20, v0] w_11 fun t22 w_14 =>
      vif t22 (
        R (.bool true) w_14) (
        vload P T_P_impl_trail v1 w_14 fun t25 w_15 => w_15 = w_14 ∧
        vload P T_int v2 w_14 fun t28 w_16 => w_16 = w_14 ∧
        vcall P n_impl_trail_place #[t25, v0] w_14 fun t27 w_17 => (vload P T_int v2 w_17 fun v x => v = t28 ∧ x = w_17) ∧
        vbin P .geq T_int false t27 t28 w_17 fun t29 w_18 => w_18 = w_17 ∧
        R t29 w_17))) (
    R (.bool false) w_1)
def A_impl_trail_implies_1 : Ann := { ord := [(1, [0, 1, 2, 3, 4, 5, 6, 7, 8, 9, 10, 11, 12, 13, 14, 15, 16, 17, 18, 19, 20, 21, 23, 22, 24, 25, 26, 27], [(0, [8, 9, 10, 11, 12, 13, 14, 15, 16, 17, 18, 19, 20, 21, 23, 22, 24, 25, 26, 27]), (1, [2, 3, 4, 6, 7, 8, 9, 10, 11, 12, 13, 14, 15, 16, 17, 18, 19, 20, 21, 23, 22, 24, 25, 26, 27]), (2, [3, 4, 6, 7, 8, 9, 10, 11, 12, 13, 14, 15, 16, 17, 18, 19, 20, 21, 23, 22, 24, 25, 26, 27]), (3, [4, 6, 7, 8, 9, 10, 11, 12, 13, 14, 15, 16, 17, 18, 19, 20, 21, 23, 22, 24, 25, 26, 27]), (4, [6, 7, 8, 9, 10, 11, 12, 13, 14, 15, 16, 17, 18, 19, 20, 21, 23, 22, 24, 25, 26, 27]), (5, [6, 7, 8, 9, 10, 11, 12, 13, 14, 15, 16, 17, 18, 19, 20, 21, 23, 22, 24, 25, 26, 27]), (6, [7, 8, 9, 10, 11, 12, 13, 14, 15, 16, 17, 18, 19, 20, 21, 23, 22, 24, 25, 26, 27]), (7, [8, 9, 10, 11, 12, 13, 14, 15, 16, 17, 18, 19, 20, 21, 23, 22, 24, 25, 26, 27]), (8, [9, 10, 11, 12, 13, 14, 15, 16, 17, 18, 19, 20, 21, 23, 22, 24, 25, 26, 27]), (9, [10, 11, 12, 13, 14, 15, 16, 17, 18, 19, 20, 21, 23, 22, 24, 25, 26, 27]), (10, [12, 13, 14, 15, 16, 17, 18, 19, 20, 21, 23, 22, 24, 25, 26, 27]), (11, [12, 13, 14, 15, 16, 17, 18, 19, 20, 21, 23, 22, 24, 25, 26, 27]), (12, [13, 14, 15, 16, 17, 18, 19, 20, 21, 23, 22, 24, 25, 26, 27]), (13, [14, 15, 16, 17, 18, 19, 20, 21, 23, 22, 24, 25, 26, 27]), (14, [15, 16, 17, 18, 19, 20, 21, 23, 22, 24, 25, 26, 27]), (15, [17, 18, 19, 20, 21, 23, 22, 24, 25, 26, 27]), (16, [17, 18, 19, 20, 21, 23, 22, 24, 25, 26, 27]), (17, [18, 19, 20, 21, 23, 22, 24, 25, 26, 27]), (18, [19, 20, 21, 23, 22, 24, 25, 26, 27]), (19, [20, 21, 23, 22, 24, 25, 26, 27]), (20, [22, 24, 25, 26, 27]), (21, [22, 24, 25, 26, 27]), (23, [24, 25, 26, 27]), (22, [24, 25, 26, 27]), (24, [25, 26, 27]), (25, [26, 27]), (26, [27])])], loops := [], cuts := [] }
theorem k_impl_trail_implies_1 (v0 v1 v2 : Value) (w : World) (R : Value → World → Prop) : vc PP A_impl_trail_implies_1 ((Tryz.f96.body).getD .skip) (retF PP Tryz.f96.results.toList R) (nthV [v0, v1, v2]) w = F_impl_trail_implies_1 PP v0 v1 v2 w R := by kernel_rfl
theorem c_impl_trail_implies_1 {v0 v1 v2 : Value} {w : World} {R : Value → World → Prop} (h : F_impl_trail_implies_1 PP v0 v1 v2 w R) : vcall PP n_impl_trail_implies_1 #[v0, v1, v2] w R :=
  call_of_vc (T := A_impl_trail_implies_1) (c := (Tryz.f96.body).getD .skip) (n := 32) mixed Tryz.func96 rfl rfl (by kernel_rfl) (by kernel_rfl) rfl (by rw [k_impl_trail_implies_1]; exact h)

/-- (*impl.trail).isTrue -/
def F_impl_trail_isTrue (P : Program) (v0 v1 : Value) (w : World) (R : Value → World → Prop) : Prop :=
  vdraw w fun w_1 =>
  vcall P n_impl_trail_assigned #[v0, v1] w_1 fun t7 w_2 =>
  vif t7 (
    vnil P v0 w_2 fun t10 w_3 => w_3 = w_2 ∧
    vfaddr P T_impl_trail t10 0 w_2 fun t11 w_4 => w_4 = w_2 ∧
    vload P T_Lint t11 w_2 fun t12 w_5 => w_5 = w_2 ∧
    vnil P v0 w_2 fun t14 w_6 => w_6 = w_2 ∧
    vfaddr P T_impl_trail t14 1 w_2 fun t15 w_7 => w_7 = w_2 ∧
    vload P T_Lint t15 w_2 fun t16 w_8 => w_8 = w_2 ∧
    vcall P n_impl_literal_variable #[v1] w_2 fun t18 w_9 => (vload P T_Lint t15 w_9 fun v x => v = t16 ∧ x = w_9) ∧ (vfaddr P T_impl_trail t14 1 w_9 fun v x => v = t15 ∧ x = w_9) ∧ (vnil P v0 w_9 fun v x => v = t14 ∧ x = w_9) ∧ (vload P T_Lint t11 w_9 fun v x => v = t12 ∧ x = w_9) ∧ (vfaddr P T_impl_trail t10 0 w_9 fun v x => v = t11 ∧ x = w_9) ∧ (vnil P v0 w_9 fun v x => v = t10 ∧ x = w_9) ∧
    viaddr P T_Lint t16 t18 w_9 fun t19 w_10 => w_10 = w_9 ∧
    vload P T_int t19 w_9 fun t20 w_11 => w_11 = w_9 ∧
    vbin P .sub T_int true t20 (.int .i64 1) w_9 fun t21 w_12 => w_12 = w_9 ∧
    viaddr P T_Lint t12 t21 w_9 fun t22 w_13 => w_13 = w_9 ∧
    vload P T_int t22 w_9 fun t23 w_14 => w_14 = w_9 ∧
    vbin P .eql T_int false t23 v1 w_9 fun t25 w_15 => w_15 = w_9 ∧
    R t25 w_9) (
    R (.bool false) w_2)
def A_impl_trail_isTrue : Ann := { ord := [(1, [0, 1, 2, 3, 4, 5, 6, 7, 8, 9, 10, 11, 12, 19, 13, 14, 15, 16, 17, 18, 20, 21, 22], [(0, [2, 3, 4, 5, 6, 7, 8, 9, 10, 11, 12, 19, 13, 14, 15, 16, 17, 18, 20, 21, 22]), (1, [2, 3, 4, 5, 6, 7, 8, 9, 10, 11, 12, 19, 13, 14, 15, 16, 17, 18, 20, 21, 22]), (2, [3, 4, 5, 6, 7, 8, 9, 10, 11, 12, 19, 13, 14, 15, 16, 17, 18, 20, 21, 22]), (3, [4, 5, 6, 7, 8, 9, 10, 11, 12, 19, 13, 14, 15, 16, 17, 18, 20, 21, 22]), (4, [5, 6, 7, 17, 18, 20, 21, 22]), (5, [6, 7, 17, 18, 20, 21, 22]), (6, [7, 17, 18, 20, 21, 22]), (7, [17, 18, 20, 21, 22]), (8, [9, 10, 11, 14, 15, 16, 17, 18, 20, 21, 22]), (9, [10, 11, 14, 15, 16, 17, 18, 20, 21, 22]), (10, [11, 14, 15, 16, 17, 18, 20, 21, 22]), (11, [14, 15, 16, 17, 18, 20, 21, 22]), (12, [13, 14, 15, 16, 17, 18, 20, 21, 22]), (19, [20, 21, 22]), (13, [14, 15, 16, 17, 18, 20, 21, 22]), (14, [15, 16, 17, 18, 20, 21, 22]), (15, [16, 17, 18, 20, 21, 22]), (16, [17, 18, 20, 21, 22]), (17, [18, 20, 21, 22]), (18, [20, 21, 22]), (20, [21, 22]), (21, [22])])], loops := [], cuts := [] }
theorem k_impl_trail_isTrue (v0 v1 : Value) (w : World) (R : Value → World → Prop) : vc PP A_impl_trail_isTrue ((Tryz.f97.body).getD .skip) (retF PP Tryz.f97.results.toList R) (nthV [v0, v1]) w = F_impl_trail_isTrue PP v0 v1 w R := by kernel_rfl
theorem c_impl_trail_isTrue {v0 v1 : Value} {w : World} {R : Value → World → Prop} (h : F_impl_trail_isTrue PP v0 v1 w R) : vcall PP n_impl_trail_isTrue #[v0, v1] w R :=
  call_of_vc (T := A_impl_trail_isTrue) (c := (Tryz.f97.body).getD .skip) (n := 27) mixed Tryz.func97 rfl rfl (by kernel_rfl) (by kernel_rfl) rfl (by rw [k_impl_trail_isTrue]; exact h)

/-- (*impl.trail).place -/
def F_impl_trail_place (P : Program) (v0 v1 : Value) (w : World) (R : Value → World → Prop) : Prop :=
  vdraw w fun w_1 =>
  vnil P v0 w_1 fun t6 w_2 => w_2 = w_1 ∧
  vfaddr P T_impl_trail t6 1 w_1 fun t7 w_3 => w_3 = w_1 ∧
  vload P T_Lint t7 w_1 fun t8 w_4 => w_4 = w_1 ∧
  vcall P n_impl_literal_variable #[v1] w_1 fun t10 w_5 => (vload P T_Lint t7 w_5 fun v x => v = t8 ∧ x = w_5) ∧ (vfaddr P T_impl_trail t6 1 w_5 fun v x => v = t7 ∧ x = w_5) ∧ (vnil P v0 w_5 fun v x => v = t6 ∧ x = w_5) ∧
  viaddr P T_Lint t8 t10 w_5 fun t11 w_6 => w_6 = w_5 ∧
  vload P T_int t11 w_5 fun t12 w_7 => w_7 = w_5 ∧
  vbin P .sub T_int true t12 (.int .i64 1) w_5 fun t13 w_8 => w_8 = w_5 ∧
  R t13 w_5
def A_impl_trail_place : Ann := { ord := [(1, [0, 1, 2, 3, 4, 5, 6, 7, 8, 9], [(0, [1, 2, 3, 6, 7, 8, 9]), (1, [2, 3, 6, 7, 8, 9]), (2, [3, 6, 7, 8, 9]), (3, [6, 7, 8, 9]), (4, [5, 6, 7, 8, 9]), (5, [6, 7, 8, 9]), (6, [7, 8, 9]), (7, [8, 9]), (8, [9])])], loops := [], cuts := [] }
theorem k_impl_trail_place (v0 v1 : Value) (w : World) (R : Value → World → Prop) : vc PP A_impl_trail_place ((Tryz.f98.body).getD .skip) (retF PP Tryz.f98.results.toList R) (nthV [v0, v1]) w = F_impl_trail_place PP v0 v1 w R := by kernel_rfl
theorem c_impl_trail_place {v0 v1 : Value} {w : World} {R : Value → World → Prop} (h : F_impl_trail_place PP v0 v1 w R) : vcall PP n_impl_trail_place #[v0, v1] w R :=
  call_of_vc (T := A_impl_trail_place) (c := (Tryz.f98.body).getD .skip) (n := 14) mixed Tryz.func98 rfl rfl (by kernel_rfl) (by kernel_rfl) rfl (by rw [k_impl_trail_place]; exact h)

/-- (*impl.trail).look -/
def F_impl_trail_look (P : Program) (v0 v1 : Value) (w : World) (R : Value → World → Prop) : Prop :=
  vbi P .len [T_Lint] T_int [v1] w fun t10 w_1 =>
  vloop [(.int .i64 0), (.int .i64 0), (.int .i64 0)] w_1 fun C u _ w_2 =>
    vbin P .lss T_int false (sl 2 u) t10 w_2 fun t12 w_3 =>
    vif t12 (
      viaddr P T_Lint v1 (sl 2 u) w_3 fun t13 w_4 =>
      vload P T_int t13 w_4 fun t14 w_5 =>
      vcall P n_impl_trail_isTrue #[v0, t14] w_5 fun t18 w_6 =>
      vif t18 (
        R (.tuple #[(.bool true), (.int .i64 0), (.int .i64 0)]) w_6) (
        vcall P n_impl_trail_assigned #[v0, t14] w_6 fun t22 w_7 =>
        vun P .not t22 w_7 fun t23 w_8 =>
        vif t23 (
          vbin P .add T_int true (sl 0 u) (.int .i64 1) w_8 fun t25 w_9 =>
          vbin P .add T_int true (sl 2 u) (.int .i64 1) w_9 fun t27 w_10 =>
          C [t25, t14, t27] w_10) (
          vbin P .add T_int true (sl 2 u) (.int .i64 1) w_8 fun t27_1 w_11 =>
          C [(sl 0 u), (sl 1 u), t27_1] w_11))) (
      R (.tuple #[(.bool false), (sl 0 u), (sl 1 u)]) w_3)
def A_impl_trail_look : Ann := { ord := [], loops := [(2, [5, 6, 11])], cuts := [] }
theorem k_impl_trail_look (v0 v1 : Value) (w : World) (R : Value → World → Prop) : vc PP A_impl_trail_look ((Tryz.f99.body).getD .skip) (retF PP Tryz.f99.results.toList R) (nthV [v0, v1]) w = F_impl_trail_look PP v0 v1 w R := by kernel_rfl
theorem c_impl_trail_look {v0 v1 : Value} {w : World} {R : Value → World → Prop} (h : F_impl_trail_look PP v0 v1 w R) : vcall PP n_impl_trail_look #[v0, v1] w R :=
  call_of_vc (T := A_impl_trail_look) (c := (Tryz.f99.body).getD .skip) (n := 30) mixed Tryz.func99 rfl rfl (by kernel_rfl) (by kernel_rfl) rfl (by rw [k_impl_trail_look]; exact h)

/-- (*impl.search).resolve$1 -/
def F_impl_search_resolve_1 (P : Program) (v0 v1 : Value) (w : World) (R : Value → World → Prop) : Prop :=
  vload P T_P_impl_search v1 w fun t4 w_1 =>
  vnil P t4 w_1 fun t5 w_2 =>
  vfaddr P T_impl_search t5 1 w_2 fun t6 w_3 =>
  vload P T_P_impl_trail t6 w_3 fun t7 w_4 =>
  vcall P n_impl_trail_level #[t7, v0] w_4 fun t9 w_5 =>
  vbin P .gtr T_int true t9 (.int .i64 0) w_5 fun t10 w_6 =>
  R t10 w_6
def A_impl_search_resolve_1 : Ann := { ord := [], loops := [], cuts := [] }
theorem k_impl_search_resolve_1 (v0 v1 : Value) (w : World) (R : Value → World → Prop) : vc PP A_impl_search_resolve_1 ((Tryz.f100.body).getD .skip) (retF PP Tryz.f100.results.toList R) (nthV [v0, v1]) w = F_impl_search_resolve_1 PP v0 v1 w R := by kernel_rfl
theorem c_impl_search_resolve_1 {v0 v1 : Value} {w : World} {R : Value → World → Prop} (h : F_impl_search_resolve_1 PP v0 v1 w R) : vcall PP n_impl_search_resolve_1 #[v0, v1] w R :=
  call_of_vc (T := A_impl_search_resolve_1) (c := (Tryz.f100.body).getD .skip) (n := 11) mixed Tryz.func100 rfl rfl (by kernel_rfl) (by kernel_rfl) rfl (by rw [k_impl_search_resolve_1]; exact h)

/-- (*impl.trail).level -/
def F_impl_trail_level (P : Program) (v0 v1 : Value) (w : World) (R : Value → World → Prop) : Prop :=
  vdraw w fun w_1 =>
  vnil P v0 w_1 fun t6 w_2 => w_2 = w_1 ∧
  vfaddr P T_impl_trail t6 2 w_1 fun t7 w_3 => w_3 = w_1 ∧
  vload P T_Lint t7 w_1 fun t8 w_4 => w_4 = w_1 ∧
  vcall P n_impl_trail_place #[v0, v1] w_1 fun t11 w_5 => (vload P T_Lint t7 w_5 fun v x => v = t8 ∧ x = w_5) ∧ (vfaddr P T_impl_trail t6 2 w_5 fun v x => v = t7 ∧ x = w_5) ∧ (vnil P v0 w_5 fun v x => v = t6 ∧ x = w_5) ∧
  viaddr P T_Lint t8 t11 w_5 fun t12 w_6 => w_6 = w_5 ∧
  vload P T_int t12 w_5 fun t13 w_7 => w_7 = w_5 ∧
  R t13 w_5
def A_impl_trail_level : Ann := { ord := [(1, [0, 1, 2, 3, 4, 5, 6, 7, 8, 9], [(0, [1, 2, 3, 7, 8, 9]), (1, [2, 3, 7, 8, 9]), (2, [3, 7, 8, 9]), (3, [7, 8, 9]), (4, [6, 7, 8, 9]), (5, [6, 7, 8, 9]), (6, [7, 8, 9]), (7, [8, 9]), (8, [9])])], loops := [], cuts := [] }
theorem k_impl_trail_level (v0 v1 : Value) (w : World) (R : Value → World → Prop) : vc PP A_impl_trail_level ((Tryz.f101.body).getD .skip) (retF PP Tryz.f101.results.toList R) (nthV [v0, v1]) w = F_impl_trail_level PP v0 v1 w R := by kernel_rfl
theorem c_impl_trail_level {v0 v1 : Value} {w : World} {R : Value → World → Prop} (h : F_impl_trail_level PP v0 v1 w R) : vcall PP n_impl_trail_level #[v0, v1] w R :=
  call_of_vc (T := A_impl_trail_level) (c := (Tryz.f101.body).getD .skip) (n := 14) mixed Tryz.func101 rfl rfl (by kernel_rfl) (by kernel_rfl) rfl (by rw [k_impl_trail_level]; exact h)

/-- (*impl.search).learn -/
def F_impl_search_learn (P : Program) (v0 v1 : Value) (w : World) (R : Value → World → Prop) : Prop :=
  vbox P T_P_impl_search v0 w fun t2 w_1 =>
  vmkM P T_impl_clauseBits none w_1 fun t17 w_2 =>
  vbi P .len [T_Lint] T_int [v1] w_2 fun t19 w_3 =>
  vloop [(.int .i64 0)] w_3 fun C u _ w_4 =>
    vbin P .lss T_int false (sl 0 u) t19 w_4 fun t21 w_5 =>
    vif t21 (
      viaddr P T_Lint v1 (sl 0 u) w_5 fun t22 w_6 =>
      vload P T_int t22 w_6 fun t23 w_7 =>
      vmset P T_impl_clauseBits t17 t23 (.bool true) w_7 fun _ w_8 =>
      vbin P .add T_int true (sl 0 u) (.int .i64 1) w_8 fun t26 w_9 =>
      C [t26] w_9) (
      vload P T_P_impl_search t2 w_5 fun t28 w_10 =>
      vnil P t28 w_10 fun t29 w_11 =>
      vfaddr P T_impl_search t29 1 w_11 fun t30 w_12 =>
      vload P T_P_impl_trail t30 w_12 fun t31 w_13 =>
      vcall P n_impl_trail_greatest #[t31, t17] w_13 fun t33 w_14 =>
      vextract P t33 0 w_14 fun _ w_15 =>
      vextract P t33 1 w_15 fun t35 w_16 =>
      vloop [t35] w_16 fun C_1 u_1 _ w_17 =>
        vbi P .len [T_Lint] T_int [(sl 0 u_1)] w_17 fun t37 w_18 =>
        vbin P .gtr T_int true t37 (.int .i64 1) w_18 fun t38 w_19 =>
        vif t38 (
          vmkF P (.func n_impl_search_learn_1) [] [t2] w_19 fun t40 w_20 =>
          vcall P n_slices_MaxFunc_Lint_int #[(sl 0 u_1), t40] w_20 fun t41 w_21 =>
          vbi P .delete [T_impl_clauseBits, T_int] T_T_ [t17, t41] w_21 fun _ w_22 =>
          vdraw w_22 fun w_23 =>
          vload P T_P_impl_search t2 w_23 fun t44 w_24 => w_24 = w_23 ∧
          vload P T_P_impl_search t2 w_23 fun t45 w_25 => w_25 = w_23 ∧
          vnil P t45 w_23 fun t46 w_26 => w_26 = w_23 ∧
          vfaddr P T_impl_search t46 2 w_23 fun t47 w_27 => w_27 = w_23 ∧
          vload P T_Lint t47 w_23 fun t48 w_28 => w_28 = w_23 ∧
          vload P T_P_impl_search t2 w_23 fun t49 w_29 => w_29 = w_23 ∧
          vnil P t49 w_23 fun t50 w_30 => w_30 = w_23 ∧
          vfaddr P T_impl_search t50 1 w_23 fun t51 w_31 => w_31 = w_23 ∧
          vload P T_P_impl_trail t51 w_23 fun t52 w_32 => w_32 = w_23 ∧
          vcall P n_impl_trail_place #[t52, t41] w_23 fun t54 w_33 => (vload P T_Lint t47 w_33 fun v x => v = t48 ∧ x = w_33) ∧ (vfaddr P T_impl_search t46 2 w_33 fun v x => v = t47 ∧ x = w_33) ∧ (vnil P t45 w_33 fun v x => v = t46 ∧ x = w_33) ∧ (vload P T_P_impl_search t2 w_33 fun v x => v = t45 ∧ x = w_33) ∧ (vload P T_P_impl_search t2 w_33 fun v x => v = t44 ∧ x = w_33) ∧
          viaddr P T_Lint t48 t54 w_33 fun t55 w_34 => w_34 = w_33 ∧
          vload P T_int t55 w_33 fun t56 w_35 => w_35 = w_33 ∧
          vcall P n_impl_search_clause #[t44, t56] w_33 fun t57 w_36 =>
          vbi P .len [T_Lint] T_int [t57] w_36 fun t58 w_37 => w_37 = w_36 ∧
          vloop [(.int .i64 0)] w_36 fun C_2 u_2 _ w_38 =>
            vbin P .lss T_int false (sl 0 u_2) t58 w_38 fun t60 w_39 =>
            vif t60 (
              viaddr P T_Lint t57 (sl 0 u_2) w_39 fun t61 w_40 =>
              vload P T_int t61 w_40 fun t62 w_41 =>
              vun P .neg t41 w_41 fun t65 w_42 =>
              vbin P .neq T_int false t62 t65 w_42 fun t66 w_43 =>
              vif t66 (
                vmset P T_impl_clauseBits t17 t62 (.bool true) w_43 fun _ w_44 =>
                vbin P .add T_int true (sl 0 u_2) (.int .i64 1) w_44 fun t69 w_45 =>
                C_2 [t69] w_45) (
                vbin P .add T_int true (sl 0 u_2) (.int .i64 1) w_43 fun t69_1 w_46 =>
                C_2 [t69_1] w_46)) (
              vload P T_P_impl_search t2 w_39 fun t71 w_47 =>
              vnil P t71 w_47 fun t72 w_48 =>
              vfaddr P T_impl_search t72 1 w_48 fun t73 w_49 =>
              vload P T_P_impl_trail t73 w_49 fun t74 w_50 =>
              vcall P n_impl_trail_greatest #[t74, t17] w_50 fun t76 w_51 =>
              vextract P t76 0 w_51 fun _ w_52 =>
              vextract P t76 1 w_52 fun t78 w_53 =>
              C_1 [t78] w_53)) (
          vrange P T_impl_clauseBits t17 w_19 fun t80 w_54 =>
          vloop [(.int .i64 0), (.slice none 0 0)] w_54 fun C_3 u_3 _ w_55 =>
            vnext P t80 false T_T_ w_55 fun t81 w_56 =>
            vextract P t81 0 w_56 fun t82 w_57 =>
            vif t82 (
              ventry P t80 w_57 fun t83 w_58 =>
              vextract P t83 0 w_58 fun t84 w_59 =>
              vbuildS P T_Lint 1 [(0, t84)] w_59 fun t87 w_60 =>
              vbi P .append [T_Lint, T_Lint] T_Lint [(sl 1 u_3), t87] w_60 fun t88 w_61 =>
              vjoin (fun J =>
                vbi P .len [T_Lint] T_int [(sl 0 u_1)] w_61 fun t90 w_63 =>
                vbin P .eql T_int true t90 (.int .i64 1) w_63 fun t91 w_64 =>
                vif t91 (
                  viaddr P T_Lint (sl 0 u_1) (.int .i64 0) w_64 fun t95 w_65 =>
                  vload P T_int t95 w_65 fun t96 w_66 =>
                  vbin P .neq T_int false t84 t96 w_66 fun t97 w_67 =>
                  J [t97] w_67) (
                  J [(.bool false)] w_64)) (fun u_4 _ w_62 =>
                vif (sl 0 u_4) (
                  vload P T_P_impl_search t2 w_62 fun t100 w_68 =>
                  vnil P t100 w_68 fun t101 w_69 =>
                  vfaddr P T_impl_search t101 1 w_69 fun t102 w_70 =>
                  vload P T_P_impl_trail t102 w_70 fun t103 w_71 =>
                  vcall P n_impl_trail_level #[t103, t84] w_71 fun t105 w_72 =>
                  vbi P .max [T_int, T_int] T_int [(sl 0 u_3), t105] w_72 fun t106 w_73 =>
                  C_3 [t106, t88] w_73) (
                  C_3 [(sl 0 u_3), t88] w_62))) (
              vcall P n_slices_SortFunc_Lint_int #[(sl 1 u_3), (.func (.func n_impl_search_learn_2) #[] #[])] w_57 fun _ w_74 =>
              R (.tuple #[(sl 1 u_3), (sl 0 u_3)]) w_74)))
def A_impl_search_learn : Ann := { ord := [(11, [0, 1, 2, 3, 4, 5, 6, 7, 8, 9, 15, 10, 11, 12, 13, 14], [(0, [13, 14]), (1, [2, 3, 4, 11, 12, 13, 14]), (2, [3, 4, 11, 12, 13, 14]), (3, [4, 11, 12, 13, 14]), (4, [11, 12, 13, 14]), (5, [6, 7, 8, 10, 11, 12, 13, 14]), (6, [7, 8, 10, 11, 12, 13, 14]), (7, [8, 10, 11, 12, 13, 14]), (8, [10, 11, 12, 13, 14]), (9, [10, 11, 12, 13, 14]), (10, [11, 12, 13, 14]), (11, [12, 13, 14]), (12, [13, 14]), (13, [14])])], loops := [(3, [20]), (8, [10]), (12, [59]), (21, [14, 15])], cuts := [(102425, [98])] }
theorem k_impl_search_learn (v0 v1 : Value) (w : World) (R : Value → World → Prop) : vc PP A_impl_search_learn ((Tryz.f102.body).getD .skip) (retF PP Tryz.f102.results.toList R) (nthV [v0, v1]) w = F_impl_search_learn PP v0 v1 w R := by kernel_rfl
theorem c_impl_search_learn {v0 v1 : Value} {w : World} {R : Value → World → Prop} (h : F_impl_search_learn PP v0 v1 w R) : vcall PP n_impl_search_learn #[v0, v1] w R :=
  call_of_vc (T := A_impl_search_learn) (c := (Tryz.f102.body).getD .skip) (n := 111) mixed Tryz.func102 rfl rfl (by kernel_rfl) (by kernel_rfl) rfl (by rw [k_impl_search_learn]; exact h)

/-- (*impl.search).goBack -/
def F_impl_search_goBack (P : Program) (v0 v1 : Value) (w : World) (R : Value → World → Prop) : Prop :=
  vnil P v0 w fun t7 w_1 =>
  vfaddr P T_impl_search t7 1 w_1 fun t8 w_2 =>
  vload P T_P_impl_trail t8 w_2 fun t9 w_3 =>
  vloop [] w_3 fun C _ _ w_4 =>
    vjoin (fun J =>
      vdraw w_4 fun w_6 =>
      vnil P t9 w_6 fun t11 w_7 => w_7 = w_6 ∧
      vfaddr P T_impl_trail t11 0 w_6 fun t12 w_8 => w_8 = w_6 ∧
      vload P T_Lint t12 w_6 fun t13 w_9 => w_9 = w_6 ∧
      vbi P .len [T_Lint] T_int [t13] w_6 fun t14 w_10 => w_10 = w_6 ∧
      vbin P .gtr T_int true t14 (.int .i64 0) w_6 fun t15 w_11 => w_11 = w_6 ∧
      vif t15 (
        vnil P t9 w_6 fun t18 w_12 => w_12 = w_6 ∧
        vfaddr P T_impl_trail t18 2 w_6 fun t19 w_13 => w_13 = w_6 ∧
        vload P T_Lint t19 w_6 fun t20 w_14 => w_14 = w_6 ∧
        vnil P t9 w_6 fun t22 w_15 => w_15 = w_6 ∧
        vfaddr P T_impl_trail t22 0 w_6 fun t23 w_16 => w_16 = w_6 ∧
        vload P T_Lint t23 w_6 fun t24 w_17 => w_17 = w_6 ∧
        vbi P .len [T_Lint] T_int [t24] w_6 fun t25 w_18 => w_18 = w_6 ∧
        vbin P .sub T_int true t25 (.int .i64 1) w_6 fun t26 w_19 => w_19 = w_6 ∧
        viaddr P T_Lint t20 t26 w_6 fun t27 w_20 => w_20 = w_6 ∧
        vload P T_int t27 w_6 fun t28 w_21 => w_21 = w_6 ∧
        vbin P .gtr T_int false t28 v1 w_6 fun t30 w_22 => w_22 = w_6 ∧
        vif t30 (
          J [] w_6) (
          R (.tuple #[]) w_6)) (
        R (.tuple #[]) w_6)) (fun _ _ w_5 =>
      vnil P t9 w_5 fun t33 w_23 =>
      vfaddr P T_impl_trail t33 0 w_23 fun t34 w_24 =>
      vload P T_Lint t34 w_24 fun t35 w_25 =>
      vbi P .len [T_Lint] T_int [t35] w_25 fun t36 w_26 =>
      vbin P .sub T_int true t36 (.int .i64 1) w_26 fun t37 w_27 =>
      vdraw w_27 fun w_28 =>
      vnil P t9 w_28 fun t39 w_29 => w_29 = w_28 ∧
      vfaddr P T_impl_trail t39 1 w_28 fun t40 w_30 => w_30 = w_28 ∧
      vload P T_Lint t40 w_28 fun t41 w_31 => w_31 = w_28 ∧
      vnil P t9 w_28 fun t43 w_32 => w_32 = w_28 ∧
      vfaddr P T_impl_trail t43 0 w_28 fun t44 w_33 => w_33 = w_28 ∧
      vload P T_Lint t44 w_28 fun t45 w_34 => w_34 = w_28 ∧
      viaddr P T_Lint t45 t37 w_28 fun t47 w_35 => w_35 = w_28 ∧
      vload P T_int t47 w_28 fun t48 w_36 => w_36 = w_28 ∧
      vcall P n_impl_literal_variable #[t48] w_28 fun t49 w_37 => (vload P T_Lint t40 w_37 fun v x => v = t41 ∧ x = w_37) ∧ (vfaddr P T_impl_trail t39 1 w_37 fun v x => v = t40 ∧ x = w_37) ∧ (vnil P t9 w_37 fun v x => v = t39 ∧ x = w_37) ∧
      viaddr P T_Lint t41 t49 w_37 fun t50 w_38 => w_38 = w_37 ∧
      vstore P T_int t50 (.int .i64 0) w_37 fun _ w_39 =>
      vdraw w_39 fun w_40 =>
      vnil P t9 w_40 fun t55 w_41 => w_41 = w_40 ∧
      vfaddr P T_impl_trail t55 0 w_40 fun t56 w_42 => w_42 = w_40 ∧
      vload P T_Lint t56 w_40 fun t57 w_43 => w_43 = w_40 ∧
      vslice P T_Lint t57 none (some t37) none w_40 fun t59 w_44 => w_44 = w_40 ∧
      vnil P t9 w_40 fun t61 w_45 => w_45 = w_40 ∧
      vfaddr P T_impl_trail t61 2 w_40 fun t62 w_46 => w_46 = w_40 ∧
      vload P T_Lint t62 w_40 fun t63 w_47 => w_47 = w_40 ∧
      vslice P T_Lint t63 none (some t37) none w_40 fun t65 w_48 => w_48 = w_40 ∧
      vnil P v0 w_40 fun t67 w_49 => w_49 = w_40 ∧
      vfaddr P T_impl_search t67 2 w_40 fun t68 w_50 => w_50 = w_40 ∧
      vload P T_Lint t68 w_40 fun t69 w_51 => w_51 = w_40 ∧
      vslice P T_Lint t69 none (some t37) none w_40 fun t71 w_52 => w_52 = w_40 ∧
      vnil P t9 w_40 fun t72 w_53 => w_53 = w_40 ∧
      vfaddr P T_impl_trail t72 0 w_40 fun t73 w_54 => w_54 = w_40 ∧
      vstore P T_Lint t73 t59 w_40 fun _ w_55 => (vslice P T_Lint t69 none (some t37) none w_55 fun v x => v = t71 ∧ x = w_55) ∧ (vslice P T_Lint t63 none (some t37) none w_55 fun v x => v = t65 ∧ x = w_55) ∧
      vnil P t9 w_55 fun t74 w_56 => w_56 = w_55 ∧
      vfaddr P T_impl_trail t74 2 w_55 fun t75 w_57 => w_57 = w_55 ∧
      vstore P T_Lint t75 t65 w_55 fun _ w_58 => (vslice P T_Lint t69 none (some t37) none w_58 fun v x => v = t71 ∧ x = w_58) ∧
      vnil P v0 w_58 fun t76 w_59 => w_59 = w_58 ∧
      vfaddr P T_impl_search t76 2 w_58 fun t77 w_60 => w_60 = w_58 ∧
      vstore P T_Lint t77 t71 w_58 fun _ w_61 =>
      C [] w_61)
def A_impl_search_goBack : Ann := { ord := [(1, [0, 1, 2, 3, 4, 5, 6, 7, 8, 9, 10, 11, 12, 13, 14, 15, 16, 17, 18, 19, 20, 21], [(0, [1, 2, 3, 4, 5, 6, 7, 8, 9, 10, 11, 12, 13, 14, 15, 16, 17, 18, 19, 20, 21]), (1, [2, 3, 4, 5, 6, 7, 8, 9, 10, 11, 12, 13, 14, 15, 16, 17, 18, 19, 20, 21]), (2, [3, 4, 5, 6, 7, 8, 9, 10, 11, 12, 13, 14, 15, 16, 17, 18, 19, 20, 21]), (3, [4, 5, 6, 7, 8, 9, 10, 11, 12, 13, 14, 15, 16, 17, 18, 19, 20, 21]), (4, [5, 6, 7, 8, 9, 10, 11, 12, 13, 14, 15, 16, 17, 18, 19, 20, 21]), (5, [6, 7, 8, 9, 10, 11, 12, 13, 14, 15, 16, 17, 18, 19, 20, 21]), (6, [7, 8, 9, 10, 11, 12, 13, 14, 15, 16, 17, 18, 19, 20, 21]), (7, [8, 9, 10, 17, 18, 20, 21]), (8, [9, 10, 17, 18, 20, 21]), (9, [10, 17, 18, 20, 21]), (10, [17, 18, 20, 21]), (11, [12, 13, 14, 15, 16, 17, 18, 20, 21]), (12, [13, 14, 15, 16, 17, 18, 20, 21]), (13, [14, 15, 16, 17, 18, 20, 21]), (14, [15, 16, 17, 18, 20, 21]), (15, [16, 17, 18, 20, 21]), (16, [17, 18, 20, 21]), (17, [18, 20, 21]), (18, [20, 21]), (19, [20, 21]), (20, [21])]), (3, [0, 1, 2, 3, 4, 5, 6, 7, 8, 9, 10, 11, 12, 13], [(0, [1, 2, 3, 12, 13]), (1, [2, 3, 12, 13]), (2, [3, 12, 13]), (3, [12, 13]), (4, [5, 6, 7, 9, 10, 11, 12, 13]), (5, [6, 7, 9, 10, 11, 12, 13]), (6, [7, 9, 10, 11, 12, 13]), (7, [9, 10, 11, 12, 13]), (8, [9, 10, 11, 12, 13]), (9, [10, 11, 12, 13]), (10, [11, 12, 13]), (11, [12, 13]), (12, [13])]), (4, [0, 1, 2, 3, 4, 5, 6, 7, 8, 9, 10, 11, 12, 13, 14, 15, 16, 17, 18, 19, 20, 21, 22, 23, 24, 25, 26, 27, 28, 29], [(0, [21, 22, 23, 24, 25, 26, 27, 28, 29]), (1, [24, 25, 26, 27, 28, 29]), (2, [27, 28, 29]), (3, [4, 5, 6, 8, 21, 22, 23, 24, 25, 26, 27, 28, 29]), (4, [5, 6, 8, 21, 22, 23, 24, 25, 26, 27, 28, 29]), (5, [6, 8, 21, 22, 23, 24, 25, 26, 27, 28, 29]), (6, [8, 21, 22, 23, 24, 25, 26, 27, 28, 29]), (7, [8, 21, 22, 23, 24, 25, 26, 27, 28, 29]), (8, [21, 22, 23, 24, 25, 26, 27, 28, 29]), (9, [10, 11, 12, 14, 21, 22, 23, 24, 25, 26, 27, 28, 29]), (10, [11, 12, 14, 21, 22, 23, 24, 25, 26, 27, 28, 29]), (11, [12, 14, 21, 22, 23, 24, 25, 26, 27, 28, 29]), (12, [14, 21, 22, 23, 24, 25, 26, 27, 28, 29]), (13, [14, 24, 25, 26, 27, 28, 29]), (14, [24, 25, 26, 27, 28, 29]), (15, [16, 17, 18, 20, 21, 22, 23, 24, 25, 26, 27, 28, 29]), (16, [17, 18, 20, 21, 22, 23, 24, 25, 26, 27, 28, 29]), (17, [18, 20, 21, 22, 23, 24, 25, 26, 27, 28, 29]), (18, [20, 21, 22, 23, 24, 25, 26, 27, 28, 29]), (19, [20, 27, 28, 29]), (20, [27, 28, 29]), (21, [22, 23, 24, 25, 26, 27, 28, 29]), (22, [23, 24, 25, 26, 27, 28, 29]), (23, [24, 25, 26, 27, 28, 29]), (24, [25, 26, 27, 28, 29]), (25, [26, 27, 28, 29]), (26, [27, 28, 29]), (27, [28, 29]), (28, [29])])], loops := [(1, [])], cuts := [(8194, [])] }
theorem k_impl_search_goBack (v0 v1 : Value) (w : World) (R : Value → World → Prop) : vc PP A_impl_search_goBack ((Tryz.f103.body).getD .skip) (retF PP Tryz.f103.results.toList R) (nthV [v0, v1]) w = F_impl_search_goBack PP v0 v1 w R := by kernel_rfl
theorem c_impl_search_goBack {v0 v1 : Value} {w : World} {R : Value → World → Prop} (h : F_impl_search_goBack PP v0 v1 w R) : vcall PP n_impl_search_goBack #[v0, v1] w R :=
  call_of_vc (T := A_impl_search_goBack) (c := (Tryz.f103.body).getD .skip) (n := 78) mixed Tryz.func103 rfl rfl (by kernel_rfl) (by kernel_rfl) rfl (by rw [k_impl_search_goBack]; exact h)

/-- spec.l5Look -/
def F_spec_l5Look (P : Program) (v0 v1 : Value) (w : World) (R : Value → World → Prop) : Prop :=
  vloop [(.int .i64 0), (.int .i64 0), (.int .i64 0)] w fun C u _ w_1 =>
    vbi P .len [T_Lint] T_int [v1] w_1 fun t12 w_2 =>
    vbin P .lss T_int false (sl 2 u) t12 w_2 fun t13 w_3 =>
    vif t13 (
      viaddr P T_Lint v1 (sl 2 u) w_3 fun t19 w_4 =>
      vload P T_int t19 w_4 fun t20 w_5 =>
      vcall P n_spec_l5Sign #[v0, t20] w_5 fun t21 w_6 =>
      vbin P .gtr T_int true t21 (.int .i64 0) w_6 fun t23 w_7 =>
      vif t23 (
        R (.tuple #[(.int .i64 (-1)), (.int .i64 0)]) w_7) (
        vbin P .eql T_int true t21 (.int .i64 0) w_7 fun t25 w_8 =>
        vif t25 (
          vbin P .add T_int true (sl 0 u) (.int .i64 1) w_8 fun t27 w_9 =>
          viaddr P T_Lint v1 (sl 2 u) w_9 fun t30 w_10 =>
          vload P T_int t30 w_10 fun t31 w_11 =>
          vbin P .add T_int true (sl 2 u) (.int .i64 1) w_11 fun t15 w_12 =>
          C [t27, t31, t15] w_12) (
          vbin P .add T_int true (sl 2 u) (.int .i64 1) w_8 fun t15_1 w_13 =>
          C [(sl 0 u), (sl 1 u), t15_1] w_13))) (
      R (.tuple #[(sl 0 u), (sl 1 u)]) w_3)
def A_spec_l5Look : Ann := { ord := [], loops := [(4, [6, 7, 8])], cuts := [] }
theorem k_spec_l5Look (v0 v1 : Value) (w : World) (R : Value → World → Prop) : vc PP A_spec_l5Look ((Tryz.f104.body).getD .skip) (retF PP Tryz.f104.results.toList R) (nthV [v0, v1]) w = F_spec_l5Look PP v0 v1 w R := by kernel_rfl
theorem c_spec_l5Look {v0 v1 : Value} {w : World} {R : Value → World → Prop} (h : F_spec_l5Look PP v0 v1 w R) : vcall PP n_spec_l5Look #[v0, v1] w R :=
  call_of_vc (T := A_spec_l5Look) (c := (Tryz.f104.body).getD .skip) (n := 34) mixed Tryz.func104 rfl rfl (by kernel_rfl) (by kernel_rfl) rfl (by rw [k_spec_l5Look]; exact h)

/-- spec.l5Levels -/
def F_spec_l5Levels (P : Program) (v0 v1 : Value) (w : World) (R : Value → World → Prop) : Prop :=
  vbox P T_impl_Cnf v0 w fun t2 w_1 =>
  vbox P T_impl_Sat v1 w_1 fun t3 w_2 =>
  vfaddr P T_impl_Cnf t2 0 w_2 fun t8 w_3 =>
  vload P T_int t8 w_3 fun t9 w_4 =>
  vbin P .add T_int true t9 (.int .i64 1) w_4 fun t10 w_5 =>
  vmkS P T_Lint t10 t10 w_5 fun t11 w_6 =>
  vloop [(.int .i64 0), (.int .i64 0)] w_6 fun C u _ w_7 =>
    vfaddr P T_impl_Sat t3 0 w_7 fun t13 w_8 =>
    vload P T_Lint t13 w_8 fun t14 w_9 =>
    vbi P .len [T_Lint] T_int [t14] w_9 fun t15 w_10 =>
    vbin P .lss T_int false (sl 1 u) t15 w_10 fun t16 w_11 =>
    vif t16 (
      vjoin (fun J =>
        vfaddr P T_impl_Sat t3 1 w_11 fun t19 w_13 =>
        vload P T_Lint t19 w_13 fun t20 w_14 =>
        viaddr P T_Lint t20 (sl 1 u) w_14 fun t22 w_15 =>
        vload P T_int t22 w_15 fun t23 w_16 =>
        vbin P .lss T_int true t23 (.int .i64 0) w_16 fun t24 w_17 =>
        vif t24 (
          vbin P .add T_int true (sl 0 u) (.int .i64 1) w_17 fun t26 w_18 =>
          J [t26] w_18) (
          J [(sl 0 u)] w_17)) (fun u_1 _ w_12 =>
        vfaddr P T_impl_Sat t3 0 w_12 fun t28 w_19 =>
        vload P T_Lint t28 w_19 fun t29 w_20 =>
        viaddr P T_Lint t29 (sl 1 u) w_20 fun t31 w_21 =>
        vload P T_int t31 w_21 fun t32 w_22 =>
        vcall P n_spec_l4Abs #[t32] w_22 fun t33 w_23 =>
        viaddr P T_Lint t11 t33 w_23 fun t35 w_24 =>
        vstore P T_int t35 (sl 0 u_1) w_24 fun _ w_25 =>
        vbin P .add T_int true (sl 1 u) (.int .i64 1) w_25 fun t18 w_26 =>
        C [(sl 0 u_1), t18] w_26)) (
      R t11 w_11)
def A_spec_l5Levels : Ann := { ord := [], loops := [(4, [6, 7])], cuts := [(28680, [6])] }
theorem k_spec_l5Levels (v0 v1 : Value) (w : World) (R : Value → World → Prop) : vc PP A_spec_l5Levels ((Tryz.f105.body).getD .skip) (retF PP Tryz.f105.results.toList R) (nthV [v0, v1]) w = F_spec_l5Levels PP v0 v1 w R := by kernel_rfl
theorem c_spec_l5Levels {v0 v1 : Value} {w : World} {R : Value → World → Prop} (h : F_spec_l5Levels PP v0 v1 w R) : vcall PP n_spec_l5Levels #[v0, v1] w R :=
  call_of_vc (T := A_spec_l5Levels) (c := (Tryz.f105.body).getD .skip) (n := 37) mixed Tryz.func105 rfl rfl (by kernel_rfl) (by kernel_rfl) rfl (by rw [k_spec_l5Levels]; exact h)

end Go.Proofs.YtpihgpfebhegmaaGreat
