import Derived.Test.YtpihgpfebhegmaaNm
set_option linter.unusedVariables false
set_option linter.unusedSimpArgs false
set_option linter.unnecessarySimpa false
set_option linter.unusedSectionVars false
namespace Go.Proofs.Ytpihgpfebhegmaa
open Go Go.Vc Go.Proofs
/-- impl.readSat -/
def F_impl_readSat (P : Program) (v0 v1 : Value) (w : World) (R : Value → World → Prop) : Prop :=
  vbox P T_impl_Cnf v0 w fun t2 w_1 =>
  vbox P T_impl_Sat v1 w_1 fun t3 w_2 =>
  vjoin (fun J =>
    vload P T_impl_Cnf t2 w_2 fun t11 w_4 =>
    vcall P n_impl_CnfOk #[t11] w_4 fun t12 w_5 =>
    vun P .not t12 w_5 fun t13 w_6 =>
    vif t13 (
      R (.tuple #[(.pointer none), (.bool false)]) w_6) (
      vfaddr P T_impl_Sat t3 2 w_6 fun t15 w_7 =>
      vload P T_LLint t15 w_7 fun t16 w_8 =>
      vbi P .len [T_LLint] T_int [t16] w_8 fun t17 w_9 =>
      vbin P .gtr T_int true t17 (.int .i64 300) w_9 fun t18 w_10 =>
      vif t18 (
        R (.tuple #[(.pointer none), (.bool false)]) w_10) (
        vfaddr P T_impl_Sat t3 3 w_10 fun t21 w_11 =>
        vload P T_int t21 w_11 fun t22 w_12 =>
        vbin P .lss T_int true t22 (.int .i64 0) w_12 fun t23 w_13 =>
        vif t23 (
          R (.tuple #[(.pointer none), (.bool false)]) w_13) (
          vfaddr P T_impl_Sat t3 3 w_13 fun t26 w_14 =>
          vload P T_int t26 w_14 fun t27 w_15 =>
          vbin P .gtr T_int true t27 (.int .i64 3) w_15 fun t28 w_16 =>
          vif t28 (
            R (.tuple #[(.pointer none), (.bool false)]) w_16) (
            vfaddr P T_impl_Sat t3 0 w_16 fun t31 w_17 =>
            vload P T_Lint t31 w_17 fun t32 w_18 =>
            vbi P .len [T_Lint] T_int [t32] w_18 fun t33 w_19 =>
            vfaddr P T_impl_Sat t3 1 w_19 fun t34 w_20 =>
            vload P T_Lint t34 w_20 fun t35 w_21 =>
            vbi P .len [T_Lint] T_int [t35] w_21 fun t36 w_22 =>
            vbin P .neq T_int false t33 t36 w_22 fun t37 w_23 =>
            vif t37 (
              R (.tuple #[(.pointer none), (.bool false)]) w_23) (
              J [] w_23)))))) (fun _ _ w_3 =>
    vfaddr P T_impl_Sat t3 2 w_3 fun t39 w_24 =>
    vload P T_LLint t39 w_24 fun t40 w_25 =>
    vmkF P (.func n_impl_readSat_1) [] [t2] w_25 fun t41 w_26 =>
    vcall P n_slices_ContainsFunc_LLint_Lint #[t40, t41] w_26 fun t42 w_27 =>
    vif t42 (
      R (.tuple #[(.pointer none), (.bool false)]) w_27) (
      vfaddr P T_impl_Cnf t2 0 w_27 fun t44 w_28 =>
      vload P T_int t44 w_28 fun t45 w_29 =>
      vfaddr P T_impl_Sat t3 0 w_29 fun t46 w_30 =>
      vload P T_Lint t46 w_30 fun t47 w_31 =>
      vmkF P (.func n_impl_readSat_2) [] [t3] w_31 fun t48 w_32 =>
      vcall P n_impl_trailOk #[t45, t47, t48] w_32 fun t49 w_33 =>
      vextract P t49 0 w_33 fun t50 w_34 =>
      vextract P t49 1 w_34 fun t51 w_35 =>
      vun P .not t51 w_35 fun t53 w_36 =>
      vif t53 (
        R (.tuple #[(.pointer none), (.bool false)]) w_36) (
        vdraw w_36 fun w_37 =>
        vload P T_impl_Cnf t2 w_37 fun t54 w_38 => w_38 = w_37 ∧
        vfaddr P T_impl_Sat t3 1 w_37 fun t56 w_39 => w_39 = w_37 ∧
        vload P T_Lint t56 w_37 fun t57 w_40 => w_40 = w_37 ∧
        vfaddr P T_impl_Sat t3 2 w_37 fun t59 w_41 => w_41 = w_37 ∧
        vload P T_LLint t59 w_37 fun t60 w_42 => w_42 = w_37 ∧
        vfaddr P T_impl_Sat t3 3 w_37 fun t62 w_43 => w_43 = w_37 ∧
        vload P T_int t62 w_37 fun t63 w_44 => w_44 = w_37 ∧
        vcall P n_slices_Clone_Lint_int #[t57] w_37 fun t58 w_45 => (vload P T_int t62 w_45 fun v x => v = t63 ∧ x = w_45) ∧ (vfaddr P T_impl_Sat t3 3 w_45 fun v x => v = t62 ∧ x = w_45) ∧ (vload P T_LLint t59 w_45 fun v x => v = t60 ∧ x = w_45) ∧ (vfaddr P T_impl_Sat t3 2 w_45 fun v x => v = t59 ∧ x = w_45) ∧ (vload P T_impl_Cnf t2 w_45 fun v x => v = t54 ∧ x = w_45) ∧
        vcall P n_impl_copyLists #[t60] w_45 fun t61 w_46 => (vload P T_int t62 w_46 fun v x => v = t63 ∧ x = w_46) ∧ (vfaddr P T_impl_Sat t3 3 w_46 fun v x => v = t62 ∧ x = w_46) ∧ (vload P T_impl_Cnf t2 w_46 fun v x => v = t54 ∧ x = w_46) ∧
        vbuild P T_impl_search [(0, t54), (1, t50), (2, t58), (3, t61), (4, t63)] w_46 fun t64 w_47 => w_47 = w_46 ∧
        vbox P T_impl_search t64 w_46 fun t65 w_48 =>
        vfaddr P T_impl_Sat t3 1 w_48 fun t66 w_49 =>
        vload P T_Lint t66 w_49 fun t67 w_50 =>
        vbi P .len [T_Lint] T_int [t67] w_50 fun t68 w_51 =>
        vloop [(.int .i64 0)] w_51 fun C u_1 _ w_52 =>
          vbin P .lss T_int false (sl 0 u_1) t68 w_52 fun t70 w_53 =>
          vif t70 (
            viaddr P T_Lint t67 (sl 0 u_1) w_53 fun t72 w_54 =>
            vload P T_int t72 w_54 fun t73 w_55 =>
            vbin P .eql T_int true t73 (.int .i64 (-1)) w_55 fun t75 w_56 =>
            vif t75 (
              vbin P .add T_int true (sl 0 u_1) (.int .i64 1) w_56 fun t98 w_57 =>
              C [t98] w_57) (
              vbin P .lss T_int true t73 (.int .i64 0) w_56 fun t77 w_58 =>
              vif t77 (
                R (.tuple #[(.pointer none), (.bool false)]) w_58) (
                vfaddr P T_impl_Cnf t2 1 w_58 fun t80 w_59 =>
                vload P T_LLint t80 w_59 fun t81 w_60 =>
                vbi P .len [T_LLint] T_int [t81] w_60 fun t82 w_61 =>
                vfaddr P T_impl_Sat t3 2 w_61 fun t83 w_62 =>
                vload P T_LLint t83 w_62 fun t84 w_63 =>
                vbi P .len [T_LLint] T_int [t84] w_63 fun t85 w_64 =>
                vbin P .add T_int false t82 t85 w_64 fun t86 w_65 =>
                vbin P .geq T_int false t73 t86 w_65 fun t87 w_66 =>
                vif t87 (
                  R (.tuple #[(.pointer none), (.bool false)]) w_66) (
                  vcall P n_impl_search_clause #[t65, t73] w_66 fun t93 w_67 =>
                  vcall P n_impl_trail_implies #[t50, t93, (sl 0 u_1)] w_67 fun t95 w_68 =>
                  vun P .not t95 w_68 fun t96 w_69 =>
                  vif t96 (
                    R (.tuple #[(.pointer none), (.bool false)]) w_69) (
                    vbin P .add T_int true (sl 0 u_1) (.int .i64 1) w_69 fun t98_1 w_70 =>
                    C [t98_1] w_70))))) (
            R (.tuple #[t65, (.bool true)]) w_53))))
def A_impl_readSat : Ann := { ord := [(8, [0, 1, 2, 3, 5, 6, 8, 9, 4, 7, 10, 11, 12], [(0, [10, 11, 12]), (1, [10, 11, 12]), (2, [3, 4, 7, 10, 11, 12]), (3, [4, 7, 10, 11, 12]), (5, [6, 7, 10, 11, 12]), (6, [7, 10, 11, 12]), (8, [9, 10, 11, 12]), (9, [10, 11, 12]), (4, [7, 10, 11, 12]), (7, [10, 11, 12]), (10, [11, 12]), (11, [12])])], loops := [(10, [69])], cuts := [(8195, [])] }
theorem k_impl_readSat (v0 v1 : Value) (w : World) (R : Value → World → Prop) : vc PP A_impl_readSat ((Try.f32.body).getD .skip) (retF PP Try.f32.results.toList R) (nthV [v0, v1]) w = F_impl_readSat PP v0 v1 w R := by kernel_rfl
theorem c_impl_readSat {v0 v1 : Value} {w : World} {R : Value → World → Prop} (h : F_impl_readSat PP v0 v1 w R) : vcall PP n_impl_readSat #[v0, v1] w R :=
  call_of_vc (T := A_impl_readSat) (c := (Try.f32.body).getD .skip) (n := 100) mixed Try.func32 rfl rfl (by kernel_rfl) (by kernel_rfl) rfl (by rw [k_impl_readSat]; exact h)

/-- (*impl.search).step -/
def F_impl_search_step (P : Program) (v0 : Value) (w : World) (R : Value → World → Prop) : Prop :=
  vnil P v0 w fun t7 w_1 =>
  vfaddr P T_impl_search t7 4 w_1 fun t8 w_2 =>
  vload P T_int t8 w_2 fun t9 w_3 =>
  vbin P .neq T_int true t9 (.int .i64 0) w_3 fun t10 w_4 =>
  vif t10 (
    R (.tuple #[]) w_4) (
    vdraw w_4 fun w_5 =>
    vnil P v0 w_5 fun t13 w_6 => w_6 = w_5 ∧
    vfaddr P T_impl_search t13 1 w_5 fun t14 w_7 => w_7 = w_5 ∧
    vload P T_P_impl_trail t14 w_5 fun t15 w_8 => w_8 = w_5 ∧
    vnil P v0 w_5 fun t17 w_9 => w_9 = w_5 ∧
    vfaddr P T_impl_search t17 0 w_5 fun t18 w_10 => w_10 = w_5 ∧
    vfaddr P T_impl_Cnf t18 1 w_5 fun t19 w_11 => w_11 = w_5 ∧
    vload P T_LLint t19 w_5 fun t20 w_12 => w_12 = w_5 ∧
    vnil P v0 w_5 fun t22 w_13 => w_13 = w_5 ∧
    vfaddr P T_impl_search t22 3 w_5 fun t23 w_14 => w_14 = w_5 ∧
    vload P T_LLint t23 w_5 fun t24 w_15 => w_15 = w_5 ∧
    vbuildS P T_LLLint 2 [(0, t20), (1, t24)] w_5 fun t25 w_16 => (vload P T_P_impl_trail t14 w_16 fun v x => v = t15 ∧ x = w_16) ∧ (vfaddr P T_impl_search t13 1 w_16 fun v x => v = t14 ∧ x = w_16) ∧ (vnil P v0 w_16 fun v x => v = t13 ∧ x = w_16) ∧
    vcall P n_impl_trail_next #[t15, t25] w_16 fun t26 w_17 =>
    vextract P t26 0 w_17 fun t27 w_18 => w_18 = w_17 ∧
    vextract P t26 1 w_17 fun t28 w_19 => w_19 = w_17 ∧
    vextract P t26 2 w_17 fun t29 w_20 => w_20 = w_17 ∧
    vbin P .geq T_int true t27 (.int .i64 0) w_17 fun t44 w_21 =>
    vif t44 (
      vcall P n_impl_search_clause #[v0, t27] w_21 fun t48 w_22 =>
      vcall P n_impl_search_resolve #[v0, t48] w_22 fun _ w_23 =>
      R (.tuple #[]) w_23) (
      vbin P .geq T_int true t28 (.int .i64 0) w_21 fun t52 w_24 =>
      vif t52 (
        vcall P n_impl_search_assign #[v0, t29, t28] w_24 fun _ w_25 =>
        R (.tuple #[]) w_25) (
        vdraw w_24 fun w_26 =>
        vnil P v0 w_26 fun t59 w_27 => w_27 = w_26 ∧
        vfaddr P T_impl_search t59 1 w_26 fun t60 w_28 => w_28 = w_26 ∧
        vload P T_P_impl_trail t60 w_26 fun t61 w_29 => w_29 = w_26 ∧
        vnil P t61 w_26 fun t62 w_30 => w_30 = w_26 ∧
        vfaddr P T_impl_trail t62 0 w_26 fun t63 w_31 => w_31 = w_26 ∧
        vload P T_Lint t63 w_26 fun t64 w_32 => w_32 = w_26 ∧
        vbi P .len [T_Lint] T_int [t64] w_26 fun t65 w_33 => w_33 = w_26 ∧
        vnil P v0 w_26 fun t67 w_34 => w_34 = w_26 ∧
        vfaddr P T_impl_search t67 0 w_26 fun t68 w_35 => w_35 = w_26 ∧
        vfaddr P T_impl_Cnf t68 0 w_26 fun t69 w_36 => w_36 = w_26 ∧
        vload P T_int t69 w_26 fun t70 w_37 => w_37 = w_26 ∧
        vbin P .eql T_int false t65 t70 w_26 fun t71 w_38 => w_38 = w_26 ∧
        vif t71 (
          vnil P v0 w_26 fun t73 w_39 =>
          vfaddr P T_impl_search t73 4 w_39 fun t74 w_40 =>
          vstore P T_int t74 (.int .i64 1) w_40 fun _ w_41 =>
          R (.tuple #[]) w_41) (
          vloop [(.int .i64 1)] w_26 fun C u _ w_42 =>
            vnil P v0 w_42 fun t31 w_43 =>
            vfaddr P T_impl_search t31 1 w_43 fun t32 w_44 =>
            vload P T_P_impl_trail t32 w_44 fun t33 w_45 =>
            vcall P n_impl_trail_assigned #[t33, (sl 0 u)] w_45 fun t35 w_46 =>
            vif t35 (
              vbin P .add T_int true (sl 0 u) (.int .i64 1) w_46 fun t37 w_47 =>
              C [t37] w_47) (
              vun P .neg (sl 0 u) w_46 fun t40 w_48 =>
              vcall P n_impl_search_assign #[v0, t40, (.int .i64 (-1))] w_48 fun _ w_49 =>
              R (.tuple #[]) w_49)))))
def A_impl_search_step : Ann := { ord := [(1, [0, 1, 2, 3, 4, 5, 6, 7, 8, 9, 10, 11, 12, 13, 14, 15, 16, 17, 18, 19, 20, 21], [(0, [1, 2, 3, 14, 15, 16, 17, 18, 19, 20, 21]), (1, [2, 3, 14, 15, 16, 17, 18, 19, 20, 21]), (2, [3, 14, 15, 16, 17, 18, 19, 20, 21]), (3, [14, 15, 16, 17, 18, 19, 20, 21]), (4, [5, 6, 7, 8, 13, 14, 15, 16, 17, 18, 19, 20, 21]), (5, [6, 7, 8, 13, 14, 15, 16, 17, 18, 19, 20, 21]), (6, [7, 8, 13, 14, 15, 16, 17, 18, 19, 20, 21]), (7, [8, 13, 14, 15, 16, 17, 18, 19, 20, 21]), (8, [13, 14, 15, 16, 17, 18, 19, 20, 21]), (9, [10, 11, 12, 13, 14, 15, 16, 17, 18, 19, 20, 21]), (10, [11, 12, 13, 14, 15, 16, 17, 18, 19, 20, 21]), (11, [12, 13, 14, 15, 16, 17, 18, 19, 20, 21]), (12, [13, 14, 15, 16, 17, 18, 19, 20, 21]), (13, [14, 15, 16, 17, 18, 19, 20, 21]), (14, [15, 16, 17, 18, 19, 20, 21]), (15, [16, 17, 18, 19, 20, 21]), (16, [19, 20, 21]), (17, [20, 21]), (18, [21]), (19, [20, 21]), (20, [21])]), (10, [0, 1, 2, 3, 4, 5, 6, 7, 8, 9, 10, 11, 12, 13, 14], [(0, [1, 2, 3, 4, 5, 6, 7, 13, 14]), (1, [2, 3, 4, 5, 6, 7, 13, 14]), (2, [3, 4, 5, 6, 7, 13, 14]), (3, [4, 5, 6, 7, 13, 14]), (4, [5, 6, 7, 13, 14]), (5, [6, 7, 13, 14]), (6, [7, 13, 14]), (7, [13, 14]), (8, [9, 10, 11, 12, 13, 14]), (9, [10, 11, 12, 13, 14]), (10, [11, 12, 13, 14]), (11, [12, 13, 14]), (12, [13, 14]), (13, [14])])], loops := [(3, [5])], cuts := [] }
theorem k_impl_search_step (v0 : Value) (w : World) (R : Value → World → Prop) : vc PP A_impl_search_step ((Try.f33.body).getD .skip) (retF PP Try.f33.results.toList R) (nthV [v0]) w = F_impl_search_step PP v0 w R := by kernel_rfl
theorem c_impl_search_step {v0 : Value} {w : World} {R : Value → World → Prop} (h : F_impl_search_step PP v0 w R) : vcall PP n_impl_search_step #[v0] w R :=
  call_of_vc (T := A_impl_search_step) (c := (Try.f33.body).getD .skip) (n := 75) mixed Try.func33 rfl rfl (by kernel_rfl) (by kernel_rfl) rfl (by rw [k_impl_search_step]; exact h)

/-- (*impl.search).vals -/
def F_impl_search_vals (P : Program) (v0 : Value) (w : World) (R : Value → World → Prop) : Prop :=
  vnil P v0 w fun t7 w_1 =>
  vfaddr P T_impl_search t7 0 w_1 fun t8 w_2 =>
  vfaddr P T_impl_Cnf t8 0 w_2 fun t9 w_3 =>
  vload P T_int t9 w_3 fun t10 w_4 =>
  vmkS P T_Lbool t10 t10 w_4 fun t11 w_5 =>
  vnil P v0 w_5 fun t13 w_6 =>
  vfaddr P T_impl_search t13 1 w_6 fun t14 w_7 =>
  vload P T_P_impl_trail t14 w_7 fun t15 w_8 =>
  vnil P t15 w_8 fun t16 w_9 =>
  vfaddr P T_impl_trail t16 0 w_9 fun t17 w_10 =>
  vload P T_Lint t17 w_10 fun t18 w_11 =>
  vbi P .len [T_Lint] T_int [t18] w_11 fun t19 w_12 =>
  vloop [(.int .i64 0)] w_12 fun C u _ w_13 =>
    vbin P .lss T_int false (sl 0 u) t19 w_13 fun t21 w_14 =>
    vif t21 (
      viaddr P T_Lint t18 (sl 0 u) w_14 fun t22 w_15 =>
      vload P T_int t22 w_15 fun t23 w_16 =>
      vcall P n_impl_literal_variable #[t23] w_16 fun t26 w_17 =>
      vbin P .sub T_int true t26 (.int .i64 1) w_17 fun t27 w_18 =>
      vbin P .gtr T_int true t23 (.int .i64 0) w_18 fun t29 w_19 =>
      viaddr P T_Lbool t11 t27 w_19 fun t30 w_20 =>
      vstore P T_bool t30 t29 w_20 fun _ w_21 =>
      vbin P .add T_int true (sl 0 u) (.int .i64 1) w_21 fun t31 w_22 =>
      C [t31] w_22) (
      R t11 w_14)
def A_impl_search_vals : Ann := { ord := [], loops := [(3, [20])], cuts := [] }
theorem k_impl_search_vals (v0 : Value) (w : World) (R : Value → World → Prop) : vc PP A_impl_search_vals ((Try.f34.body).getD .skip) (retF PP Try.f34.results.toList R) (nthV [v0]) w = F_impl_search_vals PP v0 w R := by kernel_rfl
theorem c_impl_search_vals {v0 : Value} {w : World} {R : Value → World → Prop} (h : F_impl_search_vals PP v0 w R) : vcall PP n_impl_search_vals #[v0] w R :=
  call_of_vc (T := A_impl_search_vals) (c := (Try.f34.body).getD .skip) (n := 33) mixed Try.func34 rfl rfl (by kernel_rfl) (by kernel_rfl) rfl (by rw [k_impl_search_vals]; exact h)

/-- (*spec.l12Rd).pick -/
def F_spec_l12Rd_pick (P : Program) (v0 v1 : Value) (w : World) (R : Value → World → Prop) : Prop :=
  vnil P v0 w fun t9 w_1 =>
  vfaddr P T_spec_l12Rd t9 1 w_1 fun t10 w_2 =>
  vload P T_int t10 w_2 fun t11 w_3 =>
  vbin P .add T_int true t11 (.int .i64 1) w_3 fun t12 w_4 =>
  vnil P v0 w_4 fun t13 w_5 =>
  vfaddr P T_spec_l12Rd t13 1 w_5 fun t14 w_6 =>
  vstore P T_int t14 t12 w_6 fun _ w_7 =>
  vjoin (fun J =>
    vbin P .lss T_int true v1 (.int .i64 1) w_7 fun t16 w_9 =>
    vif t16 (
      R (.int .i64 0) w_9) (
      vnil P v0 w_9 fun t19 w_10 =>
      vfaddr P T_spec_l12Rd t19 0 w_10 fun t20 w_11 =>
      vload P T_Luint8 t20 w_11 fun t21 w_12 =>
      vbi P .len [T_Luint8] T_int [t21] w_12 fun t22 w_13 =>
      vbin P .eql T_int true t22 (.int .i64 0) w_13 fun t23 w_14 =>
      vif t23 (
        R (.int .i64 0) w_14) (
        J [] w_14))) (fun _ _ w_8 =>
    vnil P v0 w_8 fun t26 w_15 =>
    vfaddr P T_spec_l12Rd t26 1 w_15 fun t27 w_16 =>
    vload P T_int t27 w_16 fun t28 w_17 =>
    vbin P .sub T_int true t28 (.int .i64 1) w_17 fun t29 w_18 =>
    vnil P v0 w_18 fun t32 w_19 =>
    vfaddr P T_spec_l12Rd t32 0 w_19 fun t33 w_20 =>
    vload P T_Luint8 t33 w_20 fun t34 w_21 =>
    vbi P .len [T_Luint8] T_int [t34] w_21 fun t35 w_22 =>
    vbin P .lss T_int false t29 t35 w_22 fun t36 w_23 =>
    vif t36 (
      vnil P v0 w_23 fun t38 w_24 =>
      vfaddr P T_spec_l12Rd t38 0 w_24 fun t39 w_25 =>
      vload P T_Luint8 t39 w_25 fun t40 w_26 =>
      viaddr P T_Luint8 t40 t29 w_26 fun t42 w_27 =>
      vload P T_uint8 t42 w_27 fun t43 w_28 =>
      vconv P T_uint8 T_int t43 w_28 fun t44 w_29 =>
      vbin P .rem T_int false t44 v1 w_29 fun t46 w_30 =>
      R t46 w_30) (
      vdraw w_23 fun w_31 =>
      vnil P v0 w_31 fun t48 w_32 => w_32 = w_31 ∧
      vfaddr P T_spec_l12Rd t48 0 w_31 fun t49 w_33 => w_33 = w_31 ∧
      vload P T_Luint8 t49 w_31 fun t50 w_34 => w_34 = w_31 ∧
      vnil P v0 w_31 fun t53 w_35 => w_35 = w_31 ∧
      vfaddr P T_spec_l12Rd t53 0 w_31 fun t54 w_36 => w_36 = w_31 ∧
      vload P T_Luint8 t54 w_31 fun t55 w_37 => w_37 = w_31 ∧
      vbi P .len [T_Luint8] T_int [t55] w_31 fun t56 w_38 => w_38 = w_31 ∧
      vbin P .rem T_int false t29 t56 w_31 fun t57 w_39 => w_39 = w_31 ∧
      viaddr P T_Luint8 t50 t57 w_31 fun t58 w_40 => w_40 = w_31 ∧
      vload P T_uint8 t58 w_31 fun t59 w_41 => w_41 = w_31 ∧
      vconv P T_uint8 T_int t59 w_31 fun t60 w_42 => w_42 = w_31 ∧
      vbin P .mul T_int true t60 (.int .i64 131) w_31 fun t61 w_43 => w_43 = w_31 ∧
      vnil P v0 w_31 fun t63 w_44 => w_44 = w_31 ∧
      vfaddr P T_spec_l12Rd t63 0 w_31 fun t64 w_45 => w_45 = w_31 ∧
      vload P T_Luint8 t64 w_31 fun t65 w_46 => w_46 = w_31 ∧
      vbin P .mul T_int true t29 (.int .i64 7) w_31 fun t67 w_47 => w_47 = w_31 ∧
      vbin P .add T_int true t67 (.int .i64 3) w_31 fun t68 w_48 => w_48 = w_31 ∧
      vnil P v0 w_31 fun t70 w_49 => w_49 = w_31 ∧
      vfaddr P T_spec_l12Rd t70 0 w_31 fun t71 w_50 => w_50 = w_31 ∧
      vload P T_Luint8 t71 w_31 fun t72 w_51 => w_51 = w_31 ∧
      vbi P .len [T_Luint8] T_int [t72] w_31 fun t73 w_52 => w_52 = w_31 ∧
      vbin P .rem T_int false t68 t73 w_31 fun t74 w_53 => w_53 = w_31 ∧
      viaddr P T_Luint8 t65 t74 w_31 fun t75 w_54 => w_54 = w_31 ∧
      vload P T_uint8 t75 w_31 fun t76 w_55 => w_55 = w_31 ∧
      vconv P T_uint8 T_int t76 w_31 fun t77 w_56 => w_56 = w_31 ∧
      vbin P .mul T_int true t77 (.int .i64 1117) w_31 fun t78 w_57 => w_57 = w_31 ∧
      vbin P .add T_int false t61 t78 w_31 fun t79 w_58 => w_58 = w_31 ∧
      vbin P .mul T_int true t29 (.int .i64 29) w_31 fun t81 w_59 => w_59 = w_31 ∧
      vbin P .add T_int false t79 t81 w_31 fun t82 w_60 => w_60 = w_31 ∧
      vnil P v0 w_31 fun t85 w_61 => w_61 = w_31 ∧
      vfaddr P T_spec_l12Rd t85 0 w_31 fun t86 w_62 => w_62 = w_31 ∧
      vload P T_Luint8 t86 w_31 fun t87 w_63 => w_63 = w_31 ∧
      vbi P .len [T_Luint8] T_int [t87] w_31 fun t88 w_64 => w_64 = w_31 ∧
      vbin P .quo T_int false t29 t88 w_31 fun t89 w_65 => w_65 = w_31 ∧
      vbin P .mul T_int true t89 (.int .i64 53) w_31 fun t90 w_66 => w_66 = w_31 ∧
      vbin P .add T_int false t82 t90 w_31 fun t91 w_67 => w_67 = w_31 ∧
      vbin P .quo T_int true t91 (.int .i64 64) w_31 fun t94 w_68 =>
      vbin P .xor T_int false t91 t94 w_68 fun t95 w_69 =>
      vbin P .rem T_int false t95 v1 w_69 fun t98 w_70 =>
      R t98 w_70))
def A_spec_l12Rd_pick : Ann := { ord := [(7, [0, 1, 2, 3, 4, 5, 6, 7, 8, 9, 10, 11, 12, 13, 14, 15, 16, 17, 18, 19, 20, 21, 22, 23, 24, 25, 26, 27, 28, 29, 30, 31, 32, 33, 34, 35, 36, 37, 38, 39, 40, 41, 42, 43, 44, 45], [(0, [1, 2, 3, 11, 12, 13, 14, 32, 35, 44, 45]), (1, [2, 3, 11, 12, 13, 14, 32, 35, 44, 45]), (2, [3, 11, 12, 13, 14, 32, 35, 44, 45]), (3, [11, 12, 13, 14, 32, 35, 44, 45]), (4, [10, 11, 12, 13, 14, 32, 35, 44, 45]), (5, [6, 7, 8, 9, 10, 11, 12, 13, 14, 32, 35, 44, 45]), (6, [7, 8, 9, 10, 11, 12, 13, 14, 32, 35, 44, 45]), (7, [8, 9, 10, 11, 12, 13, 14, 32, 35, 44, 45]), (8, [9, 10, 11, 12, 13, 14, 32, 35, 44, 45]), (9, [10, 11, 12, 13, 14, 32, 35, 44, 45]), (10, [11, 12, 13, 14, 32, 35, 44, 45]), (11, [12, 13, 14, 32, 35, 44, 45]), (12, [13, 14, 32, 35, 44, 45]), (13, [14, 32, 35, 44, 45]), (14, [32, 35, 44, 45]), (15, [16, 17, 18, 28, 29, 30, 31, 32, 35, 44, 45]), (16, [17, 18, 28, 29, 30, 31, 32, 35, 44, 45]), (17, [18, 28, 29, 30, 31, 32, 35, 44, 45]), (18, [28, 29, 30, 31, 32, 35, 44, 45]), (19, [20, 21, 27, 28, 29, 30, 31, 32, 35, 44, 45]), (20, [21, 27, 28, 29, 30, 31, 32, 35, 44, 45]), (21, [27, 28, 29, 30, 31, 32, 35, 44, 45]), (22, [23, 24, 25, 26, 27, 28, 29, 30, 31, 32, 35, 44, 45]), (23, [24, 25, 26, 27, 28, 29, 30, 31, 32, 35, 44, 45]), (24, [25, 26, 27, 28, 29, 30, 31, 32, 35, 44, 45]), (25, [26, 27, 28, 29, 30, 31, 32, 35, 44, 45]), (26, [27, 28, 29, 30, 31, 32, 35, 44, 45]), (27, [28, 29, 30, 31, 32, 35, 44, 45]), (28, [29, 30, 31, 32, 35, 44, 45]), (29, [30, 31, 32, 35, 44, 45]), (30, [31, 32, 35, 44, 45]), (31, [32, 35, 44, 45]), (32, [35, 44, 45]), (33, [34, 35, 44, 45]), (34, [35, 44, 45]), (35, [44, 45]), (36, [42, 43, 44, 45]), (37, [38, 39, 40, 41, 42, 43, 44, 45]), (38, [39, 40, 41, 42, 43, 44, 45]), (39, [40, 41, 42, 43, 44, 45]), (40, [41, 42, 43, 44, 45]), (41, [42, 43, 44, 45]), (42, [43, 44, 45]), (43, [44, 45]), (44, [45])])], loops := [], cuts := [(12292, [])] }
theorem k_spec_l12Rd_pick (v0 v1 : Value) (w : World) (R : Value → World → Prop) : vc PP A_spec_l12Rd_pick ((Try.f35.body).getD .skip) (retF PP Try.f35.results.toList R) (nthV [v0, v1]) w = F_spec_l12Rd_pick PP v0 v1 w R := by kernel_rfl
theorem c_spec_l12Rd_pick {v0 v1 : Value} {w : World} {R : Value → World → Prop} (h : F_spec_l12Rd_pick PP v0 v1 w R) : vcall PP n_spec_l12Rd_pick #[v0, v1] w R :=
  call_of_vc (T := A_spec_l12Rd_pick) (c := (Try.f35.body).getD .skip) (n := 99) mixed Try.func35 rfl rfl (by kernel_rfl) (by kernel_rfl) rfl (by rw [k_spec_l12Rd_pick]; exact h)

/-- spec.l4Draw -/
def F_spec_l4Draw (P : Program) (v0 v1 v2 : Value) (w : World) (R : Value → World → Prop) : Prop :=
  vbuildS P T_Lint 0 [] w fun t9 w_1 =>
  vloop [t9, (.int .i64 1)] w_1 fun C u _ w_2 =>
    vbin P .leq T_int false (sl 1 u) v1 w_2 fun t12 w_3 =>
    vif t12 (
      vcall P n_spec_l12Rd_pick #[v0, v1] w_3 fun t17 w_4 =>
      vbin P .lss T_int false t17 v2 w_4 fun t19 w_5 =>
      vif t19 (
        vcall P n_spec_l12Rd_pick #[v0, (.int .i64 2)] w_5 fun t21 w_6 =>
        vbin P .eql T_int true t21 (.int .i64 0) w_6 fun t22 w_7 =>
        vif t22 (
          vbuildS P T_Lint 1 [(0, (sl 1 u))] w_7 fun t25 w_8 =>
          vbi P .append [T_Lint, T_Lint] T_Lint [(sl 0 u), t25] w_8 fun t26 w_9 =>
          vbin P .add T_int true (sl 1 u) (.int .i64 1) w_9 fun t14 w_10 =>
          C [t26, t14] w_10) (
          vun P .neg (sl 1 u) w_7 fun t29 w_11 =>
          vbuildS P T_Lint 1 [(0, t29)] w_11 fun t30 w_12 =>
          vbi P .append [T_Lint, T_Lint] T_Lint [(sl 0 u), t30] w_12 fun t31 w_13 =>
          vbin P .add T_int true (sl 1 u) (.int .i64 1) w_13 fun t14_1 w_14 =>
          C [t31, t14_1] w_14)) (
        vbin P .add T_int true (sl 1 u) (.int .i64 1) w_5 fun t14_2 w_15 =>
        C [(sl 0 u), t14_2] w_15)) (
      R (sl 0 u) w_3)
def A_spec_l4Draw : Ann := { ord := [], loops := [(3, [7, 8])], cuts := [] }
theorem k_spec_l4Draw (v0 v1 v2 : Value) (w : World) (R : Value → World → Prop) : vc PP A_spec_l4Draw ((Try.f36.body).getD .skip) (retF PP Try.f36.results.toList R) (nthV [v0, v1, v2]) w = F_spec_l4Draw PP v0 v1 v2 w R := by kernel_rfl
theorem c_spec_l4Draw {v0 v1 v2 : Value} {w : World} {R : Value → World → Prop} (h : F_spec_l4Draw PP v0 v1 v2 w R) : vcall PP n_spec_l4Draw #[v0, v1, v2] w R :=
  call_of_vc (T := A_spec_l4Draw) (c := (Try.f36.body).getD .skip) (n := 33) mixed Try.func36 rfl rfl (by kernel_rfl) (by kernel_rfl) rfl (by rw [k_spec_l4Draw]; exact h)

/-- impl.newTrail -/
def F_impl_newTrail (P : Program) (v0 : Value) (w : World) (R : Value → World → Prop) : Prop :=
  vbin P .add T_int true v0 (.int .i64 1) w fun t4 w_1 =>
  vmkS P T_Lint t4 t4 w_1 fun t5 w_2 =>
  vbuild P T_impl_trail [(1, t5)] w_2 fun t6 w_3 =>
  vbox P T_impl_trail t6 w_3 fun t7 w_4 =>
  R t7 w_4
def A_impl_newTrail : Ann := { ord := [], loops := [], cuts := [] }
theorem k_impl_newTrail (v0 : Value) (w : World) (R : Value → World → Prop) : vc PP A_impl_newTrail ((Try.f37.body).getD .skip) (retF PP Try.f37.results.toList R) (nthV [v0]) w = F_impl_newTrail PP v0 w R := by kernel_rfl
theorem c_impl_newTrail {v0 : Value} {w : World} {R : Value → World → Prop} (h : F_impl_newTrail PP v0 w R) : vcall PP n_impl_newTrail #[v0] w R :=
  call_of_vc (T := A_impl_newTrail) (c := (Try.f37.body).getD .skip) (n := 8) mixed Try.func37 rfl rfl (by kernel_rfl) (by kernel_rfl) rfl (by rw [k_impl_newTrail]; exact h)

/-- slices.Clone[[]int,int] -/
def F_slices_Clone_Lint_int (P : Program) (v0 : Value) (w : World) (R : Value → World → Prop) : Prop :=
  vbin P .eql T_Lint true v0 (.slice none 0 0) w fun t4 w_1 =>
  vif t4 (
    R (.slice none 0 0) w_1) (
    vbuildS P T_Lint 0 [] w_1 fun t5 w_2 =>
    vbi P .append [T_Lint, T_Lint] T_Lint [t5, v0] w_2 fun t7 w_3 =>
    R t7 w_3)
def A_slices_Clone_Lint_int : Ann := { ord := [], loops := [], cuts := [] }
theorem k_slices_Clone_Lint_int (v0 : Value) (w : World) (R : Value → World → Prop) : vc PP A_slices_Clone_Lint_int ((Try.f38.body).getD .skip) (retF PP Try.f38.results.toList R) (nthV [v0]) w = F_slices_Clone_Lint_int PP v0 w R := by kernel_rfl
theorem c_slices_Clone_Lint_int {v0 : Value} {w : World} {R : Value → World → Prop} (h : F_slices_Clone_Lint_int PP v0 w R) : vcall PP n_slices_Clone_Lint_int #[v0] w R :=
  call_of_vc (T := A_slices_Clone_Lint_int) (c := (Try.f38.body).getD .skip) (n := 8) mixed Try.func38 rfl rfl (by kernel_rfl) (by kernel_rfl) rfl (by rw [k_slices_Clone_Lint_int]; exact h)

/-- slices.EqualFunc[[][]int,[][]int,[]int,[]int] -/
def F_slices_EqualFunc_LLint_LLint_Lint_Lint (P : Program) (v0 v1 v2 : Value) (w : World) (R : Value → World → Prop) : Prop :=
  vbi P .len [T_LLint] T_int [v0] w fun t11 w_1 =>
  vbi P .len [T_LLint] T_int [v1] w_1 fun t13 w_2 =>
  vbin P .neq T_int false t11 t13 w_2 fun t14 w_3 =>
  vif t14 (
    R (.bool false) w_3) (
    vbi P .len [T_LLint] T_int [v0] w_3 fun t16 w_4 =>
    vloop [(.int .i64 0)] w_4 fun C u _ w_5 =>
      vbin P .lss T_int false (sl 0 u) t16 w_5 fun t18 w_6 =>
      vif t18 (
        viaddr P T_LLint v0 (sl 0 u) w_6 fun t20 w_7 =>
        vload P T_Lint t20 w_7 fun t21 w_8 =>
        viaddr P T_LLint v1 (sl 0 u) w_8 fun t24 w_9 =>
        vload P T_Lint t24 w_9 fun t25 w_10 =>
        vcallv P v2 #[t21, t25] w_10 fun t29 w_11 =>
        vun P .not t29 w_11 fun t30 w_12 =>
        vif t30 (
          R (.bool false) w_12) (
          vbin P .add T_int true (sl 0 u) (.int .i64 1) w_12 fun t31 w_13 =>
          C [t31] w_13)) (
        R (.bool true) w_6))
def A_slices_EqualFunc_LLint_LLint_Lint_Lint : Ann := { ord := [], loops := [(4, [17])], cuts := [] }
theorem k_slices_EqualFunc_LLint_LLint_Lint_Lint (v0 v1 v2 : Value) (w : World) (R : Value → World → Prop) : vc PP A_slices_EqualFunc_LLint_LLint_Lint_Lint ((Try.f39.body).getD .skip) (retF PP Try.f39.results.toList R) (nthV [v0, v1, v2]) w = F_slices_EqualFunc_LLint_LLint_Lint_Lint PP v0 v1 v2 w R := by kernel_rfl
theorem c_slices_EqualFunc_LLint_LLint_Lint_Lint {v0 v1 v2 : Value} {w : World} {R : Value → World → Prop} (h : F_slices_EqualFunc_LLint_LLint_Lint_Lint PP v0 v1 v2 w R) : vcall PP n_slices_EqualFunc_LLint_LLint_Lint_Lint #[v0, v1, v2] w R :=
  call_of_vc (T := A_slices_EqualFunc_LLint_LLint_Lint_Lint) (c := (Try.f39.body).getD .skip) (n := 32) mixed Try.func39 rfl rfl (by kernel_rfl) (by kernel_rfl) rfl (by rw [k_slices_EqualFunc_LLint_LLint_Lint_Lint]; exact h)

/-- spec.l4Clause -/
def F_spec_l4Clause (P : Program) (v0 v1 : Value) (w : World) (R : Value → World → Prop) : Prop :=
  vloop [(.int .i64 0), (.int .i64 0)] w fun C u _ w_1 =>
    vbi P .len [T_Lint] T_int [v0] w_1 fun t9 w_2 =>
    vbin P .lss T_int false (sl 1 u) t9 w_2 fun t10 w_3 =>
    vif t10 (
      viaddr P T_Lint v0 (sl 1 u) w_3 fun t15 w_4 =>
      vload P T_int t15 w_4 fun t16 w_5 =>
      vun P .neg v1 w_5 fun t18 w_6 =>
      vbin P .lss T_int false t16 t18 w_6 fun t19 w_7 =>
      vif t19 (
        R (.bool false) w_7) (
        viaddr P T_Lint v0 (sl 1 u) w_7 fun t23 w_8 =>
        vload P T_int t23 w_8 fun t24 w_9 =>
        vbin P .gtr T_int false t24 v1 w_9 fun t26 w_10 =>
        vif t26 (
          R (.bool false) w_10) (
          viaddr P T_Lint v0 (sl 1 u) w_10 fun t31 w_11 =>
          vload P T_int t31 w_11 fun t32 w_12 =>
          vcall P n_spec_l4Abs #[t32] w_12 fun t33 w_13 =>
          vbin P .leq T_int false t33 (sl 0 u) w_13 fun t35 w_14 =>
          vif t35 (
            R (.bool false) w_14) (
            viaddr P T_Lint v0 (sl 1 u) w_14 fun t39 w_15 =>
            vload P T_int t39 w_15 fun t40 w_16 =>
            vcall P n_spec_l4Abs #[t40] w_16 fun t41 w_17 =>
            vbin P .add T_int true (sl 1 u) (.int .i64 1) w_17 fun t12 w_18 =>
            C [t41, t12] w_18)))) (
      R (.bool true) w_3)
def A_spec_l4Clause : Ann := { ord := [], loops := [(3, [5, 6])], cuts := [] }
theorem k_spec_l4Clause (v0 v1 : Value) (w : World) (R : Value → World → Prop) : vc PP A_spec_l4Clause ((Try.f40.body).getD .skip) (retF PP Try.f40.results.toList R) (nthV [v0, v1]) w = F_spec_l4Clause PP v0 v1 w R := by kernel_rfl
theorem c_spec_l4Clause {v0 v1 : Value} {w : World} {R : Value → World → Prop} (h : F_spec_l4Clause PP v0 v1 w R) : vcall PP n_spec_l4Clause #[v0, v1] w R :=
  call_of_vc (T := A_spec_l4Clause) (c := (Try.f40.body).getD .skip) (n := 42) mixed Try.func40 rfl rfl (by kernel_rfl) (by kernel_rfl) rfl (by rw [k_spec_l4Clause]; exact h)

/-- spec.l5Do -/
def F_spec_l5Do (P : Program) (v0 v1 : Value) (w : World) (R : Value → World → Prop) : Prop :=
  vbox P T_impl_Cnf v0 w fun t2 w_1 =>
  vbox P T_impl_Sat v1 w_1 fun t3 w_2 =>
  valloc P T_impl_Sat w_2 fun t4 w_3 =>
  vload P T_impl_Cnf t2 w_3 fun t10 w_4 =>
  vfaddr P T_impl_Sat t3 0 w_4 fun t11 w_5 =>
  vload P T_Lint t11 w_5 fun t12 w_6 =>
  vcall P n_spec_l5Vals #[t10, t12] w_6 fun t13 w_7 =>
  vload P T_impl_Cnf t2 w_7 fun t15 w_8 =>
  vfaddr P T_impl_Sat t3 2 w_8 fun t16 w_9 =>
  vload P T_LLint t16 w_9 fun t17 w_10 =>
  vcall P n_spec_l5Find #[t15, t17, t13] w_10 fun t19 w_11 =>
  vextract P t19 0 w_11 fun t20 w_12 =>
  vextract P t19 1 w_12 fun t21 w_13 =>
  vextract P t19 2 w_13 fun t22 w_14 =>
  vbin P .geq T_int true t20 (.int .i64 0) w_14 fun t25 w_15 =>
  vif t25 (
    vdraw w_15 fun w_16 =>
    vload P T_impl_Cnf t2 w_16 fun t26 w_17 => w_17 = w_16 ∧
    vload P T_impl_Sat t3 w_16 fun t27 w_18 => w_18 = w_16 ∧
    vload P T_impl_Cnf t2 w_16 fun t28 w_19 => w_19 = w_16 ∧
    vload P T_impl_Sat t3 w_16 fun t29 w_20 => w_20 = w_16 ∧
    vcall P n_spec_l5At #[t28, t29, t20] w_16 fun t31 w_21 => (vload P T_impl_Sat t3 w_21 fun v x => v = t27 ∧ x = w_21) ∧ (vload P T_impl_Cnf t2 w_21 fun v x => v = t26 ∧ x = w_21) ∧
    vcall P n_spec_l5Clash #[t26, t27, t31] w_21 fun t32 w_22 =>
    vstore P T_impl_Sat t4 t32 w_22 fun _ w_23 =>
    vlv P T_impl_Sat t4 w_23 fun r4 w_24 =>
    R r4 w_24) (
    vbin P .geq T_int true t21 (.int .i64 0) w_15 fun t35 w_25 =>
    vif t35 (
      vfaddr P T_impl_Sat t3 0 w_25 fun t36 w_26 =>
      vload P T_Lint t36 w_26 fun t37 w_27 =>
      vbuildS P T_Lint 1 [(0, t22)] w_27 fun t39 w_28 =>
      vbi P .append [T_Lint, T_Lint] T_Lint [t37, t39] w_28 fun t40 w_29 =>
      vfaddr P T_impl_Sat t3 0 w_29 fun t41 w_30 =>
      vstore P T_Lint t41 t40 w_30 fun _ w_31 =>
      vfaddr P T_impl_Sat t3 1 w_31 fun t42 w_32 =>
      vload P T_Lint t42 w_32 fun t43 w_33 =>
      vbuildS P T_Lint 1 [(0, t21)] w_33 fun t45 w_34 =>
      vbi P .append [T_Lint, T_Lint] T_Lint [t43, t45] w_34 fun t46 w_35 =>
      vfaddr P T_impl_Sat t3 1 w_35 fun t47 w_36 =>
      vstore P T_Lint t47 t46 w_36 fun _ w_37 =>
      vload P T_impl_Sat t3 w_37 fun t48 w_38 =>
      vstore P T_impl_Sat t4 t48 w_38 fun _ w_39 =>
      vlv P T_impl_Sat t4 w_39 fun r4_1 w_40 =>
      R r4_1 w_40) (
      vfaddr P T_impl_Sat t3 0 w_25 fun t50 w_41 =>
      vload P T_Lint t50 w_41 fun t51 w_42 =>
      vbi P .len [T_Lint] T_int [t51] w_42 fun t52 w_43 =>
      vfaddr P T_impl_Cnf t2 0 w_43 fun t53 w_44 =>
      vload P T_int t53 w_44 fun t54 w_45 =>
      vbin P .eql T_int false t52 t54 w_45 fun t55 w_46 =>
      vif t55 (
        vfaddr P T_impl_Sat t3 3 w_46 fun t56 w_47 =>
        vstore P T_int t56 (.int .i64 1) w_47 fun _ w_48 =>
        vload P T_impl_Sat t3 w_48 fun t57 w_49 =>
        vstore P T_impl_Sat t4 t57 w_49 fun _ w_50 =>
        vlv P T_impl_Sat t4 w_50 fun r4_2 w_51 =>
        R r4_2 w_51) (
        vloop [(.int .i64 1)] w_46 fun C u _ w_52 =>
          viaddr P T_Lint t13 (sl 0 u) w_52 fun t60 w_53 =>
          vload P T_int t60 w_53 fun t61 w_54 =>
          vbin P .neq T_int true t61 (.int .i64 0) w_54 fun t62 w_55 =>
          vif t62 (
            vbin P .add T_int true (sl 0 u) (.int .i64 1) w_55 fun t64 w_56 =>
            C [t64] w_56) (
            vfaddr P T_impl_Sat t3 0 w_55 fun t65 w_57 =>
            vload P T_Lint t65 w_57 fun t66 w_58 =>
            vun P .neg (sl 0 u) w_58 fun t68 w_59 =>
            vbuildS P T_Lint 1 [(0, t68)] w_59 fun t69 w_60 =>
            vbi P .append [T_Lint, T_Lint] T_Lint [t66, t69] w_60 fun t70 w_61 =>
            vfaddr P T_impl_Sat t3 0 w_61 fun t71 w_62 =>
            vstore P T_Lint t71 t70 w_62 fun _ w_63 =>
            vfaddr P T_impl_Sat t3 1 w_63 fun t72 w_64 =>
            vload P T_Lint t72 w_64 fun t73 w_65 =>
            vbuildS P T_Lint 1 [(0, (.int .i64 (-1)))] w_65 fun t74 w_66 =>
            vbi P .append [T_Lint, T_Lint] T_Lint [t73, t74] w_66 fun t75 w_67 =>
            vfaddr P T_impl_Sat t3 1 w_67 fun t76 w_68 =>
            vstore P T_Lint t76 t75 w_68 fun _ w_69 =>
            vload P T_impl_Sat t3 w_69 fun t77 w_70 =>
            vstore P T_impl_Sat t4 t77 w_70 fun _ w_71 =>
            vlv P T_impl_Sat t4 w_71 fun r4_3 w_72 =>
            R r4_3 w_72))))
def A_spec_l5Do : Ann := { ord := [(4, [0, 1, 2, 3, 4, 5, 6, 7], [(0, [6, 7]), (1, [6, 7]), (2, [5, 6, 7]), (3, [5, 6, 7]), (4, [5, 6, 7]), (5, [6, 7]), (6, [7])])], loops := [(13, [9])], cuts := [] }
theorem k_spec_l5Do (v0 v1 : Value) (w : World) (R : Value → World → Prop) : vc PP A_spec_l5Do ((Try.f41.body).getD .skip) (retF PP Try.f41.results.toList R) (nthV [v0, v1]) w = F_spec_l5Do PP v0 v1 w R := by kernel_rfl
theorem c_spec_l5Do {v0 v1 : Value} {w : World} {R : Value → World → Prop} (h : F_spec_l5Do PP v0 v1 w R) : vcall PP n_spec_l5Do #[v0, v1] w R :=
  call_of_vc (T := A_spec_l5Do) (c := (Try.f41.body).getD .skip) (n := 78) mixed Try.func41 rfl rfl (by kernel_rfl) (by kernel_rfl) rfl (by rw [k_spec_l5Do]; exact h)

/-- slices.IndexFunc[[][]int,[]int] -/
def F_slices_IndexFunc_LLint_Lint (P : Program) (v0 v1 : Value) (w : World) (R : Value → World → Prop) : Prop :=
  vbi P .len [T_LLint] T_int [v0] w fun t7 w_1 =>
  vloop [(.int .i64 0)] w_1 fun C u _ w_2 =>
    vbin P .lss T_int false (sl 0 u) t7 w_2 fun t9 w_3 =>
    vif t9 (
      viaddr P T_LLint v0 (sl 0 u) w_3 fun t14 w_4 =>
      vload P T_Lint t14 w_4 fun t15 w_5 =>
      vcallv P v1 #[t15] w_5 fun t16 w_6 =>
      vif t16 (
        R (sl 0 u) w_6) (
        vbin P .add T_int true (sl 0 u) (.int .i64 1) w_6 fun t18 w_7 =>
        C [t18] w_7)) (
      R (.int .i64 (-1)) w_3)
def A_slices_IndexFunc_LLint_Lint : Ann := { ord := [], loops := [(2, [8])], cuts := [] }
theorem k_slices_IndexFunc_LLint_Lint (v0 v1 : Value) (w : World) (R : Value → World → Prop) : vc PP A_slices_IndexFunc_LLint_Lint ((Try.f42.body).getD .skip) (retF PP Try.f42.results.toList R) (nthV [v0, v1]) w = F_slices_IndexFunc_LLint_Lint PP v0 v1 w R := by kernel_rfl
theorem c_slices_IndexFunc_LLint_Lint {v0 v1 : Value} {w : World} {R : Value → World → Prop} (h : F_slices_IndexFunc_LLint_Lint PP v0 v1 w R) : vcall PP n_slices_IndexFunc_LLint_Lint #[v0, v1] w R :=
  call_of_vc (T := A_slices_IndexFunc_LLint_Lint) (c := (Try.f42.body).getD .skip) (n := 19) mixed Try.func42 rfl rfl (by kernel_rfl) (by kernel_rfl) rfl (by rw [k_slices_IndexFunc_LLint_Lint]; exact h)

/-- (impl.literal).of -/
def F_impl_literal_of (P : Program) (v0 v1 : Value) (w : World) (R : Value → World → Prop) : Prop :=
  vbin P .neq T_impl_literal true v0 (.int .i64 0) w fun t6 w_1 =>
  vif t6 (
    vun P .neg v1 w_1 fun t10 w_2 =>
    vbin P .geq T_impl_literal false v0 t10 w_2 fun t11 w_3 =>
    vif t11 (
      vbin P .leq T_impl_literal false v0 v1 w_3 fun t16 w_4 =>
      R t16 w_4) (
      R (.bool false) w_3)) (
    R (.bool false) w_1)
def A_impl_literal_of : Ann := { ord := [], loops := [], cuts := [] }
theorem k_impl_literal_of (v0 v1 : Value) (w : World) (R : Value → World → Prop) : vc PP A_impl_literal_of ((Try.f43.body).getD .skip) (retF PP Try.f43.results.toList R) (nthV [v0, v1]) w = F_impl_literal_of PP v0 v1 w R := by kernel_rfl
theorem c_impl_literal_of {v0 v1 : Value} {w : World} {R : Value → World → Prop} (h : F_impl_literal_of PP v0 v1 w R) : vcall PP n_impl_literal_of #[v0, v1] w R :=
  call_of_vc (T := A_impl_literal_of) (c := (Try.f43.body).getD .skip) (n := 18) mixed Try.func43 rfl rfl (by kernel_rfl) (by kernel_rfl) rfl (by rw [k_impl_literal_of]; exact h)

/-- (impl.literal).variable -/
def F_impl_literal_variable (P : Program) (v0 : Value) (w : World) (R : Value → World → Prop) : Prop :=
  vbin P .lss T_impl_literal true v0 (.int .i64 0) w fun t4 w_1 =>
  vif t4 (
    vun P .neg v0 w_1 fun t6 w_2 =>
    R t6 w_2) (
    R v0 w_1)
def A_impl_literal_variable : Ann := { ord := [], loops := [], cuts := [] }
theorem k_impl_literal_variable (v0 : Value) (w : World) (R : Value → World → Prop) : vc PP A_impl_literal_variable ((Try.f44.body).getD .skip) (retF PP Try.f44.results.toList R) (nthV [v0]) w = F_impl_literal_variable PP v0 w R := by kernel_rfl
theorem c_impl_literal_variable {v0 : Value} {w : World} {R : Value → World → Prop} (h : F_impl_literal_variable PP v0 w R) : vcall PP n_impl_literal_variable #[v0] w R :=
  call_of_vc (T := A_impl_literal_variable) (c := (Try.f44.body).getD .skip) (n := 8) mixed Try.func44 rfl rfl (by kernel_rfl) (by kernel_rfl) rfl (by rw [k_impl_literal_variable]; exact h)

/-- impl.readSat$1 -/
def F_impl_readSat_1 (P : Program) (v0 v1 : Value) (w : World) (R : Value → World → Prop) : Prop :=
  vfaddr P T_impl_Cnf v1 0 w fun t5 w_1 =>
  vload P T_int t5 w_1 fun t6 w_2 =>
  vcall P n_impl_clauseOk #[v0, t6] w_2 fun t7 w_3 =>
  vun P .not t7 w_3 fun t8 w_4 =>
  R t8 w_4
def A_impl_readSat_1 : Ann := { ord := [], loops := [], cuts := [] }
theorem k_impl_readSat_1 (v0 v1 : Value) (w : World) (R : Value → World → Prop) : vc PP A_impl_readSat_1 ((Try.f45.body).getD .skip) (retF PP Try.f45.results.toList R) (nthV [v0, v1]) w = F_impl_readSat_1 PP v0 v1 w R := by kernel_rfl
theorem c_impl_readSat_1 {v0 v1 : Value} {w : World} {R : Value → World → Prop} (h : F_impl_readSat_1 PP v0 v1 w R) : vcall PP n_impl_readSat_1 #[v0, v1] w R :=
  call_of_vc (T := A_impl_readSat_1) (c := (Try.f45.body).getD .skip) (n := 9) mixed Try.func45 rfl rfl (by kernel_rfl) (by kernel_rfl) rfl (by rw [k_impl_readSat_1]; exact h)

/-- impl.trailOk -/
def F_impl_trailOk (P : Program) (v0 v1 v2 : Value) (w : World) (R : Value → World → Prop) : Prop :=
  vcall P n_impl_newTrail #[v0] w fun t12 w_1 =>
  vbi P .len [T_Lint] T_int [v1] w_1 fun t14 w_2 =>
  vloop [(.int .i64 0)] w_2 fun C u _ w_3 =>
    vbin P .lss T_int false (sl 0 u) t14 w_3 fun t16 w_4 =>
    vif t16 (
      viaddr P T_Lint v1 (sl 0 u) w_4 fun t18 w_5 =>
      vload P T_int t18 w_5 fun t19 w_6 =>
      vcall P n_impl_literal_of #[t19, v0] w_6 fun t22 w_7 =>
      vun P .not t22 w_7 fun t23 w_8 =>
      vif t23 (
        R (.tuple #[(.pointer none), (.bool false)]) w_8) (
        vcall P n_impl_trail_assigned #[t12, t19] w_8 fun t27 w_9 =>
        vif t27 (
          R (.tuple #[(.pointer none), (.bool false)]) w_9) (
          vcallv P v2 #[(sl 0 u)] w_9 fun t33 w_10 =>
          vcall P n_impl_trail_push #[t12, t19, t33] w_10 fun _ w_11 =>
          vbin P .add T_int true (sl 0 u) (.int .i64 1) w_11 fun t35 w_12 =>
          C [t35] w_12))) (
      R (.tuple #[t12, (.bool true)]) w_4)
def A_impl_trailOk : Ann := { ord := [], loops := [(3, [15])], cuts := [] }
theorem k_impl_trailOk (v0 v1 v2 : Value) (w : World) (R : Value → World → Prop) : vc PP A_impl_trailOk ((Try.f46.body).getD .skip) (retF PP Try.f46.results.toList R) (nthV [v0, v1, v2]) w = F_impl_trailOk PP v0 v1 v2 w R := by kernel_rfl
theorem c_impl_trailOk {v0 v1 v2 : Value} {w : World} {R : Value → World → Prop} (h : F_impl_trailOk PP v0 v1 v2 w R) : vcall PP n_impl_trailOk #[v0, v1, v2] w R :=
  call_of_vc (T := A_impl_trailOk) (c := (Try.f46.body).getD .skip) (n := 37) mixed Try.func46 rfl rfl (by kernel_rfl) (by kernel_rfl) rfl (by rw [k_impl_trailOk]; exact h)

/-- impl.readSat$2 -/
def F_impl_readSat_2 (P : Program) (v0 v1 : Value) (w : World) (R : Value → World → Prop) : Prop :=
  vfaddr P T_impl_Sat v1 1 w fun t4 w_1 =>
  vload P T_Lint t4 w_1 fun t5 w_2 =>
  viaddr P T_Lint t5 v0 w_2 fun t7 w_3 =>
  vload P T_int t7 w_3 fun t8 w_4 =>
  vbin P .eql T_int true t8 (.int .i64 (-1)) w_4 fun t9 w_5 =>
  R t9 w_5
def A_impl_readSat_2 : Ann := { ord := [], loops := [], cuts := [] }
theorem k_impl_readSat_2 (v0 v1 : Value) (w : World) (R : Value → World → Prop) : vc PP A_impl_readSat_2 ((Try.f47.body).getD .skip) (retF PP Try.f47.results.toList R) (nthV [v0, v1]) w = F_impl_readSat_2 PP v0 v1 w R := by kernel_rfl
theorem c_impl_readSat_2 {v0 v1 : Value} {w : World} {R : Value → World → Prop} (h : F_impl_readSat_2 PP v0 v1 w R) : vcall PP n_impl_readSat_2 #[v0, v1] w R :=
  call_of_vc (T := A_impl_readSat_2) (c := (Try.f47.body).getD .skip) (n := 10) mixed Try.func47 rfl rfl (by kernel_rfl) (by kernel_rfl) rfl (by rw [k_impl_readSat_2]; exact h)

/-- impl.copyLists -/
def F_impl_copyLists (P : Program) (v0 : Value) (w : World) (R : Value → World → Prop) : Prop :=
  vbi P .len [T_LLint] T_int [v0] w fun t7 w_1 =>
  vloop [(.slice none 0 0), (.int .i64 0)] w_1 fun C u _ w_2 =>
    vbin P .lss T_int false (sl 1 u) t7 w_2 fun t9 w_3 =>
    vif t9 (
      viaddr P T_LLint v0 (sl 1 u) w_3 fun t10 w_4 =>
      vload P T_Lint t10 w_4 fun t11 w_5 =>
      vcall P n_slices_Clone_Lint_int #[t11] w_5 fun t14 w_6 =>
      vbuildS P T_LLint 1 [(0, t14)] w_6 fun t15 w_7 =>
      vbi P .append [T_LLint, T_LLint] T_LLint [(sl 0 u), t15] w_7 fun t16 w_8 =>
      vbin P .add T_int true (sl 1 u) (.int .i64 1) w_8 fun t17 w_9 =>
      C [t16, t17] w_9) (
      R (sl 0 u) w_3)
def A_impl_copyLists : Ann := { ord := [], loops := [(3, [3, 8])], cuts := [] }
theorem k_impl_copyLists (v0 : Value) (w : World) (R : Value → World → Prop) : vc PP A_impl_copyLists ((Try.f48.body).getD .skip) (retF PP Try.f48.results.toList R) (nthV [v0]) w = F_impl_copyLists PP v0 w R := by kernel_rfl
theorem c_impl_copyLists {v0 : Value} {w : World} {R : Value → World → Prop} (h : F_impl_copyLists PP v0 w R) : vcall PP n_impl_copyLists #[v0] w R :=
  call_of_vc (T := A_impl_copyLists) (c := (Try.f48.body).getD .skip) (n := 19) mixed Try.func48 rfl rfl (by kernel_rfl) (by kernel_rfl) rfl (by rw [k_impl_copyLists]; exact h)

/-- (*impl.trail).implies -/
def F_impl_trail_implies (P : Program) (v0 v1 v2 : Value) (w : World) (R : Value → World → Prop) : Prop :=
  vbox P T_P_impl_trail v0 w fun t3 w_1 =>
  vbox P T_int v2 w_1 fun t5 w_2 =>
  vdraw w_2 fun w_3 =>
  vload P T_P_impl_trail t3 w_3 fun t8 w_4 => w_4 = w_3 ∧
  vnil P t8 w_3 fun t9 w_5 => w_5 = w_3 ∧
  vfaddr P T_impl_trail t9 0 w_3 fun t10 w_6 => w_6 = w_3 ∧
  vload P T_Lint t10 w_3 fun t11 w_7 => w_7 = w_3 ∧
  vload P T_int t5 w_3 fun t12 w_8 => w_8 = w_3 ∧
  viaddr P T_Lint t11 t12 w_3 fun t13 w_9 => w_9 = w_3 ∧
  vload P T_int t13 w_3 fun t14 w_10 => w_10 = w_3 ∧
  vcall P n_slices_Contains_Lint_int #[v1, t14] w_3 fun t15 w_11 =>
  vif t15 (
    vmkF P (.func n_impl_trail_implies_1) [] [t3, t5] w_11 fun t18 w_12 => w_12 = w_11 ∧
    vcall P n_slices_ContainsFunc_Lint_int #[v1, t18] w_11 fun t19 w_13 =>
    vun P .not t19 w_13 fun t20 w_14 => w_14 = w_13 ∧
    R t20 w_13) (
    R (.bool false) w_11)
def A_impl_trail_implies : Ann := { ord := [(1, [0, 1, 2, 3, 4, 5, 6, 7, 8, 9, 10, 11, 12, 13, 14, 15], [(0, [8, 9, 10, 11, 12, 13, 14, 15]), (1, [2, 3, 4, 6, 7, 8, 9, 10, 11, 12, 13, 14, 15]), (2, [3, 4, 6, 7, 8, 9, 10, 11, 12, 13, 14, 15]), (3, [4, 6, 7, 8, 9, 10, 11, 12, 13, 14, 15]), (4, [6, 7, 8, 9, 10, 11, 12, 13, 14, 15]), (5, [6, 7, 8, 9, 10, 11, 12, 13, 14, 15]), (6, [7, 8, 9, 10, 11, 12, 13, 14, 15]), (7, [8, 9, 10, 11, 12, 13, 14, 15]), (8, [9, 10, 11, 12, 13, 14, 15]), (9, [10, 11, 12, 13, 14, 15]), (10, [12, 13, 14, 15]), (11, [12, 13, 14, 15]), (12, [13, 14, 15]), (13, [14, 15]), (14, [15])])], loops := [], cuts := [] }
theorem k_impl_trail_implies (v0 v1 v2 : Value) (w : World) (R : Value → World → Prop) : vc PP A_impl_trail_implies ((Try.f49.body).getD .skip) (retF PP Try.f49.results.toList R) (nthV [v0, v1, v2]) w = F_impl_trail_implies PP v0 v1 v2 w R := by kernel_rfl
theorem c_impl_trail_implies {v0 v1 v2 : Value} {w : World} {R : Value → World → Prop} (h : F_impl_trail_implies PP v0 v1 v2 w R) : vcall PP n_impl_trail_implies #[v0, v1, v2] w R :=
  call_of_vc (T := A_impl_trail_implies) (c := (Try.f49.body).getD .skip) (n := 22) mixed Try.func49 rfl rfl (by kernel_rfl) (by kernel_rfl) rfl (by rw [k_impl_trail_implies]; exact h)

/-- (*impl.search).clause -/
def F_impl_search_clause (P : Program) (v0 v1 : Value) (w : World) (R : Value → World → Prop) : Prop :=
  vnil P v0 w fun t7 w_1 =>
  vfaddr P T_impl_search t7 0 w_1 fun t8 w_2 =>
  vfaddr P T_impl_Cnf t8 1 w_2 fun t9 w_3 =>
  vload P T_LLint t9 w_3 fun t10 w_4 =>
  vbi P .len [T_LLint] T_int [t10] w_4 fun t11 w_5 =>
  vbin P .lss T_int false v1 t11 w_5 fun t12 w_6 =>
  vif t12 (
    vnil P v0 w_6 fun t14 w_7 =>
    vfaddr P T_impl_search t14 0 w_7 fun t15 w_8 =>
    vfaddr P T_impl_Cnf t15 1 w_8 fun t16 w_9 =>
    vload P T_LLint t16 w_9 fun t17 w_10 =>
    viaddr P T_LLint t17 v1 w_10 fun t19 w_11 =>
    vload P T_Lint t19 w_11 fun t20 w_12 =>
    R t20 w_12) (
    vdraw w_6 fun w_13 =>
    vnil P v0 w_13 fun t22 w_14 => w_14 = w_13 ∧
    vfaddr P T_impl_search t22 3 w_13 fun t23 w_15 => w_15 = w_13 ∧
    vload P T_LLint t23 w_13 fun t24 w_16 => w_16 = w_13 ∧
    vnil P v0 w_13 fun t27 w_17 => w_17 = w_13 ∧
    vfaddr P T_impl_search t27 0 w_13 fun t28 w_18 => w_18 = w_13 ∧
    vfaddr P T_impl_Cnf t28 1 w_13 fun t29 w_19 => w_19 = w_13 ∧
    vload P T_LLint t29 w_13 fun t30 w_20 => w_20 = w_13 ∧
    vbi P .len [T_LLint] T_int [t30] w_13 fun t31 w_21 => w_21 = w_13 ∧
    vbin P .sub T_int false v1 t31 w_13 fun t32 w_22 => w_22 = w_13 ∧
    viaddr P T_LLint t24 t32 w_13 fun t33 w_23 => w_23 = w_13 ∧
    vload P T_Lint t33 w_13 fun t34 w_24 => w_24 = w_13 ∧
    R t34 w_13)
def A_impl_search_clause : Ann := { ord := [(3, [0, 1, 2, 3, 4, 5, 6, 7, 8, 9, 10, 11, 12, 13, 14], [(0, [1, 2, 3, 12, 13, 14]), (1, [2, 3, 12, 13, 14]), (2, [3, 12, 13, 14]), (3, [12, 13, 14]), (4, [11, 12, 13, 14]), (5, [6, 7, 8, 9, 10, 11, 12, 13, 14]), (6, [7, 8, 9, 10, 11, 12, 13, 14]), (7, [8, 9, 10, 11, 12, 13, 14]), (8, [9, 10, 11, 12, 13, 14]), (9, [10, 11, 12, 13, 14]), (10, [11, 12, 13, 14]), (11, [12, 13, 14]), (12, [13, 14]), (13, [14])])], loops := [], cuts := [] }
theorem k_impl_search_clause (v0 v1 : Value) (w : World) (R : Value → World → Prop) : vc PP A_impl_search_clause ((Try.f50.body).getD .skip) (retF PP Try.f50.results.toList R) (nthV [v0, v1]) w = F_impl_search_clause PP v0 v1 w R := by kernel_rfl
theorem c_impl_search_clause {v0 v1 : Value} {w : World} {R : Value → World → Prop} (h : F_impl_search_clause PP v0 v1 w R) : vcall PP n_impl_search_clause #[v0, v1] w R :=
  call_of_vc (T := A_impl_search_clause) (c := (Try.f50.body).getD .skip) (n := 35) mixed Try.func50 rfl rfl (by kernel_rfl) (by kernel_rfl) rfl (by rw [k_impl_search_clause]; exact h)

/-- (*impl.trail).next -/
def F_impl_trail_next (P : Program) (v0 v1 : Value) (w : World) (R : Value → World → Prop) : Prop :=
  vbi P .len [T_LLLint] T_int [v1] w fun t16 w_1 =>
  vloop [(.int .i64 (-1)), (.int .i64 (-1)), (.int .i64 0), (.int .i64 0), (.int .i64 0)] w_1 fun C u _ w_2 =>
    vbin P .lss T_int false (sl 4 u) t16 w_2 fun t18 w_3 =>
    vif t18 (
      viaddr P T_LLLint v1 (sl 4 u) w_3 fun t19 w_4 =>
      vload P T_LLint t19 w_4 fun t20 w_5 =>
      vbi P .len [T_LLint] T_int [t20] w_5 fun t22 w_6 =>
      vloop [(sl 0 u), (sl 1 u), (sl 2 u), (sl 3 u), (.int .i64 0)] w_6 fun C_1 u_1 _ w_7 =>
        vbin P .lss T_int false (sl 4 u_1) t22 w_7 fun t24 w_8 =>
        vif t24 (
          viaddr P T_LLint t20 (sl 4 u_1) w_8 fun t25 w_9 =>
          vload P T_Lint t25 w_9 fun t26 w_10 =>
          vcall P n_impl_trail_look #[v0, t26] w_10 fun t30 w_11 =>
          vextract P t30 0 w_11 fun t31 w_12 =>
          vextract P t30 1 w_12 fun t32 w_13 =>
          vextract P t30 2 w_13 fun t33 w_14 =>
          vif t31 (
            vbin P .add T_int true (sl 3 u_1) (.int .i64 1) w_14 fun t52 w_15 =>
            vbin P .add T_int true (sl 4 u_1) (.int .i64 1) w_15 fun t53 w_16 =>
            C_1 [(sl 0 u_1), (sl 1 u_1), (sl 2 u_1), t52, t53] w_16) (
            vbin P .eql T_int true t32 (.int .i64 0) w_14 fun t38 w_17 =>
            vif t38 (
              R (.tuple #[(sl 3 u_1), (sl 1 u_1), (sl 2 u_1)]) w_17) (
              vbin P .eql T_int true t32 (.int .i64 1) w_17 fun t44 w_18 =>
              vif t44 (
                vbin P .lss T_int true (sl 1 u_1) (.int .i64 0) w_18 fun t47 w_19 =>
                vif t47 (
                  vbin P .add T_int true (sl 3 u_1) (.int .i64 1) w_19 fun t52_1 w_20 =>
                  vbin P .add T_int true (sl 4 u_1) (.int .i64 1) w_20 fun t53_1 w_21 =>
                  C_1 [(sl 0 u_1), (sl 3 u_1), t33, t52_1, t53_1] w_21) (
                  vbin P .add T_int true (sl 3 u_1) (.int .i64 1) w_19 fun t52_2 w_22 =>
                  vbin P .add T_int true (sl 4 u_1) (.int .i64 1) w_22 fun t53_2 w_23 =>
                  C_1 [(sl 0 u_1), (sl 1 u_1), (sl 2 u_1), t52_2, t53_2] w_23)) (
                vbin P .add T_int true (sl 3 u_1) (.int .i64 1) w_18 fun t52_3 w_24 =>
                vbin P .add T_int true (sl 4 u_1) (.int .i64 1) w_24 fun t53_3 w_25 =>
                C_1 [(sl 0 u_1), (sl 1 u_1), (sl 2 u_1), t52_3, t53_3] w_25)))) (
          vbin P .add T_int true (sl 4 u) (.int .i64 1) w_8 fun t54 w_26 =>
          C [(sl 0 u_1), (sl 1 u_1), (sl 2 u_1), (sl 3 u_1), t54] w_26)) (
      R (.tuple #[(sl 0 u), (sl 1 u), (sl 2 u)]) w_3)
def A_impl_trail_next : Ann := { ord := [], loops := [(4, [4, 5, 6, 7, 17]), (7, [4, 5, 6, 7, 23])], cuts := [] }
theorem k_impl_trail_next (v0 v1 : Value) (w : World) (R : Value → World → Prop) : vc PP A_impl_trail_next ((Try.f51.body).getD .skip) (retF PP Try.f51.results.toList R) (nthV [v0, v1]) w = F_impl_trail_next PP v0 v1 w R := by kernel_rfl
theorem c_impl_trail_next {v0 v1 : Value} {w : World} {R : Value → World → Prop} (h : F_impl_trail_next PP v0 v1 w R) : vcall PP n_impl_trail_next #[v0, v1] w R :=
  call_of_vc (T := A_impl_trail_next) (c := (Try.f51.body).getD .skip) (n := 58) mixed Try.func51 rfl rfl (by kernel_rfl) (by kernel_rfl) rfl (by rw [k_impl_trail_next]; exact h)

/-- (*impl.search).resolve -/
def F_impl_search_resolve (P : Program) (v0 v1 : Value) (w : World) (R : Value → World → Prop) : Prop :=
  vbox P T_P_impl_search v0 w fun t2 w_1 =>
  vmkF P (.func n_impl_search_resolve_1) [] [t2] w_1 fun t7 w_2 =>
  vcall P n_slices_ContainsFunc_Lint_int #[v1, t7] w_2 fun t8 w_3 =>
  vun P .not t8 w_3 fun t9 w_4 =>
  vif t9 (
    vload P T_P_impl_search t2 w_4 fun t10 w_5 =>
    vnil P t10 w_5 fun t11 w_6 =>
    vfaddr P T_impl_search t11 4 w_6 fun t12 w_7 =>
    vstore P T_int t12 (.int .i64 2) w_7 fun _ w_8 =>
    R (.tuple #[]) w_8) (
    vload P T_P_impl_search t2 w_4 fun t13 w_9 =>
    vnil P t13 w_9 fun t14 w_10 =>
    vfaddr P T_impl_search t14 3 w_10 fun t15 w_11 =>
    vload P T_LLint t15 w_11 fun t16 w_12 =>
    vbi P .len [T_LLint] T_int [t16] w_12 fun t17 w_13 =>
    vbin P .eql T_int true t17 (.int .i64 300) w_13 fun t18 w_14 =>
    vif t18 (
      vload P T_P_impl_search t2 w_14 fun t19 w_15 =>
      vnil P t19 w_15 fun t20 w_16 =>
      vfaddr P T_impl_search t20 4 w_16 fun t21 w_17 =>
      vstore P T_int t21 (.int .i64 3) w_17 fun _ w_18 =>
      R (.tuple #[]) w_18) (
      vload P T_P_impl_search t2 w_14 fun t23 w_19 =>
      vcall P n_impl_search_learn #[t23, v1] w_19 fun t25 w_20 =>
      vextract P t25 0 w_20 fun t26 w_21 =>
      vextract P t25 1 w_21 fun t27 w_22 =>
      vdraw w_22 fun w_23 =>
      vload P T_P_impl_search t2 w_23 fun t28 w_24 => w_24 = w_23 ∧
      vload P T_P_impl_search t2 w_23 fun t29 w_25 => w_25 = w_23 ∧
      vnil P t29 w_23 fun t30 w_26 => w_26 = w_23 ∧
      vfaddr P T_impl_search t30 3 w_23 fun t31 w_27 => w_27 = w_23 ∧
      vload P T_LLint t31 w_23 fun t32 w_28 => w_28 = w_23 ∧
      vbuildS P T_LLint 1 [(0, t26)] w_23 fun t34 w_29 => (vload P T_LLint t31 w_29 fun v x => v = t32 ∧ x = w_29) ∧ (vfaddr P T_impl_search t30 3 w_29 fun v x => v = t31 ∧ x = w_29) ∧ (vnil P t29 w_29 fun v x => v = t30 ∧ x = w_29) ∧ (vload P T_P_impl_search t2 w_29 fun v x => v = t29 ∧ x = w_29) ∧ (vload P T_P_impl_search t2 w_29 fun v x => v = t28 ∧ x = w_29) ∧
      vbi P .append [T_LLint, T_LLint] T_LLint [t32, t34] w_29 fun t35 w_30 => (vload P T_P_impl_search t2 w_30 fun v x => v = t28 ∧ x = w_30) ∧
      vnil P t28 w_30 fun t36 w_31 => w_31 = w_30 ∧
      vfaddr P T_impl_search t36 3 w_30 fun t37 w_32 => w_32 = w_30 ∧
      vstore P T_LLint t37 t35 w_30 fun _ w_33 =>
      vload P T_P_impl_search t2 w_33 fun t38 w_34 =>
      vcall P n_impl_search_goBack #[t38, t27] w_34 fun _ w_35 =>
      R (.tuple #[]) w_35))
def A_impl_search_resolve : Ann := { ord := [(6, [0, 1, 2, 3, 4, 5, 6, 7, 8, 9, 10], [(0, [8, 9, 10]), (1, [2, 3, 4, 7, 8, 9, 10]), (2, [3, 4, 7, 8, 9, 10]), (3, [4, 7, 8, 9, 10]), (4, [7, 8, 9, 10]), (5, [6, 7, 8, 9, 10]), (6, [7, 8, 9, 10]), (7, [8, 9, 10]), (8, [9, 10]), (9, [10])])], loops := [], cuts := [] }
theorem k_impl_search_resolve (v0 v1 : Value) (w : World) (R : Value → World → Prop) : vc PP A_impl_search_resolve ((Try.f52.body).getD .skip) (retF PP Try.f52.results.toList R) (nthV [v0, v1]) w = F_impl_search_resolve PP v0 v1 w R := by kernel_rfl
theorem c_impl_search_resolve {v0 v1 : Value} {w : World} {R : Value → World → Prop} (h : F_impl_search_resolve PP v0 v1 w R) : vcall PP n_impl_search_resolve #[v0, v1] w R :=
  call_of_vc (T := A_impl_search_resolve) (c := (Try.f52.body).getD .skip) (n := 41) mixed Try.func52 rfl rfl (by kernel_rfl) (by kernel_rfl) rfl (by rw [k_impl_search_resolve]; exact h)

/-- (*impl.search).assign -/
def F_impl_search_assign (P : Program) (v0 v1 v2 : Value) (w : World) (R : Value → World → Prop) : Prop :=
  vnil P v0 w fun t7 w_1 =>
  vfaddr P T_impl_search t7 1 w_1 fun t8 w_2 =>
  vload P T_P_impl_trail t8 w_2 fun t9 w_3 =>
  vbin P .eql T_int true v2 (.int .i64 (-1)) w_3 fun t12 w_4 =>
  vcall P n_impl_trail_push #[t9, v1, t12] w_4 fun _ w_5 =>
  vnil P v0 w_5 fun t16 w_6 =>
  vfaddr P T_impl_search t16 2 w_6 fun t17 w_7 =>
  vload P T_Lint t17 w_7 fun t18 w_8 =>
  vbuildS P T_Lint 1 [(0, v2)] w_8 fun t20 w_9 =>
  vbi P .append [T_Lint, T_Lint] T_Lint [t18, t20] w_9 fun t21 w_10 =>
  vnil P v0 w_10 fun t22 w_11 =>
  vfaddr P T_impl_search t22 2 w_11 fun t23 w_12 =>
  vstore P T_Lint t23 t21 w_12 fun _ w_13 =>
  R (.tuple #[]) w_13
def A_impl_search_assign : Ann := { ord := [], loops := [], cuts := [] }
theorem k_impl_search_assign (v0 v1 v2 : Value) (w : World) (R : Value → World → Prop) : vc PP A_impl_search_assign ((Try.f53.body).getD .skip) (retF PP Try.f53.results.toList R) (nthV [v0, v1, v2]) w = F_impl_search_assign PP v0 v1 v2 w R := by kernel_rfl
theorem c_impl_search_assign {v0 v1 v2 : Value} {w : World} {R : Value → World → Prop} (h : F_impl_search_assign PP v0 v1 v2 w R) : vcall PP n_impl_search_assign #[v0, v1, v2] w R :=
  call_of_vc (T := A_impl_search_assign) (c := (Try.f53.body).getD .skip) (n := 24) mixed Try.func53 rfl rfl (by kernel_rfl) (by kernel_rfl) rfl (by rw [k_impl_search_assign]; exact h)

/-- (*impl.trail).assigned -/
def F_impl_trail_assigned (P : Program) (v0 v1 : Value) (w : World) (R : Value → World → Prop) : Prop :=
  vdraw w fun w_1 =>
  vnil P v0 w_1 fun t6 w_2 => w_2 = w_1 ∧
  vfaddr P T_impl_trail t6 1 w_1 fun t7 w_3 => w_3 = w_1 ∧
  vload P T_Lint t7 w_1 fun t8 w_4 => w_4 = w_1 ∧
  vcall P n_impl_literal_variable #[v1] w_1 fun t10 w_5 => (vload P T_Lint t7 w_5 fun v x => v = t8 ∧ x = w_5) ∧ (vfaddr P T_impl_trail t6 1 w_5 fun v x => v = t7 ∧ x = w_5) ∧ (vnil P v0 w_5 fun v x => v = t6 ∧ x = w_5) ∧
  viaddr P T_Lint t8 t10 w_5 fun t11 w_6 => w_6 = w_5 ∧
  vload P T_int t11 w_5 fun t12 w_7 => w_7 = w_5 ∧
  vbin P .neq T_int true t12 (.int .i64 0) w_5 fun t13 w_8 => w_8 = w_5 ∧
  R t13 w_5
def A_impl_trail_assigned : Ann := { ord := [(1, [0, 1, 2, 3, 4, 5, 6, 7, 8, 9], [(0, [1, 2, 3, 6, 7, 8, 9]), (1, [2, 3, 6, 7, 8, 9]), (2, [3, 6, 7, 8, 9]), (3, [6, 7, 8, 9]), (4, [5, 6, 7, 8, 9]), (5, [6, 7, 8, 9]), (6, [7, 8, 9]), (7, [8, 9]), (8, [9])])], loops := [], cuts := [] }
theorem k_impl_trail_assigned (v0 v1 : Value) (w : World) (R : Value → World → Prop) : vc PP A_impl_trail_assigned ((Try.f54.body).getD .skip) (retF PP Try.f54.results.toList R) (nthV [v0, v1]) w = F_impl_trail_assigned PP v0 v1 w R := by kernel_rfl
theorem c_impl_trail_assigned {v0 v1 : Value} {w : World} {R : Value → World → Prop} (h : F_impl_trail_assigned PP v0 v1 w R) : vcall PP n_impl_trail_assigned #[v0, v1] w R :=
  call_of_vc (T := A_impl_trail_assigned) (c := (Try.f54.body).getD .skip) (n := 14) mixed Try.func54 rfl rfl (by kernel_rfl) (by kernel_rfl) rfl (by rw [k_impl_trail_assigned]; exact h)

/-- spec.l4Abs -/
def F_spec_l4Abs (P : Program) (v0 : Value) (w : World) (R : Value → World → Prop) : Prop :=
  vbin P .lss T_int true v0 (.int .i64 0) w fun t4 w_1 =>
  vif t4 (
    vun P .neg v0 w_1 fun t6 w_2 =>
    R t6 w_2) (
    R v0 w_1)
def A_spec_l4Abs : Ann := { ord := [], loops := [], cuts := [] }
theorem k_spec_l4Abs (v0 : Value) (w : World) (R : Value → World → Prop) : vc PP A_spec_l4Abs ((Try.f55.body).getD .skip) (retF PP Try.f55.results.toList R) (nthV [v0]) w = F_spec_l4Abs PP v0 w R := by kernel_rfl
theorem c_spec_l4Abs {v0 : Value} {w : World} {R : Value → World → Prop} (h : F_spec_l4Abs PP v0 w R) : vcall PP n_spec_l4Abs #[v0] w R :=
  call_of_vc (T := A_spec_l4Abs) (c := (Try.f55.body).getD .skip) (n := 8) mixed Try.func55 rfl rfl (by kernel_rfl) (by kernel_rfl) rfl (by rw [k_spec_l4Abs]; exact h)

/-- spec.l5Vals -/
def F_spec_l5Vals (P : Program) (v0 v1 : Value) (w : World) (R : Value → World → Prop) : Prop :=
  vbox P T_impl_Cnf v0 w fun t2 w_1 =>
  vfaddr P T_impl_Cnf t2 0 w_1 fun t7 w_2 =>
  vload P T_int t7 w_2 fun t8 w_3 =>
  vbin P .add T_int true t8 (.int .i64 1) w_3 fun t9 w_4 =>
  vmkS P T_Lint t9 t9 w_4 fun t10 w_5 =>
  vloop [(.int .i64 0)] w_5 fun C u _ w_6 =>
    vbi P .len [T_Lint] T_int [v1] w_6 fun t13 w_7 =>
    vbin P .lss T_int false (sl 0 u) t13 w_7 fun t14 w_8 =>
    vif t14 (
      viaddr P T_Lint v1 (sl 0 u) w_8 fun t19 w_9 =>
      vload P T_int t19 w_9 fun t20 w_10 =>
      vbin P .gtr T_int true t20 (.int .i64 0) w_10 fun t21 w_11 =>
      vif t21 (
        viaddr P T_Lint v1 (sl 0 u) w_11 fun t25 w_12 =>
        vload P T_int t25 w_12 fun t26 w_13 =>
        viaddr P T_Lint t10 t26 w_13 fun t27 w_14 =>
        vstore P T_int t27 (.int .i64 1) w_14 fun _ w_15 =>
        vbin P .add T_int true (sl 0 u) (.int .i64 1) w_15 fun t16 w_16 =>
        C [t16] w_16) (
        viaddr P T_Lint v1 (sl 0 u) w_11 fun t31 w_17 =>
        vload P T_int t31 w_17 fun t32 w_18 =>
        vun P .neg t32 w_18 fun t33 w_19 =>
        viaddr P T_Lint t10 t33 w_19 fun t34 w_20 =>
        vstore P T_int t34 (.int .i64 (-1)) w_20 fun _ w_21 =>
        vbin P .add T_int true (sl 0 u) (.int .i64 1) w_21 fun t16_1 w_22 =>
        C [t16_1] w_22)) (
      R t10 w_8)
def A_spec_l5Vals : Ann := { ord := [], loops := [(3, [6])], cuts := [] }
theorem k_spec_l5Vals (v0 v1 : Value) (w : World) (R : Value → World → Prop) : vc PP A_spec_l5Vals ((Try.f56.body).getD .skip) (retF PP Try.f56.results.toList R) (nthV [v0, v1]) w = F_spec_l5Vals PP v0 v1 w R := by kernel_rfl
theorem c_spec_l5Vals {v0 v1 : Value} {w : World} {R : Value → World → Prop} (h : F_spec_l5Vals PP v0 v1 w R) : vcall PP n_spec_l5Vals #[v0, v1] w R :=
  call_of_vc (T := A_spec_l5Vals) (c := (Try.f56.body).getD .skip) (n := 36) mixed Try.func56 rfl rfl (by kernel_rfl) (by kernel_rfl) rfl (by rw [k_spec_l5Vals]; exact h)

/-- spec.l5Find -/
def F_spec_l5Find (P : Program) (v0 v1 v2 : Value) (w : World) (R : Value → World → Prop) : Prop :=
  vbox P T_impl_Cnf v0 w fun t3 w_1 =>
  vfaddr P T_impl_Cnf t3 1 w_1 fun t16 w_2 =>
  vload P T_LLint t16 w_2 fun t17 w_3 =>
  vbi P .len [T_LLint] T_int [t17] w_3 fun t18 w_4 =>
  vloop [(.int .i64 (-1)), (.int .i64 0), (.int .i64 0)] w_4 fun C u _ w_5 =>
    vbi P .len [T_LLint] T_int [v1] w_5 fun t22 w_6 =>
    vbin P .add T_int false t18 t22 w_6 fun t23 w_7 =>
    vbin P .lss T_int false (sl 2 u) t23 w_7 fun t24 w_8 =>
    vif t24 (
      vbuildS P T_Lint 0 [] w_8 fun _ w_9 =>
      vjoin (fun J =>
        vbin P .lss T_int false (sl 2 u) t18 w_9 fun t30 w_11 =>
        vif t30 (
          vfaddr P T_impl_Cnf t3 1 w_11 fun t31 w_12 =>
          vload P T_LLint t31 w_12 fun t32 w_13 =>
          viaddr P T_LLint t32 (sl 2 u) w_13 fun t34 w_14 =>
          vload P T_Lint t34 w_14 fun t35 w_15 =>
          J [t35] w_15) (
          vbin P .sub T_int false (sl 2 u) t18 w_11 fun t39 w_16 =>
          viaddr P T_LLint v1 t39 w_16 fun t40 w_17 =>
          vload P T_Lint t40 w_17 fun t41 w_18 =>
          J [t41] w_18)) (fun u_1 _ w_10 =>
        vcall P n_spec_l5Look #[v2, (sl 0 u_1)] w_10 fun t45 w_19 =>
        vextract P t45 0 w_19 fun t46 w_20 =>
        vextract P t45 1 w_20 fun t47 w_21 =>
        vbin P .eql T_int true t46 (.int .i64 0) w_21 fun t49 w_22 =>
        vif t49 (
          R (.tuple #[(sl 2 u), (.int .i64 (-1)), (.int .i64 0)]) w_22) (
          vbin P .eql T_int true t46 (.int .i64 1) w_22 fun t52 w_23 =>
          vif t52 (
            vbin P .lss T_int true (sl 0 u) (.int .i64 0) w_23 fun t55 w_24 =>
            vif t55 (
              vbin P .add T_int true (sl 2 u) (.int .i64 1) w_24 fun t26 w_25 =>
              C [(sl 2 u), t47, t26] w_25) (
              vbin P .add T_int true (sl 2 u) (.int .i64 1) w_24 fun t26_1 w_26 =>
              C [(sl 0 u), (sl 1 u), t26_1] w_26)) (
            vbin P .add T_int true (sl 2 u) (.int .i64 1) w_23 fun t26_2 w_27 =>
            C [(sl 0 u), (sl 1 u), t26_2] w_27)))) (
      R (.tuple #[(.int .i64 (-1)), (sl 0 u), (sl 1 u)]) w_8)
def A_spec_l5Find : Ann := { ord := [], loops := [(5, [9, 10, 12])], cuts := [(36875, [13])] }
theorem k_spec_l5Find (v0 v1 v2 : Value) (w : World) (R : Value → World → Prop) : vc PP A_spec_l5Find ((Try.f57.body).getD .skip) (retF PP Try.f57.results.toList R) (nthV [v0, v1, v2]) w = F_spec_l5Find PP v0 v1 v2 w R := by kernel_rfl
theorem c_spec_l5Find {v0 v1 v2 : Value} {w : World} {R : Value → World → Prop} (h : F_spec_l5Find PP v0 v1 v2 w R) : vcall PP n_spec_l5Find #[v0, v1, v2] w R :=
  call_of_vc (T := A_spec_l5Find) (c := (Try.f57.body).getD .skip) (n := 61) mixed Try.func57 rfl rfl (by kernel_rfl) (by kernel_rfl) rfl (by rw [k_spec_l5Find]; exact h)

/-- spec.l5Clash -/
def F_spec_l5Clash (P : Program) (v0 v1 v2 : Value) (w : World) (R : Value → World → Prop) : Prop :=
  vbox P T_impl_Cnf v0 w fun t3 w_1 =>
  vbox P T_impl_Sat v1 w_1 fun t4 w_2 =>
  valloc P T_impl_Sat w_2 fun t6 w_3 =>
  vload P T_impl_Cnf t3 w_3 fun t10 w_4 =>
  vload P T_impl_Sat t4 w_4 fun t11 w_5 =>
  vcall P n_spec_l5Levels #[t10, t11] w_5 fun t12 w_6 =>
  vcall P n_spec_l5Top #[t12, v2] w_6 fun t16 w_7 =>
  vextract P t16 0 w_7 fun t17 w_8 =>
  vextract P t16 1 w_8 fun _ w_9 =>
  vbin P .eql T_int true t17 (.int .i64 0) w_9 fun t20 w_10 =>
  vif t20 (
    vfaddr P T_impl_Sat t4 3 w_10 fun t21 w_11 =>
    vstore P T_int t21 (.int .i64 2) w_11 fun _ w_12 =>
    vload P T_impl_Sat t4 w_12 fun t22 w_13 =>
    vstore P T_impl_Sat t6 t22 w_13 fun _ w_14 =>
    vlv P T_impl_Sat t6 w_14 fun r6 w_15 =>
    R r6 w_15) (
    vfaddr P T_impl_Sat t4 2 w_10 fun t23 w_16 =>
    vload P T_LLint t23 w_16 fun t24 w_17 =>
    vbi P .len [T_LLint] T_int [t24] w_17 fun t25 w_18 =>
    vbin P .geq T_int true t25 (.int .i64 300) w_18 fun t26 w_19 =>
    vif t26 (
      vfaddr P T_impl_Sat t4 3 w_19 fun t27 w_20 =>
      vstore P T_int t27 (.int .i64 3) w_20 fun _ w_21 =>
      vload P T_impl_Sat t4 w_21 fun t28 w_22 =>
      vstore P T_impl_Sat t6 t28 w_22 fun _ w_23 =>
      vlv P T_impl_Sat t6 w_23 fun r6_1 w_24 =>
      R r6_1 w_24) (
      vdraw w_19 fun w_25 =>
      vload P T_impl_Cnf t3 w_25 fun t29 w_26 => w_26 = w_25 ∧
      vload P T_impl_Sat t4 w_25 fun t30 w_27 => w_27 = w_25 ∧
      vbuildS P T_Lint 0 [] w_25 fun t32 w_28 => (vload P T_impl_Sat t4 w_28 fun v x => v = t30 ∧ x = w_28) ∧ (vload P T_impl_Cnf t3 w_28 fun v x => v = t29 ∧ x = w_28) ∧
      vbi P .append [T_Lint, T_Lint] T_Lint [t32, v2] w_28 fun t34 w_29 => (vload P T_impl_Sat t4 w_29 fun v x => v = t30 ∧ x = w_29) ∧ (vload P T_impl_Cnf t3 w_29 fun v x => v = t29 ∧ x = w_29) ∧
      vcall P n_spec_l5Learn #[t29, t30, t12, t34] w_29 fun t35 w_30 =>
      vbuildS P T_LLint 0 [] w_30 fun t36 w_31 =>
      vfaddr P T_impl_Sat t4 2 w_31 fun t37 w_32 =>
      vload P T_LLint t37 w_32 fun t38 w_33 =>
      vbi P .append [T_LLint, T_LLint] T_LLint [t36, t38] w_33 fun t39 w_34 =>
      vbuildS P T_LLint 1 [(0, t35)] w_34 fun t41 w_35 =>
      vbi P .append [T_LLint, T_LLint] T_LLint [t39, t41] w_35 fun t42 w_36 =>
      vfaddr P T_impl_Sat t4 2 w_36 fun t43 w_37 =>
      vstore P T_LLint t43 t42 w_37 fun _ w_38 =>
      vdraw w_38 fun w_39 =>
      vload P T_impl_Sat t4 w_39 fun t44 w_40 => w_40 = w_39 ∧
      vcall P n_spec_l5Below #[t12, t35, t17] w_39 fun t48 w_41 => (vload P T_impl_Sat t4 w_41 fun v x => v = t44 ∧ x = w_41) ∧
      vcall P n_spec_l5Back #[t44, t48] w_41 fun t49 w_42 =>
      vstore P T_impl_Sat t6 t49 w_42 fun _ w_43 =>
      vlv P T_impl_Sat t6 w_43 fun r6_2 w_44 =>
      R r6_2 w_44))
def A_spec_l5Clash : Ann := { ord := [(9, [0, 1, 2, 4, 3, 5, 6, 7], [(0, [6, 7]), (1, [6, 7]), (2, [6, 7]), (4, [5, 6, 7]), (3, [5, 6, 7]), (5, [6, 7]), (6, [7])]), (11, [0, 1, 2, 3, 4, 5, 6], [(0, [5, 6]), (1, [4, 5, 6]), (2, [4, 5, 6]), (3, [4, 5, 6]), (4, [5, 6]), (5, [6])])], loops := [], cuts := [] }
theorem k_spec_l5Clash (v0 v1 v2 : Value) (w : World) (R : Value → World → Prop) : vc PP A_spec_l5Clash ((Try.f58.body).getD .skip) (retF PP Try.f58.results.toList R) (nthV [v0, v1, v2]) w = F_spec_l5Clash PP v0 v1 v2 w R := by kernel_rfl
theorem c_spec_l5Clash {v0 v1 v2 : Value} {w : World} {R : Value → World → Prop} (h : F_spec_l5Clash PP v0 v1 v2 w R) : vcall PP n_spec_l5Clash #[v0, v1, v2] w R :=
  call_of_vc (T := A_spec_l5Clash) (c := (Try.f58.body).getD .skip) (n := 50) mixed Try.func58 rfl rfl (by kernel_rfl) (by kernel_rfl) rfl (by rw [k_spec_l5Clash]; exact h)

/-- spec.l5At -/
def F_spec_l5At (P : Program) (v0 v1 v2 : Value) (w : World) (R : Value → World → Prop) : Prop :=
  vbox P T_impl_Cnf v0 w fun t3 w_1 =>
  vbox P T_impl_Sat v1 w_1 fun t4 w_2 =>
  vfaddr P T_impl_Cnf t3 1 w_2 fun t8 w_3 =>
  vload P T_LLint t8 w_3 fun t9 w_4 =>
  vbi P .len [T_LLint] T_int [t9] w_4 fun t10 w_5 =>
  vbin P .lss T_int false v2 t10 w_5 fun t11 w_6 =>
  vif t11 (
    vfaddr P T_impl_Cnf t3 1 w_6 fun t12 w_7 =>
    vload P T_LLint t12 w_7 fun t13 w_8 =>
    viaddr P T_LLint t13 v2 w_8 fun t15 w_9 =>
    vload P T_Lint t15 w_9 fun t16 w_10 =>
    R t16 w_10) (
    vfaddr P T_impl_Sat t4 2 w_6 fun t17 w_11 =>
    vload P T_LLint t17 w_11 fun t18 w_12 =>
    vfaddr P T_impl_Cnf t3 1 w_12 fun t20 w_13 =>
    vload P T_LLint t20 w_13 fun t21 w_14 =>
    vbi P .len [T_LLint] T_int [t21] w_14 fun t22 w_15 =>
    vbin P .sub T_int false v2 t22 w_15 fun t23 w_16 =>
    viaddr P T_LLint t18 t23 w_16 fun t24 w_17 =>
    vload P T_Lint t24 w_17 fun t25 w_18 =>
    R t25 w_18)
def A_spec_l5At : Ann := { ord := [], loops := [], cuts := [] }
theorem k_spec_l5At (v0 v1 v2 : Value) (w : World) (R : Value → World → Prop) : vc PP A_spec_l5At ((Try.f59.body).getD .skip) (retF PP Try.f59.results.toList R) (nthV [v0, v1, v2]) w = F_spec_l5At PP v0 v1 v2 w R := by kernel_rfl
theorem c_spec_l5At {v0 v1 v2 : Value} {w : World} {R : Value → World → Prop} (h : F_spec_l5At PP v0 v1 v2 w R) : vcall PP n_spec_l5At #[v0, v1, v2] w R :=
  call_of_vc (T := A_spec_l5At) (c := (Try.f59.body).getD .skip) (n := 26) mixed Try.func59 rfl rfl (by kernel_rfl) (by kernel_rfl) rfl (by rw [k_spec_l5At]; exact h)

/-- (*impl.trail).push -/
def F_impl_trail_push (P : Program) (v0 v1 v2 : Value) (w : World) (R : Value → World → Prop) : Prop :=
  vjoin (fun J =>
    vnil P v0 w fun t8 w_2 =>
    vfaddr P T_impl_trail t8 2 w_2 fun t9 w_3 =>
    vload P T_Lint t9 w_3 fun t10 w_4 =>
    vbi P .len [T_Lint] T_int [t10] w_4 fun t11 w_5 =>
    vbin P .gtr T_int true t11 (.int .i64 0) w_5 fun t12 w_6 =>
    vif t12 (
      vdraw w_6 fun w_7 =>
      vnil P v0 w_7 fun t14 w_8 => w_8 = w_7 ∧
      vfaddr P T_impl_trail t14 2 w_7 fun t15 w_9 => w_9 = w_7 ∧
      vload P T_Lint t15 w_7 fun t16 w_10 => w_10 = w_7 ∧
      vnil P v0 w_7 fun t18 w_11 => w_11 = w_7 ∧
      vfaddr P T_impl_trail t18 2 w_7 fun t19 w_12 => w_12 = w_7 ∧
      vload P T_Lint t19 w_7 fun t20 w_13 => w_13 = w_7 ∧
      vbi P .len [T_Lint] T_int [t20] w_7 fun t21 w_14 => w_14 = w_7 ∧
      vbin P .sub T_int true t21 (.int .i64 1) w_7 fun t22 w_15 => w_15 = w_7 ∧
      viaddr P T_Lint t16 t22 w_7 fun t23 w_16 => w_16 = w_7 ∧
      vload P T_int t23 w_7 fun t24 w_17 => w_17 = w_7 ∧
      J [t24] w_7) (
      J [(.int .i64 0)] w_6)) (fun u _ w_1 =>
    vjoin (fun J_1 =>
      vif v2 (
        vbin P .add T_int true (sl 0 u) (.int .i64 1) w_1 fun t27 w_19 =>
        J_1 [t27] w_19) (
        J_1 [(sl 0 u)] w_1)) (fun u_1 _ w_18 =>
      vnil P v0 w_18 fun t30 w_20 =>
      vfaddr P T_impl_trail t30 0 w_20 fun t31 w_21 =>
      vload P T_Lint t31 w_21 fun t32 w_22 =>
      vbuildS P T_Lint 1 [(0, v1)] w_22 fun t34 w_23 =>
      vbi P .append [T_Lint, T_Lint] T_Lint [t32, t34] w_23 fun t35 w_24 =>
      vnil P v0 w_24 fun t36 w_25 =>
      vfaddr P T_impl_trail t36 0 w_25 fun t37 w_26 =>
      vstore P T_Lint t37 t35 w_26 fun _ w_27 =>
      vnil P v0 w_27 fun t40 w_28 =>
      vfaddr P T_impl_trail t40 2 w_28 fun t41 w_29 =>
      vload P T_Lint t41 w_29 fun t42 w_30 =>
      vbuildS P T_Lint 1 [(0, (sl 0 u_1))] w_30 fun t44 w_31 =>
      vbi P .append [T_Lint, T_Lint] T_Lint [t42, t44] w_31 fun t45 w_32 =>
      vnil P v0 w_32 fun t46 w_33 =>
      vfaddr P T_impl_trail t46 2 w_33 fun t47 w_34 =>
      vstore P T_Lint t47 t45 w_34 fun _ w_35 =>
      vdraw w_35 fun w_36 =>
      vnil P v0 w_36 fun t49 w_37 => w_37 = w_36 ∧
      vfaddr P T_impl_trail t49 1 w_36 fun t50 w_38 => w_38 = w_36 ∧
      vload P T_Lint t50 w_36 fun t51 w_39 => w_39 = w_36 ∧
      vnil P v0 w_36 fun t55 w_40 => w_40 = w_36 ∧
      vfaddr P T_impl_trail t55 0 w_36 fun t56 w_41 => w_41 = w_36 ∧
      vload P T_Lint t56 w_36 fun t57 w_42 => w_42 = w_36 ∧
      vbi P .len [T_Lint] T_int [t57] w_36 fun t58 w_43 => w_43 = w_36 ∧
      vcall P n_impl_literal_variable #[v1] w_36 fun t53 w_44 => (vbi P .len [T_Lint] T_int [t57] w_44 fun v x => v = t58 ∧ x = w_44) ∧ (vload P T_Lint t56 w_44 fun v x => v = t57 ∧ x = w_44) ∧ (vfaddr P T_impl_trail t55 0 w_44 fun v x => v = t56 ∧ x = w_44) ∧ (vnil P v0 w_44 fun v x => v = t55 ∧ x = w_44) ∧ (vload P T_Lint t50 w_44 fun v x => v = t51 ∧ x = w_44) ∧ (vfaddr P T_impl_trail t49 1 w_44 fun v x => v = t50 ∧ x = w_44) ∧ (vnil P v0 w_44 fun v x => v = t49 ∧ x = w_44) ∧
      viaddr P T_Lint t51 t53 w_44 fun t59 w_45 => w_45 = w_44 ∧
      vstore P T_int t59 t58 w_44 fun _ w_46 =>
      R (.tuple #[]) w_46))
def A_impl_trail_push : Ann := { ord := [(2, [0, 1, 2, 3, 4, 5, 6, 7, 8, 9, 10, 11, 12], [(0, [1, 2, 3, 10, 11, 12]), (1, [2, 3, 10, 11, 12]), (2, [3, 10, 11, 12]), (3, [10, 11, 12]), (4, [5, 6, 7, 8, 9, 10, 11, 12]), (5, [6, 7, 8, 9, 10, 11, 12]), (6, [7, 8, 9, 10, 11, 12]), (7, [8, 9, 10, 11, 12]), (8, [9, 10, 11, 12]), (9, [10, 11, 12]), (10, [11, 12]), (11, [12])]), (7, [0, 1, 2, 3, 4, 6, 7, 8, 9, 10, 5, 11, 12], [(0, [1, 2, 3, 11, 12]), (1, [2, 3, 11, 12]), (2, [3, 11, 12]), (3, [11, 12]), (4, [5, 11, 12]), (6, [7, 8, 9, 10, 11, 12]), (7, [8, 9, 10, 11, 12]), (8, [9, 10, 11, 12]), (9, [10, 11, 12]), (10, [11, 12]), (5, [11, 12]), (11, [12])])], loops := [], cuts := [(8195, [6]), (16389, [6])] }
theorem k_impl_trail_push (v0 v1 v2 : Value) (w : World) (R : Value → World → Prop) : vc PP A_impl_trail_push ((Try.f60.body).getD .skip) (retF PP Try.f60.results.toList R) (nthV [v0, v1, v2]) w = F_impl_trail_push PP v0 v1 v2 w R := by kernel_rfl
theorem c_impl_trail_push {v0 v1 v2 : Value} {w : World} {R : Value → World → Prop} (h : F_impl_trail_push PP v0 v1 v2 w R) : vcall PP n_impl_trail_push #[v0, v1, v2] w R :=
  call_of_vc (T := A_impl_trail_push) (c := (Try.f60.body).getD .skip) (n := 60) mixed Try.func60 rfl rfl (by kernel_rfl) (by kernel_rfl) rfl (by rw [k_impl_trail_push]; exact h)

/-- slices.Contains[[]int,int] -/
def F_slices_Contains_Lint_int (P : Program) (v0 v1 : Value) (w : World) (R : Value → World → Prop) : Prop :=
  vcall P n_slices_Index_Lint_int #[v0, v1] w fun t7 w_1 =>
  vbin P .geq T_int true t7 (.int .i64 0) w_1 fun t8 w_2 =>
  R t8 w_2
def A_slices_Contains_Lint_int : Ann := { ord := [], loops := [], cuts := [] }
theorem k_slices_Contains_Lint_int (v0 v1 : Value) (w : World) (R : Value → World → Prop) : vc PP A_slices_Contains_Lint_int ((Try.f61.body).getD .skip) (retF PP Try.f61.results.toList R) (nthV [v0, v1]) w = F_slices_Contains_Lint_int PP v0 v1 w R := by kernel_rfl
theorem c_slices_Contains_Lint_int {v0 v1 : Value} {w : World} {R : Value → World → Prop} (h : F_slices_Contains_Lint_int PP v0 v1 w R) : vcall PP n_slices_Contains_Lint_int #[v0, v1] w R :=
  call_of_vc (T := A_slices_Contains_Lint_int) (c := (Try.f61.body).getD .skip) (n := 9) mixed Try.func61 rfl rfl (by kernel_rfl) (by kernel_rfl) rfl (by rw [k_slices_Contains_Lint_int]; exact h)

/-- slices.ContainsFunc[[]int,int] -/
def F_slices_ContainsFunc_Lint_int (P : Program) (v0 v1 : Value) (w : World) (R : Value → World → Prop) : Prop :=
  vcall P n_slices_IndexFunc_Lint_int #[v0, v1] w fun t7 w_1 =>
  vbin P .geq T_int true t7 (.int .i64 0) w_1 fun t8 w_2 =>
  R t8 w_2
def A_slices_ContainsFunc_Lint_int : Ann := { ord := [], loops := [], cuts := [] }
theorem k_slices_ContainsFunc_Lint_int (v0 v1 : Value) (w : World) (R : Value → World → Prop) : vc PP A_slices_ContainsFunc_Lint_int ((Try.f62.body).getD .skip) (retF PP Try.f62.results.toList R) (nthV [v0, v1]) w = F_slices_ContainsFunc_Lint_int PP v0 v1 w R := by kernel_rfl
theorem c_slices_ContainsFunc_Lint_int {v0 v1 : Value} {w : World} {R : Value → World → Prop} (h : F_slices_ContainsFunc_Lint_int PP v0 v1 w R) : vcall PP n_slices_ContainsFunc_Lint_int #[v0, v1] w R :=
  call_of_vc (T := A_slices_ContainsFunc_Lint_int) (c := (Try.f62.body).getD .skip) (n := 9) mixed Try.func62 rfl rfl (by kernel_rfl) (by kernel_rfl) rfl (by rw [k_slices_ContainsFunc_Lint_int]; exact h)

/-- (*impl.trail).implies$1 -/
def F_impl_trail_implies_1 (P : Program) (v0 v1 v2 : Value) (w : World) (R : Value → World → Prop) : Prop :=
  vdraw w fun w_1 =>
  vload P T_P_impl_trail v1 w_1 fun t6 w_2 => w_2 = w_1 ∧
  vnil P t6 w_1 fun t7 w_3 => w_3 = w_1 ∧
  vfaddr P T_impl_trail t7 0 w_1 fun t8 w_4 => w_4 = w_1 ∧
  vload P T_Lint t8 w_1 fun t9 w_5 => w_5 = w_1 ∧
  vload P T_int v2 w_1 fun t10 w_6 => w_6 = w_1 ∧
  viaddr P T_Lint t9 t10 w_1 fun t11 w_7 => w_7 = w_1 ∧
  vload P T_int t11 w_1 fun t12 w_8 => w_8 = w_1 ∧
  vbin P .neq T_int false v0 t12 w_1 fun t13 w_9 => w_9 = w_1 ∧
  vif t13 (
    vload P T_P_impl_trail v1 w_1 fun t15 w_10 => w_10 = w_1 ∧
    vcall P n_impl_trail_assigned #[t15, v0] w_1 fun t17 w_11 =>
    vun P .not t17 w_11 fun t18 w_12 => w_12 = w_11 ∧
    vif t18 (
      R (.bool true) w_11) (
      vload P T_P_impl_trail v1 w_11 fun t20 w_13 => w_13 = w_11 ∧
      vcall P n_impl_trail_isTrue #[t20, v0] w_11 fun t22 w_14 =>
      vif t22 (
        R (.bool true) w_14) (
        vload P T_P_impl_trail v1 w_14 fun t25 w_15 => w_15 = w_14 ∧
        vload P T_int v2 w_14 fun t28 w_16 => w_16 = w_14 ∧
        vcall P n_impl_trail_place #[t25, v0] w_14 fun t27 w_17 => (vload P T_int v2 w_17 fun v x => v = t28 ∧ x = w_17) ∧
        vbin P .geq T_int false t27 t28 w_17 fun t29 w_18 => w_18 = w_17 ∧
        R t29 w_17))) (
    R (.bool false) w_1)
def A_impl_trail_implies_1 : Ann := { ord := [(1, [0, 1, 2, 3, 4, 5, 6, 7, 8, 9, 10, 11, 12, 13, 14, 15, 16, 17, 18, 19, 20, 21, 23, 22, 24, 25, 26, 27], [(0, [8, 9, 10, 11, 12, 13, 14, 15, 16, 17, 18, 19, 20, 21, 23, 22, 24, 25, 26, 27]), (1, [2, 3, 4, 6, 7, 8, 9, 10, 11, 12, 13, 14, 15, 16, 17, 18, 19, 20, 21, 23, 22, 24, 25, 26, 27]), (2, [3, 4, 6, 7, 8, 9, 10, 11, 12, 13, 14, 15, 16, 17, 18, 19, 20, 21, 23, 22, 24, 25, 26, 27]), (3, [4, 6, 7, 8, 9, 10, 11, 12, 13, 14, 15, 16, 17, 18, 19, 20, 21, 23, 22, 24, 25, 26, 27]), (4, [6, 7, 8, 9, 10, 11, 12, 13, 14, 15, 16, 17, 18, 19, 20, 21, 23, 22, 24, 25, 26, 27]), (5, [6, 7, 8, 9, 10, 11, 12, 13, 14, 15, 16, 17, 18, 19, 20, 21, 23, 22, 24, 25, 26, 27]), (6, [7, 8, 9, 10, 11, 12, 13, 14, 15, 16, 17, 18, 19, 20, 21, 23, 22, 24, 25, 26, 27]), (7, [8, 9, 10, 11, 12, 13, 14, 15, 16, 17, 18, 19, 20, 21, 23, 22, 24, 25, 26, 27]), (8, [9, 10, 11, 12, 13, 14, 15, 16, 17, 18, 19, 20, 21, 23, 22, 24, 25, 26, 27]), (9, [10, 11, 12, 13, 14, 15, 16, 17, 18, 19, 20, 21, 23, 22, 24, 25, 26, 27]), (10, [12, 13, 14, 15, 16, 17, 18, 19, 20, 21, 23, 22, 24, 25, 26, 27]), (11, [12, 13, 14, 15, 16, 17, 18, 19, 20, 21, 23, 22, 24, 25, 26, 27]), (12, [13, 14, 15, 16, 17, 18, 19, 20, 21, 23, 22, 24, 25, 26, 27]), (13, [14, 15, 16, 17, 18, 19, 20, 21, 23, 22, 24, 25, 26, 27]), (14, [15, 16, 17, 18, 19, 20, 21, 23, 22, 24, 25, 26, 27]), (15, [17, 18, 19, 20, 21, 23, 22, 24, 25, 26, 27]), (16, [17, 18, 19, 20, 21, 23, 22, 24, 25, 26, 27]), (17, [18, 19, 20, 21, 23, 22, 24, 25, 26, 27]), (18, [19, 20, 21, 23, 22, 24, 25, 26, 27]), (19, [20, 21, 23, 22, 24, 25, 26, 27]), (20, [22, 24, 25, 26, 27]), (21, [22, 24, 25, 26, 27]), (23, [24, 25, 26, 27]), (22, [24, 25, 26, 27]), (24, [25, 26, 27]), (25, [26, 27]), (26, [27])])], loops := [], cuts := [] }
theorem k_impl_trail_implies_1 (v0 v1 v2 : Value) (w : World) (R : Value → World → Prop) : vc PP A_impl_trail_implies_1 ((Try.f63.body).getD .skip) (retF PP Try.f63.results.toList R) (nthV [v0, v1, v2]) w = F_impl_trail_implies_1 PP v0 v1 v2 w R := by kernel_rfl
theorem c_impl_trail_implies_1 {v0 v1 v2 : Value} {w : World} {R : Value → World → Prop} (h : F_impl_trail_implies_1 PP v0 v1 v2 w R) : vcall PP n_impl_trail_implies_1 #[v0, v1, v2] w R :=
  call_of_vc (T := A_impl_trail_implies_1) (c := (Try.f63.body).getD .skip) (n := 32) mixed Try.func63 rfl rfl (by kernel_rfl) (by kernel_rfl) rfl (by rw [k_impl_trail_implies_1]; exact h)

/-- (*impl.trail).isTrue -/
def F_impl_trail_isTrue (P : Program) (v0 v1 : Value) (w : World) (R : Value → World → Prop) : Prop :=
  vdraw w fun w_1 =>
  vcall P n_impl_trail_assigned #[v0, v1] w_1 fun t7 w_2 =>
  vif t7 (
    vnil P v0 w_2 fun t10 w_3 => w_3 = w_2 ∧
    vfaddr P T_impl_trail t10 0 w_2 fun t11 w_4 => w_4 = w_2 ∧
    vload P T_Lint t11 w_2 fun t12 w_5 => w_5 = w_2 ∧
    vnil P v0 w_2 fun t14 w_6 => w_6 = w_2 ∧
    vfaddr P T_impl_trail t14 1 w_2 fun t15 w_7 => w_7 = w_2 ∧
    vload P T_Lint t15 w_2 fun t16 w_8 => w_8 = w_2 ∧
    vcall P n_impl_literal_variable #[v1] w_2 fun t18 w_9 => (vload P T_Lint t15 w_9 fun v x => v = t16 ∧ x = w_9) ∧ (vfaddr P T_impl_trail t14 1 w_9 fun v x => v = t15 ∧ x = w_9) ∧ (vnil P v0 w_9 fun v x => v = t14 ∧ x = w_9) ∧ (vload P T_Lint t11 w_9 fun v x => v = t12 ∧ x = w_9) ∧ (vfaddr P T_impl_trail t10 0 w_9 fun v x => v = t11 ∧ x = w_9) ∧ (vnil P v0 w_9 fun v x => v = t10 ∧ x = w_9) ∧
    viaddr P T_Lint t16 t18 w_9 fun t19 w_10 => w_10 = w_9 ∧
    vload P T_int t19 w_9 fun t20 w_11 => w_11 = w_9 ∧
    vbin P .sub T_int true t20 (.int .i64 1) w_9 fun t21 w_12 => w_12 = w_9 ∧
    viaddr P T_Lint t12 t21 w_9 fun t22 w_13 => w_13 = w_9 ∧
    vload P T_int t22 w_9 fun t23 w_14 => w_14 = w_9 ∧
    vbin P .eql T_int false t23 v1 w_9 fun t25 w_15 => w_15 = w_9 ∧
    R t25 w_9) (
    R (.bool false) w_2)
def A_impl_trail_isTrue : Ann := { ord := [(1, [0, 1, 2, 3, 4, 5, 6, 7, 8, 9, 10, 11, 12, 19, 13, 14, 15, 16, 17, 18, 20, 21, 22], [(0, [2, 3, 4, 5, 6, 7, 8, 9, 10, 11, 12, 19, 13, 14, 15, 16, 17, 18, 20, 21, 22]), (1, [2, 3, 4, 5, 6, 7, 8, 9, 10, 11, 12, 19, 13, 14, 15, 16, 17, 18, 20, 21, 22]), (2, [3, 4, 5, 6, 7, 8, 9, 10, 11, 12, 19, 13, 14, 15, 16, 17, 18, 20, 21, 22]), (3, [4, 5, 6, 7, 8, 9, 10, 11, 12, 19, 13, 14, 15, 16, 17, 18, 20, 21, 22]), (4, [5, 6, 7, 17, 18, 20, 21, 22]), (5, [6, 7, 17, 18, 20, 21, 22]), (6, [7, 17, 18, 20, 21, 22]), (7, [17, 18, 20, 21, 22]), (8, [9, 10, 11, 14, 15, 16, 17, 18, 20, 21, 22]), (9, [10, 11, 14, 15, 16, 17, 18, 20, 21, 22]), (10, [11, 14, 15, 16, 17, 18, 20, 21, 22]), (11, [14, 15, 16, 17, 18, 20, 21, 22]), (12, [13, 14, 15, 16, 17, 18, 20, 21, 22]), (19, [20, 21, 22]), (13, [14, 15, 16, 17, 18, 20, 21, 22]), (14, [15, 16, 17, 18, 20, 21, 22]), (15, [16, 17, 18, 20, 21, 22]), (16, [17, 18, 20, 21, 22]), (17, [18, 20, 21, 22]), (18, [20, 21, 22]), (20, [21, 22]), (21, [22])])], loops := [], cuts := [] }
theorem k_impl_trail_isTrue (v0 v1 : Value) (w : World) (R : Value → World → Prop) : vc PP A_impl_trail_isTrue ((Try.f64.body).getD .skip) (retF PP Try.f64.results.toList R) (nthV [v0, v1]) w = F_impl_trail_isTrue PP v0 v1 w R := by kernel_rfl
theorem c_impl_trail_isTrue {v0 v1 : Value} {w : World} {R : Value → World → Prop} (h : F_impl_trail_isTrue PP v0 v1 w R) : vcall PP n_impl_trail_isTrue #[v0, v1] w R :=
  call_of_vc (T := A_impl_trail_isTrue) (c := (Try.f64.body).getD .skip) (n := 27) mixed Try.func64 rfl rfl (by kernel_rfl) (by kernel_rfl) rfl (by rw [k_impl_trail_isTrue]; exact h)

/-- (*impl.trail).place -/
def F_impl_trail_place (P : Program) (v0 v1 : Value) (w : World) (R : Value → World → Prop) : Prop :=
  vdraw w fun w_1 =>
  vnil P v0 w_1 fun t6 w_2 => w_2 = w_1 ∧
  vfaddr P T_impl_trail t6 1 w_1 fun t7 w_3 => w_3 = w_1 ∧
  vload P T_Lint t7 w_1 fun t8 w_4 => w_4 = w_1 ∧
  vcall P n_impl_literal_variable #[v1] w_1 fun t10 w_5 => (vload P T_Lint t7 w_5 fun v x => v = t8 ∧ x = w_5) ∧ (vfaddr P T_impl_trail t6 1 w_5 fun v x => v = t7 ∧ x = w_5) ∧ (vnil P v0 w_5 fun v x => v = t6 ∧ x = w_5) ∧
  viaddr P T_Lint t8 t10 w_5 fun t11 w_6 => w_6 = w_5 ∧
  vload P T_int t11 w_5 fun t12 w_7 => w_7 = w_5 ∧
  vbin P .sub T_int true t12 (.int .i64 1) w_5 fun t13 w_8 => w_8 = w_5 ∧
  R t13 w_5
def A_impl_trail_place : Ann := { ord := [(1, [0, 1, 2, 3, 4, 5, 6, 7, 8, 9], [(0, [1, 2, 3, 6, 7, 8, 9]), (1, [2, 3, 6, 7, 8, 9]), (2, [3, 6, 7, 8, 9]), (3, [6, 7, 8, 9]), (4, [5, 6, 7, 8, 9]), (5, [6, 7, 8, 9]), (6, [7, 8, 9]), (7, [8, 9]), (8, [9])])], loops := [], cuts := [] }
theorem k_impl_trail_place (v0 v1 : Value) (w : World) (R : Value → World → Prop) : vc PP A_impl_trail_place ((Try.f65.body).getD .skip) (retF PP Try.f65.results.toList R) (nthV [v0, v1]) w = F_impl_trail_place PP v0 v1 w R := by kernel_rfl
theorem c_impl_trail_place {v0 v1 : Value} {w : World} {R : Value → World → Prop} (h : F_impl_trail_place PP v0 v1 w R) : vcall PP n_impl_trail_place #[v0, v1] w R :=
  call_of_vc (T := A_impl_trail_place) (c := (Try.f65.body).getD .skip) (n := 14) mixed Try.func65 rfl rfl (by kernel_rfl) (by kernel_rfl) rfl (by rw [k_impl_trail_place]; exact h)

/-- (*impl.trail).look -/
def F_impl_trail_look (P : Program) (v0 v1 : Value) (w : World) (R : Value → World → Prop) : Prop :=
  vbi P .len [T_Lint] T_int [v1] w fun t10 w_1 =>
  vloop [(.int .i64 0), (.int .i64 0), (.int .i64 0)] w_1 fun C u _ w_2 =>
    vbin P .lss T_int false (sl 2 u) t10 w_2 fun t12 w_3 =>
    vif t12 (
      viaddr P T_Lint v1 (sl 2 u) w_3 fun t13 w_4 =>
      vload P T_int t13 w_4 fun t14 w_5 =>
      vcall P n_impl_trail_isTrue #[v0, t14] w_5 fun t18 w_6 =>
      vif t18 (
        R (.tuple #[(.bool true), (.int .i64 0), (.int .i64 0)]) w_6) (
        vcall P n_impl_trail_assigned #[v0, t14] w_6 fun t22 w_7 =>
        vun P .not t22 w_7 fun t23 w_8 =>
        vif t23 (
          vbin P .add T_int true (sl 0 u) (.int .i64 1) w_8 fun t25 w_9 =>
          vbin P .add T_int true (sl 2 u) (.int .i64 1) w_9 fun t27 w_10 =>
          C [t25, t14, t27] w_10) (
          vbin P .add T_int true (sl 2 u) (.int .i64 1) w_8 fun t27_1 w_11 =>
          C [(sl 0 u), (sl 1 u), t27_1] w_11))) (
      R (.tuple #[(.bool false), (sl 0 u), (sl 1 u)]) w_3)
def A_impl_trail_look : Ann := { ord := [], loops := [(2, [5, 6, 11])], cuts := [] }
theorem k_impl_trail_look (v0 v1 : Value) (w : World) (R : Value → World → Prop) : vc PP A_impl_trail_look ((Try.f66.body).getD .skip) (retF PP Try.f66.results.toList R) (nthV [v0, v1]) w = F_impl_trail_look PP v0 v1 w R := by kernel_rfl
theorem c_impl_trail_look {v0 v1 : Value} {w : World} {R : Value → World → Prop} (h : F_impl_trail_look PP v0 v1 w R) : vcall PP n_impl_trail_look #[v0, v1] w R :=
  call_of_vc (T := A_impl_trail_look) (c := (Try.f66.body).getD .skip) (n := 30) mixed Try.func66 rfl rfl (by kernel_rfl) (by kernel_rfl) rfl (by rw [k_impl_trail_look]; exact h)

/-- (*impl.search).resolve$1 -/
def F_impl_search_resolve_1 (P : Program) (v0 v1 : Value) (w : World) (R : Value → World → Prop) : Prop :=
  vload P T_P_impl_search v1 w fun t4 w_1 =>
  vnil P t4 w_1 fun t5 w_2 =>
  vfaddr P T_impl_search t5 1 w_2 fun t6 w_3 =>
  vload P T_P_impl_trail t6 w_3 fun t7 w_4 =>
  vcall P n_impl_trail_level #[t7, v0] w_4 fun t9 w_5 =>
  vbin P .gtr T_int true t9 (.int .i64 0) w_5 fun t10 w_6 =>
  R t10 w_6
def A_impl_search_resolve_1 : Ann := { ord := [], loops := [], cuts := [] }
theorem k_impl_search_resolve_1 (v0 v1 : Value) (w : World) (R : Value → World → Prop) : vc PP A_impl_search_resolve_1 ((Try.f67.body).getD .skip) (retF PP Try.f67.results.toList R) (nthV [v0, v1]) w = F_impl_search_resolve_1 PP v0 v1 w R := by kernel_rfl
theorem c_impl_search_resolve_1 {v0 v1 : Value} {w : World} {R : Value → World → Prop} (h : F_impl_search_resolve_1 PP v0 v1 w R) : vcall PP n_impl_search_resolve_1 #[v0, v1] w R :=
  call_of_vc (T := A_impl_search_resolve_1) (c := (Try.f67.body).getD .skip) (n := 11) mixed Try.func67 rfl rfl (by kernel_rfl) (by kernel_rfl) rfl (by rw [k_impl_search_resolve_1]; exact h)

/-- (*impl.trail).level -/
def F_impl_trail_level (P : Program) (v0 v1 : Value) (w : World) (R : Value → World → Prop) : Prop :=
  vdraw w fun w_1 =>
  vnil P v0 w_1 fun t6 w_2 => w_2 = w_1 ∧
  vfaddr P T_impl_trail t6 2 w_1 fun t7 w_3 => w_3 = w_1 ∧
  vload P T_Lint t7 w_1 fun t8 w_4 => w_4 = w_1 ∧
  vcall P n_impl_trail_place #[v0, v1] w_1 fun t11 w_5 => (vload P T_Lint t7 w_5 fun v x => v = t8 ∧ x = w_5) ∧ (vfaddr P T_impl_trail t6 2 w_5 fun v x => v = t7 ∧ x = w_5) ∧ (vnil P v0 w_5 fun v x => v = t6 ∧ x = w_5) ∧
  viaddr P T_Lint t8 t11 w_5 fun t12 w_6 => w_6 = w_5 ∧
  vload P T_int t12 w_5 fun t13 w_7 => w_7 = w_5 ∧
  R t13 w_5
def A_impl_trail_level : Ann := { ord := [(1, [0, 1, 2, 3, 4, 5, 6, 7, 8, 9], [(0, [1, 2, 3, 7, 8, 9]), (1, [2, 3, 7, 8, 9]), (2, [3, 7, 8, 9]), (3, [7, 8, 9]), (4, [6, 7, 8, 9]), (5, [6, 7, 8, 9]), (6, [7, 8, 9]), (7, [8, 9]), (8, [9])])], loops := [], cuts := [] }
theorem k_impl_trail_level (v0 v1 : Value) (w : World) (R : Value → World → Prop) : vc PP A_impl_trail_level ((Try.f68.body).getD .skip) (retF PP Try.f68.results.toList R) (nthV [v0, v1]) w = F_impl_trail_level PP v0 v1 w R := by kernel_rfl
theorem c_impl_trail_level {v0 v1 : Value} {w : World} {R : Value → World → Prop} (h : F_impl_trail_level PP v0 v1 w R) : vcall PP n_impl_trail_level #[v0, v1] w R :=
  call_of_vc (T := A_impl_trail_level) (c := (Try.f68.body).getD .skip) (n := 14) mixed Try.func68 rfl rfl (by kernel_rfl) (by kernel_rfl) rfl (by rw [k_impl_trail_level]; exact h)

end Go.Proofs.Ytpihgpfebhegmaa
