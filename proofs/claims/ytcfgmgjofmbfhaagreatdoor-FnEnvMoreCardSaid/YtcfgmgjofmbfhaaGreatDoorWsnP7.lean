import Derived.Test.YtcfgmgjofmbfhaaGreatDoorWsnP3
/- A part of the proof: F4. -/
set_option linter.unusedVariables false
set_option linter.unusedSimpArgs false
set_option linter.unnecessarySimpa false
set_option linter.unusedSectionVars false
section
namespace Go.Proofs.YtcfgmgjofmbfhaaGreatDoor
open Go Go.Vc Go.Proofs
def F_impl_folder_seconds (P : Program) (v0 v1 : Value) (w : World) (R : Value → World → Prop) : Prop :=
 vbox P T_impl_folder v0 w fun _ w_1 =>
 vbox P T_impl_Term v1 w_1 fun t3 w_2 =>
 valloc P T_impl_Term w_2 fun t4 w_3 =>
 vfaddr P T_impl_Term t3 4 w_3 fun t8 w_4 =>
 vload P T_Limpl_Term t8 w_4 fun t9 w_5 =>
 vbi P .len [T_Limpl_Term] T_int [t9] w_5 fun t10 w_6 =>
 vbin P .neq T_int true t10 (.int .i64 2) w_6 fun t11 w_7 =>
 vif t11 (
 vbuild P T_impl_Term [] w_7 fun t12 w_8 =>
 vstore P T_impl_Term t4 t12 w_8 fun _ w_9 =>
 vlv P T_impl_Term t4 w_9 fun r4 w_10 =>
 R (.tuple #[r4, (.bool false)]) w_10) (
 vjoin (fun J =>
 vdraw w_7 fun w_12 =>
 vfaddr P T_impl_Term t3 4 w_12 fun t13 w_13 => w_13 = w_12 ∧
 vload P T_Limpl_Term t13 w_12 fun t14 w_14 => w_14 = w_12 ∧
 viaddr P T_Limpl_Term t14 (.int .i64 0) w_12 fun t15 w_15 => w_15 = w_12 ∧
 vload P T_impl_Term t15 w_12 fun t16 w_16 => w_16 = w_12 ∧
 vfaddr P T_impl_Term t3 4 w_12 fun t17 w_17 => w_17 = w_12 ∧
 vload P T_Limpl_Term t17 w_12 fun t18 w_18 => w_18 = w_12 ∧
 viaddr P T_Limpl_Term t18 (.int .i64 1) w_12 fun t19 w_19 => w_19 = w_12 ∧
 vload P T_impl_Term t19 w_12 fun t20 w_20 => w_20 = w_12 ∧
 (valloc P T_impl_Term w_12 fun t6 w_21 => (vload P T_impl_Term t19 w_21 fun v x => v = t20 ∧ x = w_21) ∧ (viaddr P T_Limpl_Term t18 (.int .i64 1) w_21 fun v x => v = t19 ∧ x = w_21) ∧ (vload P T_Limpl_Term t17 w_21 fun v x => v = t18 ∧ x = w_21) ∧ (vfaddr P T_impl_Term t3 4 w_21 fun v x => v = t17 ∧ x = w_21) ∧ (vload P T_impl_Term t15 w_21 fun v x => v = t16 ∧ x = w_21) ∧ (viaddr P T_Limpl_Term t14 (.int .i64 0) w_21 fun v x => v = t15 ∧ x = w_21) ∧ (vload P T_Limpl_Term t13 w_21 fun v x => v = t14 ∧ x = w_21) ∧ (vfaddr P T_impl_Term t3 4 w_21 fun v x => v = t13 ∧ x = w_21) ∧
 (valloc P T_impl_Term w_21 fun t7 w_22 => (vload P T_impl_Term t19 w_22 fun v x => v = t20 ∧ x = w_22) ∧ (viaddr P T_Limpl_Term t18 (.int .i64 1) w_22 fun v x => v = t19 ∧ x = w_22) ∧ (vload P T_Limpl_Term t17 w_22 fun v x => v = t18 ∧ x = w_22) ∧ (vfaddr P T_impl_Term t3 4 w_22 fun v x => v = t17 ∧ x = w_22) ∧ (vload P T_impl_Term t15 w_22 fun v x => v = t16 ∧ x = w_22) ∧ (viaddr P T_Limpl_Term t14 (.int .i64 0) w_22 fun v x => v = t15 ∧ x = w_22) ∧ (vload P T_Limpl_Term t13 w_22 fun v x => v = t14 ∧ x = w_22) ∧ (vfaddr P T_impl_Term t3 4 w_22 fun v x => v = t13 ∧ x = w_22) ∧
 (vstore P T_impl_Term t6 t16 w_22 fun _ w_23 => (vload P T_impl_Term t19 w_23 fun v x => v = t20 ∧ x = w_23) ∧ (viaddr P T_Limpl_Term t18 (.int .i64 1) w_23 fun v x => v = t19 ∧ x = w_23) ∧ (vload P T_Limpl_Term t17 w_23 fun v x => v = t18 ∧ x = w_23) ∧ (vfaddr P T_impl_Term t3 4 w_23 fun v x => v = t17 ∧ x = w_23) ∧
 (vstore P T_impl_Term t7 t20 w_23 fun _ w_24 =>
 J [t6, t7] w_24) ∧
 True) ∧
 True) ∧
 True) ∧
 (valloc P T_impl_Term w_12 fun t7_1 w_25 => (vload P T_impl_Term t19 w_25 fun v x => v = t20 ∧ x = w_25) ∧ (viaddr P T_Limpl_Term t18 (.int .i64 1) w_25 fun v x => v = t19 ∧ x = w_25) ∧ (vload P T_Limpl_Term t17 w_25 fun v x => v = t18 ∧ x = w_25) ∧ (vfaddr P T_impl_Term t3 4 w_25 fun v x => v = t17 ∧ x = w_25) ∧ (vload P T_impl_Term t15 w_25 fun v x => v = t16 ∧ x = w_25) ∧ (viaddr P T_Limpl_Term t14 (.int .i64 0) w_25 fun v x => v = t15 ∧ x = w_25) ∧ (vload P T_Limpl_Term t13 w_25 fun v x => v = t14 ∧ x = w_25) ∧ (vfaddr P T_impl_Term t3 4 w_25 fun v x => v = t13 ∧ x = w_25) ∧
 (valloc P T_impl_Term w_25 fun t6_1 w_26 => (vload P T_impl_Term t19 w_26 fun v x => v = t20 ∧ x = w_26) ∧ (viaddr P T_Limpl_Term t18 (.int .i64 1) w_26 fun v x => v = t19 ∧ x = w_26) ∧ (vload P T_Limpl_Term t17 w_26 fun v x => v = t18 ∧ x = w_26) ∧ (vfaddr P T_impl_Term t3 4 w_26 fun v x => v = t17 ∧ x = w_26) ∧ (vload P T_impl_Term t15 w_26 fun v x => v = t16 ∧ x = w_26) ∧ (viaddr P T_Limpl_Term t14 (.int .i64 0) w_26 fun v x => v = t15 ∧ x = w_26) ∧ (vload P T_Limpl_Term t13 w_26 fun v x => v = t14 ∧ x = w_26) ∧ (vfaddr P T_impl_Term t3 4 w_26 fun v x => v = t13 ∧ x = w_26) ∧
 (vstore P T_impl_Term t6_1 t16 w_26 fun _ w_27 => (vload P T_impl_Term t19 w_27 fun v x => v = t20 ∧ x = w_27) ∧ (viaddr P T_Limpl_Term t18 (.int .i64 1) w_27 fun v x => v = t19 ∧ x = w_27) ∧ (vload P T_Limpl_Term t17 w_27 fun v x => v = t18 ∧ x = w_27) ∧ (vfaddr P T_impl_Term t3 4 w_27 fun v x => v = t17 ∧ x = w_27) ∧
 (vstore P T_impl_Term t7_1 t20 w_27 fun _ w_28 =>
 J [t6_1, t7_1] w_28) ∧
 True) ∧
 True) ∧
 True) ∧
 True) (fun u _ w_11 =>
 vjoin (fun J_1 =>
 vjoin (fun J_2 =>
 vload P T_impl_Term (sl 1 u) w_11 fun t22 w_31 =>
 vcall P n_impl_is #[t22, (.int .i64 0)] w_31 fun t23 w_32 =>
 vif t23 (
 vload P T_impl_Term t3 w_32 fun t25 w_33 =>
 vbuildS P T_Lint 7 [(0, (.int .i64 4)), (1, (.int .i64 5)), (2, (.int .i64 6)), (3, (.int .i64 7)), (4, (.int .i64 11)), (5, (.int .i64 12)), (6, (.int .i64 13))] w_33 fun t26 w_34 =>
 vcall P n_impl_among #[t25, t26] w_34 fun t27 w_35 =>
 J_2 [t27] w_35) (
 J_2 [(.bool false)] w_32)) (fun u_2 _ w_30 =>
 vif (sl 0 u_2) (
 vload P T_impl_Term (sl 0 u) w_30 fun t29 w_36 =>
 vstore P T_impl_Term t4 t29 w_36 fun _ w_37 =>
 vlv P T_impl_Term t4 w_37 fun r4_1 w_38 =>
 R (.tuple #[r4_1, (.bool true)]) w_38) (
 vload P T_impl_Term (sl 1 u) w_30 fun t31 w_39 =>
 vcall P n_impl_is #[t31, (.int .i64 0)] w_39 fun t32 w_40 =>
 vif t32 (
 vload P T_impl_Term t3 w_40 fun t34 w_41 =>
 vbuildS P T_Lint 2 [(0, (.int .i64 3)), (1, (.int .i64 8))] w_41 fun t35 w_42 =>
 vcall P n_impl_among #[t34, t35] w_42 fun t36 w_43 =>
 vif t36 (
 vload P T_impl_Term (sl 1 u) w_43 fun t38 w_44 =>
 vstore P T_impl_Term t4 t38 w_44 fun _ w_45 =>
 vlv P T_impl_Term t4 w_45 fun r4_2 w_46 =>
 R (.tuple #[r4_2, (.bool true)]) w_46) (
 J_1 [] w_43)) (
 J_1 [] w_40)))) (fun _ _ w_29 =>
 vdraw w_29 fun w_47 =>
 vload P T_impl_Term (sl 1 u) w_47 fun t39 w_48 => w_48 = w_47 ∧
 vload P T_impl_Term (sl 0 u) w_47 fun t46 w_49 => w_49 = w_47 ∧
 vcall P n_impl_is #[t39, (.int .i64 1)] w_47 fun t40 w_50 => (vload P T_impl_Term (sl 0 u) w_50 fun v x => v = t46 ∧ x = w_50) ∧
 vif t40 (
 vfaddr P T_impl_Term t3 0 w_50 fun t42 w_51 => w_51 = w_50 ∧
 vload P T_int t42 w_50 fun t43 w_52 => w_52 = w_50 ∧
 vbin P .eql T_int true t43 (.int .i64 8) w_50 fun t44 w_53 => w_53 = w_50 ∧
 vcall P n_impl_chosen #[t44, t46] w_50 fun t47 w_54 =>
 vextract P t47 0 w_54 fun t48 w_55 => w_55 = w_54 ∧
 vextract P t47 1 w_54 fun t49 w_56 => w_56 = w_54 ∧
 vstore P T_impl_Term t4 t48 w_54 fun _ w_57 =>
 vlv P T_impl_Term t4 w_57 fun r4_3 w_58 =>
 R (.tuple #[r4_3, t49]) w_58) (
 vcall P n_impl_chosen #[(.bool false), t46] w_50 fun t47_1 w_59 =>
 vextract P t47_1 0 w_59 fun t48_1 w_60 => w_60 = w_59 ∧
 vextract P t47_1 1 w_59 fun t49_1 w_61 => w_61 = w_59 ∧
 vstore P T_impl_Term t4 t48_1 w_59 fun _ w_62 =>
 vlv P T_impl_Term t4 w_62 fun r4_4 w_63 =>
 R (.tuple #[r4_4, t49_1]) w_63))))
def A_impl_folder_seconds : Ann := { ord := [(8, [0, 7, 1, 2, 3, 4, 5, 6, 8, 9, 10, 11, 12], [(0, [1, 2, 3, 4, 5, 6, 8, 9, 10, 11, 12]), (7, [8, 9, 10, 11, 12]), (1, [2, 3, 4, 5, 6, 8, 9, 10, 11, 12]), (2, [3, 4, 5, 6, 8, 9, 10, 11, 12]), (3, [4, 5, 6, 8, 9, 10, 11, 12]), (4, [5, 6, 8, 9, 10, 11, 12]), (5, [6, 8, 9, 10, 11, 12]), (6, [8, 9, 10, 11, 12]), (8, [9, 10, 11, 12]), (9, [11, 12]), (10, [11, 12]), (11, [12])])], loops := [], cuts := [(16388, [6, 7]), (20488, []), (20485, [21])], trees := [(3, (.st 0 (.st 1 (.st 2 (.st 3 (.st 4 (.st 5 (.st 6 (.st 7 (.alt 8 (.alt 9 (.alt 10 (.alt 11 .nil .no) .no) .no) (.alt 9 (.alt 8 (.alt 10 (.alt 11 .nil .no) .no) .no) .no)))))))))), [(0, [1, 2, 3, 10, 11]), (1, [2, 3, 10, 11]), (2, [3, 10, 11]), (3, [10, 11]), (4, [5, 6, 7, 11]), (5, [6, 7, 11]), (6, [7, 11]), (7, [11]), (8, [10, 11]), (9, [10, 11]), (10, [11])])] }
theorem k_impl_folder_seconds (v0 v1 : Value) (w : World) (R : Value → World → Prop) : vc PP A_impl_folder_seconds ((Tryz.f121.body).getD .skip) (retF PP Tryz.f121.results.toList R) (nthV [v0, v1]) w = F_impl_folder_seconds PP v0 v1 w R := by kernel_rfl
theorem c_impl_folder_seconds {v0 v1 : Value} {w : World} {R : Value → World → Prop} (h : F_impl_folder_seconds PP v0 v1 w R) : vcall PP n_impl_folder_seconds #[v0, v1] w R :=
  call_of_vc (T := A_impl_folder_seconds) (c := (Tryz.f121.body).getD .skip) (n := 50) mixed Tryz.func121 rfl rfl (by kernel_rfl) (by kernel_rfl) rfl (by rw [k_impl_folder_seconds]; exact h)
def F_impl_folder_firsts (P : Program) (v0 v1 : Value) (w : World) (R : Value → World → Prop) : Prop :=
 vbox P T_impl_folder v0 w fun _ w_1 =>
 vbox P T_impl_Term v1 w_1 fun t3 w_2 =>
 valloc P T_impl_Term w_2 fun t4 w_3 =>
 vfaddr P T_impl_Term t3 4 w_3 fun t8 w_4 =>
 vload P T_Limpl_Term t8 w_4 fun t9 w_5 =>
 vbi P .len [T_Limpl_Term] T_int [t9] w_5 fun t10 w_6 =>
 vbin P .neq T_int true t10 (.int .i64 2) w_6 fun t11 w_7 =>
 vif t11 (
 vbuild P T_impl_Term [] w_7 fun t12 w_8 =>
 vstore P T_impl_Term t4 t12 w_8 fun _ w_9 =>
 vlv P T_impl_Term t4 w_9 fun r4 w_10 =>
 R (.tuple #[r4, (.bool false)]) w_10) (
 vjoin (fun J =>
 vdraw w_7 fun w_12 =>
 vfaddr P T_impl_Term t3 4 w_12 fun t13 w_13 => w_13 = w_12 ∧
 vload P T_Limpl_Term t13 w_12 fun t14 w_14 => w_14 = w_12 ∧
 viaddr P T_Limpl_Term t14 (.int .i64 0) w_12 fun t15 w_15 => w_15 = w_12 ∧
 vload P T_impl_Term t15 w_12 fun t16 w_16 => w_16 = w_12 ∧
 vfaddr P T_impl_Term t3 4 w_12 fun t17 w_17 => w_17 = w_12 ∧
 vload P T_Limpl_Term t17 w_12 fun t18 w_18 => w_18 = w_12 ∧
 viaddr P T_Limpl_Term t18 (.int .i64 1) w_12 fun t19 w_19 => w_19 = w_12 ∧
 vload P T_impl_Term t19 w_12 fun t20 w_20 => w_20 = w_12 ∧
 (valloc P T_impl_Term w_12 fun t6 w_21 => (vload P T_impl_Term t19 w_21 fun v x => v = t20 ∧ x = w_21) ∧ (viaddr P T_Limpl_Term t18 (.int .i64 1) w_21 fun v x => v = t19 ∧ x = w_21) ∧ (vload P T_Limpl_Term t17 w_21 fun v x => v = t18 ∧ x = w_21) ∧ (vfaddr P T_impl_Term t3 4 w_21 fun v x => v = t17 ∧ x = w_21) ∧ (vload P T_impl_Term t15 w_21 fun v x => v = t16 ∧ x = w_21) ∧ (viaddr P T_Limpl_Term t14 (.int .i64 0) w_21 fun v x => v = t15 ∧ x = w_21) ∧ (vload P T_Limpl_Term t13 w_21 fun v x => v = t14 ∧ x = w_21) ∧ (vfaddr P T_impl_Term t3 4 w_21 fun v x => v = t13 ∧ x = w_21) ∧
 (valloc P T_impl_Term w_21 fun t7 w_22 => (vload P T_impl_Term t19 w_22 fun v x => v = t20 ∧ x = w_22) ∧ (viaddr P T_Limpl_Term t18 (.int .i64 1) w_22 fun v x => v = t19 ∧ x = w_22) ∧ (vload P T_Limpl_Term t17 w_22 fun v x => v = t18 ∧ x = w_22) ∧ (vfaddr P T_impl_Term t3 4 w_22 fun v x => v = t17 ∧ x = w_22) ∧ (vload P T_impl_Term t15 w_22 fun v x => v = t16 ∧ x = w_22) ∧ (viaddr P T_Limpl_Term t14 (.int .i64 0) w_22 fun v x => v = t15 ∧ x = w_22) ∧ (vload P T_Limpl_Term t13 w_22 fun v x => v = t14 ∧ x = w_22) ∧ (vfaddr P T_impl_Term t3 4 w_22 fun v x => v = t13 ∧ x = w_22) ∧
 (vstore P T_impl_Term t6 t16 w_22 fun _ w_23 => (vload P T_impl_Term t19 w_23 fun v x => v = t20 ∧ x = w_23) ∧ (viaddr P T_Limpl_Term t18 (.int .i64 1) w_23 fun v x => v = t19 ∧ x = w_23) ∧ (vload P T_Limpl_Term t17 w_23 fun v x => v = t18 ∧ x = w_23) ∧ (vfaddr P T_impl_Term t3 4 w_23 fun v x => v = t17 ∧ x = w_23) ∧
 (vstore P T_impl_Term t7 t20 w_23 fun _ w_24 =>
 J [t6, t7] w_24) ∧
 True) ∧
 True) ∧
 True) ∧
 (valloc P T_impl_Term w_12 fun t7_1 w_25 => (vload P T_impl_Term t19 w_25 fun v x => v = t20 ∧ x = w_25) ∧ (viaddr P T_Limpl_Term t18 (.int .i64 1) w_25 fun v x => v = t19 ∧ x = w_25) ∧ (vload P T_Limpl_Term t17 w_25 fun v x => v = t18 ∧ x = w_25) ∧ (vfaddr P T_impl_Term t3 4 w_25 fun v x => v = t17 ∧ x = w_25) ∧ (vload P T_impl_Term t15 w_25 fun v x => v = t16 ∧ x = w_25) ∧ (viaddr P T_Limpl_Term t14 (.int .i64 0) w_25 fun v x => v = t15 ∧ x = w_25) ∧ (vload P T_Limpl_Term t13 w_25 fun v x => v = t14 ∧ x = w_25) ∧ (vfaddr P T_impl_Term t3 4 w_25 fun v x => v = t13 ∧ x = w_25) ∧
 (valloc P T_impl_Term w_25 fun t6_1 w_26 => (vload P T_impl_Term t19 w_26 fun v x => v = t20 ∧ x = w_26) ∧ (viaddr P T_Limpl_Term t18 (.int .i64 1) w_26 fun v x => v = t19 ∧ x = w_26) ∧ (vload P T_Limpl_Term t17 w_26 fun v x => v = t18 ∧ x = w_26) ∧ (vfaddr P T_impl_Term t3 4 w_26 fun v x => v = t17 ∧ x = w_26) ∧ (vload P T_impl_Term t15 w_26 fun v x => v = t16 ∧ x = w_26) ∧ (viaddr P T_Limpl_Term t14 (.int .i64 0) w_26 fun v x => v = t15 ∧ x = w_26) ∧ (vload P T_Limpl_Term t13 w_26 fun v x => v = t14 ∧ x = w_26) ∧ (vfaddr P T_impl_Term t3 4 w_26 fun v x => v = t13 ∧ x = w_26) ∧
 (vstore P T_impl_Term t6_1 t16 w_26 fun _ w_27 => (vload P T_impl_Term t19 w_27 fun v x => v = t20 ∧ x = w_27) ∧ (viaddr P T_Limpl_Term t18 (.int .i64 1) w_27 fun v x => v = t19 ∧ x = w_27) ∧ (vload P T_Limpl_Term t17 w_27 fun v x => v = t18 ∧ x = w_27) ∧ (vfaddr P T_impl_Term t3 4 w_27 fun v x => v = t17 ∧ x = w_27) ∧
 (vstore P T_impl_Term t7_1 t20 w_27 fun _ w_28 =>
 J [t6_1, t7_1] w_28) ∧
 True) ∧
 True) ∧
 True) ∧
 True) (fun u _ w_11 =>
 vjoin (fun J_1 =>
 vjoin (fun J_2 =>
 vload P T_impl_Term (sl 0 u) w_11 fun t22 w_31 =>
 vcall P n_impl_is #[t22, (.int .i64 0)] w_31 fun t23 w_32 =>
 vif t23 (
 vload P T_impl_Term t3 w_32 fun t25 w_33 =>
 vbuildS P T_Lint 3 [(0, (.int .i64 4)), (1, (.int .i64 5)), (2, (.int .i64 6))] w_33 fun t26 w_34 =>
 vcall P n_impl_among #[t25, t26] w_34 fun t27 w_35 =>
 J_2 [t27] w_35) (
 J_2 [(.bool false)] w_32)) (fun u_2 _ w_30 =>
 vif (sl 0 u_2) (
 vload P T_impl_Term (sl 1 u) w_30 fun t29 w_36 =>
 vstore P T_impl_Term t4 t29 w_36 fun _ w_37 =>
 vlv P T_impl_Term t4 w_37 fun r4_1 w_38 =>
 R (.tuple #[r4_1, (.bool true)]) w_38) (
 vload P T_impl_Term (sl 0 u) w_30 fun t31 w_39 =>
 vcall P n_impl_is #[t31, (.int .i64 0)] w_39 fun t32 w_40 =>
 vif t32 (
 vload P T_impl_Term t3 w_40 fun t34 w_41 =>
 vbuildS P T_Lint 2 [(0, (.int .i64 3)), (1, (.int .i64 8))] w_41 fun t35 w_42 =>
 vcall P n_impl_among #[t34, t35] w_42 fun t36 w_43 =>
 vif t36 (
 vload P T_impl_Term (sl 0 u) w_43 fun t38 w_44 =>
 vstore P T_impl_Term t4 t38 w_44 fun _ w_45 =>
 vlv P T_impl_Term t4 w_45 fun r4_2 w_46 =>
 R (.tuple #[r4_2, (.bool true)]) w_46) (
 J_1 [] w_43)) (
 J_1 [] w_40)))) (fun _ _ w_29 =>
 vdraw w_29 fun w_47 =>
 vload P T_impl_Term (sl 0 u) w_47 fun t39 w_48 => w_48 = w_47 ∧
 vload P T_impl_Term (sl 1 u) w_47 fun t46 w_49 => w_49 = w_47 ∧
 vcall P n_impl_is #[t39, (.int .i64 1)] w_47 fun t40 w_50 => (vload P T_impl_Term (sl 1 u) w_50 fun v x => v = t46 ∧ x = w_50) ∧
 vif t40 (
 vfaddr P T_impl_Term t3 0 w_50 fun t42 w_51 => w_51 = w_50 ∧
 vload P T_int t42 w_50 fun t43 w_52 => w_52 = w_50 ∧
 vbin P .eql T_int true t43 (.int .i64 8) w_50 fun t44 w_53 => w_53 = w_50 ∧
 vcall P n_impl_chosen #[t44, t46] w_50 fun t47 w_54 =>
 vextract P t47 0 w_54 fun t48 w_55 => w_55 = w_54 ∧
 vextract P t47 1 w_54 fun t49 w_56 => w_56 = w_54 ∧
 vstore P T_impl_Term t4 t48 w_54 fun _ w_57 =>
 vlv P T_impl_Term t4 w_57 fun r4_3 w_58 =>
 R (.tuple #[r4_3, t49]) w_58) (
 vcall P n_impl_chosen #[(.bool false), t46] w_50 fun t47_1 w_59 =>
 vextract P t47_1 0 w_59 fun t48_1 w_60 => w_60 = w_59 ∧
 vextract P t47_1 1 w_59 fun t49_1 w_61 => w_61 = w_59 ∧
 vstore P T_impl_Term t4 t48_1 w_59 fun _ w_62 =>
 vlv P T_impl_Term t4 w_62 fun r4_4 w_63 =>
 R (.tuple #[r4_4, t49_1]) w_63))))
def A_impl_folder_firsts : Ann := { ord := [(8, [0, 7, 1, 2, 3, 4, 5, 6, 8, 9, 10, 11, 12], [(0, [1, 2, 3, 4, 5, 6, 8, 9, 10, 11, 12]), (7, [8, 9, 10, 11, 12]), (1, [2, 3, 4, 5, 6, 8, 9, 10, 11, 12]), (2, [3, 4, 5, 6, 8, 9, 10, 11, 12]), (3, [4, 5, 6, 8, 9, 10, 11, 12]), (4, [5, 6, 8, 9, 10, 11, 12]), (5, [6, 8, 9, 10, 11, 12]), (6, [8, 9, 10, 11, 12]), (8, [9, 10, 11, 12]), (9, [11, 12]), (10, [11, 12]), (11, [12])])], loops := [], cuts := [(16388, [6, 7]), (20488, []), (20485, [21])], trees := [(3, (.st 0 (.st 1 (.st 2 (.st 3 (.st 4 (.st 5 (.st 6 (.st 7 (.alt 8 (.alt 9 (.alt 10 (.alt 11 .nil .no) .no) .no) (.alt 9 (.alt 8 (.alt 10 (.alt 11 .nil .no) .no) .no) .no)))))))))), [(0, [1, 2, 3, 10, 11]), (1, [2, 3, 10, 11]), (2, [3, 10, 11]), (3, [10, 11]), (4, [5, 6, 7, 11]), (5, [6, 7, 11]), (6, [7, 11]), (7, [11]), (8, [10, 11]), (9, [10, 11]), (10, [11])])] }
theorem k_impl_folder_firsts (v0 v1 : Value) (w : World) (R : Value → World → Prop) : vc PP A_impl_folder_firsts ((Tryz.f122.body).getD .skip) (retF PP Tryz.f122.results.toList R) (nthV [v0, v1]) w = F_impl_folder_firsts PP v0 v1 w R := by kernel_rfl
theorem c_impl_folder_firsts {v0 v1 : Value} {w : World} {R : Value → World → Prop} (h : F_impl_folder_firsts PP v0 v1 w R) : vcall PP n_impl_folder_firsts #[v0, v1] w R :=
  call_of_vc (T := A_impl_folder_firsts) (c := (Tryz.f122.body).getD .skip) (n := 50) mixed Tryz.func122 rfl rfl (by kernel_rfl) (by kernel_rfl) rfl (by rw [k_impl_folder_firsts]; exact h)
def F_spec_l2Do (P : Program) (v0 v1 v2 : Value) (w : World) (R : Value → World → Prop) : Prop :=
 vbox P T_impl_Term v1 w fun t4 w_1 =>
 vfaddr P T_impl_Term t4 4 w_1 fun t18 w_2 =>
 vload P T_Limpl_Term t18 w_2 fun t19 w_3 =>
 viaddr P T_Limpl_Term t19 (.int .i64 0) w_3 fun t20 w_4 =>
 vload P T_impl_Term t20 w_4 fun t21 w_5 =>
 vcall P n_spec_l2Vec #[v0, t21, v2] w_5 fun t23 w_6 =>
 valloc P T_impl_Vec w_6 fun t7 w_7 =>
 vstore P T_impl_Vec t7 t23 w_7 fun _ w_8 =>
 vfaddr P T_impl_Term t4 0 w_8 fun t24 w_9 =>
 vload P T_int t24 w_9 fun t25 w_10 =>
 vbin P .eql T_int true t25 (.int .i64 22) w_10 fun t26 w_11 =>
 vif t26 (
 vload P T_impl_Vec t7 w_11 fun t28 w_12 =>
 vfaddr P T_impl_Term t4 1 w_12 fun t29 w_13 =>
 vload P T_int t29 w_13 fun t30 w_14 =>
 vfaddr P T_impl_Term t4 2 w_14 fun t31 w_15 =>
 vload P T_int t31 w_15 fun t32 w_16 =>
 vcall P n_spec_VecCut #[t28, t30, t32] w_16 fun t33 w_17 =>
 vextract P t33 0 w_17 fun t34 w_18 =>
 vextract P t33 1 w_18 fun _ w_19 =>
 valloc P T_impl_Vec w_19 fun t8 w_20 =>
 vstore P T_impl_Vec t8 t34 w_20 fun _ w_21 =>
 vfaddr P T_impl_Vec t8 1 w_21 fun t36 w_22 =>
 vload P T_int t36 w_22 fun t37 w_23 =>
 R t37 w_23) (
 vfaddr P T_impl_Term t4 4 w_11 fun t38 w_24 =>
 vload P T_Limpl_Term t38 w_24 fun t39 w_25 =>
 vbi P .len [T_Limpl_Term] T_int [t39] w_25 fun t40 w_26 =>
 vbin P .eql T_int true t40 (.int .i64 1) w_26 fun t41 w_27 =>
 vif t41 (
 vfaddr P T_impl_Term t4 0 w_27 fun t43 w_28 =>
 vload P T_int t43 w_28 fun t44 w_29 =>
 vload P T_impl_Vec t7 w_29 fun t45 w_30 =>
 vcall P n_spec_VecUn #[t44, t45] w_30 fun t46 w_31 =>
 vextract P t46 0 w_31 fun t47 w_32 =>
 vextract P t46 1 w_32 fun _ w_33 =>
 valloc P T_impl_Vec w_33 fun t10 w_34 =>
 vstore P T_impl_Vec t10 t47 w_34 fun _ w_35 =>
 vfaddr P T_impl_Vec t10 1 w_35 fun t49 w_36 =>
 vload P T_int t49 w_36 fun t50 w_37 =>
 R t50 w_37) (
 vfaddr P T_impl_Term t4 4 w_27 fun t52 w_38 =>
 vload P T_Limpl_Term t52 w_38 fun t53 w_39 =>
 viaddr P T_Limpl_Term t53 (.int .i64 1) w_39 fun t54 w_40 =>
 vload P T_impl_Term t54 w_40 fun t55 w_41 =>
 vcall P n_spec_l2Vec #[v0, t55, v2] w_41 fun t57 w_42 =>
 valloc P T_impl_Vec w_42 fun t12 w_43 =>
 vstore P T_impl_Vec t12 t57 w_43 fun _ w_44 =>
 vfaddr P T_impl_Term t4 0 w_44 fun t58 w_45 =>
 vload P T_int t58 w_45 fun t59 w_46 =>
 vbin P .geq T_int true t59 (.int .i64 15) w_46 fun t60 w_47 =>
 vif t60 (
 vfaddr P T_impl_Term t4 0 w_47 fun t62 w_48 =>
 vload P T_int t62 w_48 fun t63 w_49 =>
 vload P T_impl_Vec t7 w_49 fun t64 w_50 =>
 vload P T_impl_Vec t12 w_50 fun t65 w_51 =>
 vcall P n_spec_VecCmp #[t63, t64, t65] w_51 fun t66 w_52 =>
 vextract P t66 0 w_52 fun t67 w_53 =>
 vextract P t66 1 w_53 fun _ w_54 =>
 vcall P n_spec_l2Bool #[t67] w_54 fun t70 w_55 =>
 R t70 w_55) (
 vfaddr P T_impl_Term t4 0 w_47 fun t72 w_56 =>
 vload P T_int t72 w_56 fun t73 w_57 =>
 vload P T_impl_Vec t7 w_57 fun t74 w_58 =>
 vload P T_impl_Vec t12 w_58 fun t75 w_59 =>
 vcall P n_spec_VecBin #[t73, t74, t75] w_59 fun t76 w_60 =>
 vextract P t76 0 w_60 fun t77 w_61 =>
 vextract P t76 1 w_61 fun _ w_62 =>
 valloc P T_impl_Vec w_62 fun t15 w_63 =>
 vstore P T_impl_Vec t15 t77 w_63 fun _ w_64 =>
 vfaddr P T_impl_Vec t15 1 w_64 fun t79 w_65 =>
 vload P T_int t79 w_65 fun t80 w_66 =>
 R t80 w_66)))
def A_spec_l2Do : Ann := { ord := [], loops := [], cuts := [] }
theorem k_spec_l2Do (v0 v1 v2 : Value) (w : World) (R : Value → World → Prop) : vc PP A_spec_l2Do ((Tryz.f123.body).getD .skip) (retF PP Tryz.f123.results.toList R) (nthV [v0, v1, v2]) w = F_spec_l2Do PP v0 v1 v2 w R := by kernel_rfl
theorem c_spec_l2Do {v0 v1 v2 : Value} {w : World} {R : Value → World → Prop} (h : F_spec_l2Do PP v0 v1 v2 w R) : vcall PP n_spec_l2Do #[v0, v1, v2] w R :=
  call_of_vc (T := A_spec_l2Do) (c := (Tryz.f123.body).getD .skip) (n := 81) mixed Tryz.func123 rfl rfl (by kernel_rfl) (by kernel_rfl) rfl (by rw [k_spec_l2Do]; exact h)
def F_spec_l3Is (P : Program) (v0 v1 : Value) (w : World) (R : Value → World → Prop) : Prop :=
 vbox P T_impl_Term v0 w fun t2 w_1 =>
 vload P T_impl_Term t2 w_1 fun t8 w_2 =>
 vcall P n_spec_TermFixed #[t8] w_2 fun t9 w_3 =>
 vextract P t9 0 w_3 fun t10 w_4 =>
 vextract P t9 1 w_4 fun t11 w_5 =>
 vif t11 (
 vbin P .eql T_int false t10 v1 w_5 fun t16 w_6 =>
 R t16 w_6) (
 R (.bool false) w_5)
def A_spec_l3Is : Ann := { ord := [], loops := [], cuts := [] }
theorem k_spec_l3Is (v0 v1 : Value) (w : World) (R : Value → World → Prop) : vc PP A_spec_l3Is ((Tryz.f124.body).getD .skip) (retF PP Tryz.f124.results.toList R) (nthV [v0, v1]) w = F_spec_l3Is PP v0 v1 w R := by kernel_rfl
theorem c_spec_l3Is {v0 v1 : Value} {w : World} {R : Value → World → Prop} (h : F_spec_l3Is PP v0 v1 w R) : vcall PP n_spec_l3Is #[v0, v1] w R :=
  call_of_vc (T := A_spec_l3Is) (c := (Tryz.f124.body).getD .skip) (n := 18) mixed Tryz.func124 rfl rfl (by kernel_rfl) (by kernel_rfl) rfl (by rw [k_spec_l3Is]; exact h)
def F_spec_l2Bool (P : Program) (v0 : Value) (w : World) (R : Value → World → Prop) : Prop :=
 vif v0 (
 R (.int .i64 1) w) (
 R (.int .i64 0) w)
def A_spec_l2Bool : Ann := { ord := [], loops := [], cuts := [] }
theorem k_spec_l2Bool (v0 : Value) (w : World) (R : Value → World → Prop) : vc PP A_spec_l2Bool ((Tryz.f125.body).getD .skip) (retF PP Tryz.f125.results.toList R) (nthV [v0]) w = F_spec_l2Bool PP v0 w R := by kernel_rfl
theorem c_spec_l2Bool {v0 : Value} {w : World} {R : Value → World → Prop} (h : F_spec_l2Bool PP v0 w R) : vcall PP n_spec_l2Bool #[v0] w R :=
  call_of_vc (T := A_spec_l2Bool) (c := (Tryz.f125.body).getD .skip) (n := 4) mixed Tryz.func125 rfl rfl (by kernel_rfl) (by kernel_rfl) rfl (by rw [k_spec_l2Bool]; exact h)
def F_spec_l3Alike (P : Program) (v0 v1 : Value) (w : World) (R : Value → World → Prop) : Prop :=
 vbox P T_impl_Term v0 w fun t2 w_1 =>
 valloc P T_impl_Term w_1 fun t4 w_2 =>
 vfaddr P T_impl_Term t2 0 w_2 fun t5 w_3 =>
 vload P T_int t5 w_3 fun t6 w_4 =>
 vjoin (fun J =>
 vbin P .eql T_int true t6 (.int .i64 3) w_4 fun t8 w_6 =>
 vif t8 (
 J [t8] w_6) (
 vbin P .eql T_int true t6 (.int .i64 4) w_6 fun t9 w_7 =>
 J [t9] w_7)) (fun u _ w_5 =>
 vif (sl 0 u) (
 vfaddr P T_impl_Term t2 4 w_5 fun t10 w_8 =>
 vload P T_Limpl_Term t10 w_8 fun t11 w_9 =>
 viaddr P T_Limpl_Term t11 (.int .i64 0) w_9 fun t12 w_10 =>
 vload P T_impl_Term t12 w_10 fun t13 w_11 =>
 vstore P T_impl_Term t4 t13 w_11 fun _ w_12 =>
 vlv P T_impl_Term t4 w_12 fun r4 w_13 =>
 R r4 w_13) (
 vjoin (fun J_1 =>
 vbin P .eql T_int true t6 (.int .i64 5) w_5 fun t15 w_15 =>
 vif t15 (
 J_1 [t15] w_15) (
 vbin P .eql T_int true t6 (.int .i64 7) w_15 fun t16 w_16 =>
 J_1 [t16] w_16)) (fun u_1 _ w_14 =>
 vif (sl 0 u_1) (
 vcall P n_spec_l3Zero #[v1] w_14 fun t18 w_17 =>
 vstore P T_impl_Term t4 t18 w_17 fun _ w_18 =>
 vlv P T_impl_Term t4 w_18 fun r4_1 w_19 =>
 R r4_1 w_19) (
 vbin P .eql T_int true t6 (.int .i64 15) w_14 fun t20 w_20 =>
 vif t20 (
 vcall P n_spec_l3Bool #[(.bool true)] w_20 fun t21 w_21 =>
 vstore P T_impl_Term t4 t21 w_21 fun _ w_22 =>
 vlv P T_impl_Term t4 w_22 fun r4_2 w_23 =>
 R r4_2 w_23) (
 vbin P .eql T_int true t6 (.int .i64 16) w_20 fun t23 w_24 =>
 vif t23 (
 vif t23 (
 vcall P n_spec_l3Bool #[(.bool false)] w_24 fun t25 w_25 =>
 vstore P T_impl_Term t4 t25 w_25 fun _ w_26 =>
 vlv P T_impl_Term t4 w_26 fun r4_3 w_27 =>
 R r4_3 w_27) (
 vload P T_impl_Term t2 w_24 fun t26 w_28 =>
 vstore P T_impl_Term t4 t26 w_28 fun _ w_29 =>
 vlv P T_impl_Term t4 w_29 fun r4_4 w_30 =>
 R r4_4 w_30)) (
 vbin P .eql T_int true t6 (.int .i64 17) w_24 fun t24 w_31 =>
 vif t24 (
 vcall P n_spec_l3Bool #[(.bool false)] w_31 fun t25_1 w_32 =>
 vstore P T_impl_Term t4 t25_1 w_32 fun _ w_33 =>
 vlv P T_impl_Term t4 w_33 fun r4_5 w_34 =>
 R r4_5 w_34) (
 vload P T_impl_Term t2 w_31 fun t26_1 w_35 =>
 vstore P T_impl_Term t4 t26_1 w_35 fun _ w_36 =>
 vlv P T_impl_Term t4 w_36 fun r4_6 w_37 =>
 R r4_6 w_37)))))))
def A_spec_l3Alike : Ann := { ord := [], loops := [], cuts := [(12292, [7]), (24583, [14])] }
theorem k_spec_l3Alike (v0 v1 : Value) (w : World) (R : Value → World → Prop) : vc PP A_spec_l3Alike ((Tryz.f126.body).getD .skip) (retF PP Tryz.f126.results.toList R) (nthV [v0, v1]) w = F_spec_l3Alike PP v0 v1 w R := by kernel_rfl
theorem c_spec_l3Alike {v0 v1 : Value} {w : World} {R : Value → World → Prop} (h : F_spec_l3Alike PP v0 v1 w R) : vcall PP n_spec_l3Alike #[v0, v1] w R :=
  call_of_vc (T := A_spec_l3Alike) (c := (Tryz.f126.body).getD .skip) (n := 27) mixed Tryz.func126 rfl rfl (by kernel_rfl) (by kernel_rfl) rfl (by rw [k_spec_l3Alike]; exact h)
def F_spec_l3Right (P : Program) (v0 : Value) (w : World) (R : Value → World → Prop) : Prop :=
 vbox P T_impl_Term v0 w fun t1 w_1 =>
 valloc P T_impl_Term w_1 fun t2 w_2 =>
 vfaddr P T_impl_Term t1 4 w_2 fun t5 w_3 =>
 vload P T_Limpl_Term t5 w_3 fun t6 w_4 =>
 viaddr P T_Limpl_Term t6 (.int .i64 0) w_4 fun t7 w_5 =>
 vload P T_impl_Term t7 w_5 fun t8 w_6 =>
 valloc P T_impl_Term w_6 fun t3 w_7 =>
 vstore P T_impl_Term t3 t8 w_7 fun _ w_8 =>
 vfaddr P T_impl_Term t1 4 w_8 fun t9 w_9 =>
 vload P T_Limpl_Term t9 w_9 fun t10 w_10 =>
 viaddr P T_Limpl_Term t10 (.int .i64 1) w_10 fun t11 w_11 =>
 vload P T_impl_Term t11 w_11 fun t12 w_12 =>
 valloc P T_impl_Term w_12 fun t4 w_13 =>
 vstore P T_impl_Term t4 t12 w_13 fun _ w_14 =>
 vfaddr P T_impl_Term t1 0 w_14 fun t13 w_15 =>
 vload P T_int t13 w_15 fun t14 w_16 =>
 vjoin (fun J =>
 vbin P .eql T_int true t14 (.int .i64 4) w_16 fun t16 w_18 =>
 vif t16 (
 J [t16] w_18) (
 vbin P .eql T_int true t14 (.int .i64 5) w_18 fun t17 w_19 =>
 vif t17 (
 J [t17] w_19) (
 vbin P .eql T_int true t14 (.int .i64 6) w_19 fun t18 w_20 =>
 vif t18 (
 J [t18] w_20) (
 vbin P .eql T_int true t14 (.int .i64 7) w_20 fun t19 w_21 =>
 vif t19 (
 J [t19] w_21) (
 vbin P .eql T_int true t14 (.int .i64 11) w_21 fun t20 w_22 =>
 vif t20 (
 J [t20] w_22) (
 vbin P .eql T_int true t14 (.int .i64 12) w_22 fun t21 w_23 =>
 vif t21 (
 J [t21] w_23) (
 vbin P .eql T_int true t14 (.int .i64 13) w_23 fun t22 w_24 =>
 J [t22] w_24))))))) (fun u _ w_17 =>
 vif (sl 0 u) (
 vload P T_impl_Term t4 w_17 fun t23 w_25 =>
 vcall P n_spec_l3Is #[t23, (.int .i64 0)] w_25 fun t24 w_26 =>
 vif t24 (
 vload P T_impl_Term t3 w_26 fun t25 w_27 =>
 vstore P T_impl_Term t2 t25 w_27 fun _ w_28 =>
 vlv P T_impl_Term t2 w_28 fun r2 w_29 =>
 R r2 w_29) (
 vload P T_impl_Term t1 w_26 fun t39 w_30 =>
 vstore P T_impl_Term t2 t39 w_30 fun _ w_31 =>
 vlv P T_impl_Term t2 w_31 fun r2_1 w_32 =>
 R r2_1 w_32)) (
 vbin P .eql T_int true t14 (.int .i64 3) w_17 fun t27 w_33 =>
 vif t27 (
 vload P T_impl_Term t4 w_33 fun t28 w_34 =>
 vcall P n_spec_l3Is #[t28, (.int .i64 0)] w_34 fun t29 w_35 =>
 vif t29 (
 vload P T_impl_Term t4 w_35 fun t30 w_36 =>
 vstore P T_impl_Term t2 t30 w_36 fun _ w_37 =>
 vlv P T_impl_Term t2 w_37 fun r2_2 w_38 =>
 R r2_2 w_38) (
 vload P T_impl_Term t1 w_35 fun t39_1 w_39 =>
 vstore P T_impl_Term t2 t39_1 w_39 fun _ w_40 =>
 vlv P T_impl_Term t2 w_40 fun r2_3 w_41 =>
 R r2_3 w_41)) (
 vbin P .eql T_int true t14 (.int .i64 8) w_33 fun t32 w_42 =>
 vif t32 (
 vload P T_impl_Term t4 w_42 fun t33 w_43 =>
 vcall P n_spec_l3Is #[t33, (.int .i64 0)] w_43 fun t34 w_44 =>
 vif t34 (
 vload P T_impl_Term t4 w_44 fun t35 w_45 =>
 vstore P T_impl_Term t2 t35 w_45 fun _ w_46 =>
 vlv P T_impl_Term t2 w_46 fun r2_4 w_47 =>
 R r2_4 w_47) (
 vload P T_impl_Term t4 w_44 fun t36 w_48 =>
 vcall P n_spec_l3Is #[t36, (.int .i64 1)] w_48 fun t37 w_49 =>
 vif t37 (
 vload P T_impl_Term t3 w_49 fun t38 w_50 =>
 vstore P T_impl_Term t2 t38 w_50 fun _ w_51 =>
 vlv P T_impl_Term t2 w_51 fun r2_5 w_52 =>
 R r2_5 w_52) (
 vload P T_impl_Term t1 w_49 fun t39_2 w_53 =>
 vstore P T_impl_Term t2 t39_2 w_53 fun _ w_54 =>
 vlv P T_impl_Term t2 w_54 fun r2_6 w_55 =>
 R r2_6 w_55))) (
 vload P T_impl_Term t1 w_42 fun t39_3 w_56 =>
 vstore P T_impl_Term t2 t39_3 w_56 fun _ w_57 =>
 vlv P T_impl_Term t2 w_57 fun r2_7 w_58 =>
 R r2_7 w_58))))
def A_spec_l3Right : Ann := { ord := [], loops := [], cuts := [(20491, [15])] }
theorem k_spec_l3Right (v0 : Value) (w : World) (R : Value → World → Prop) : vc PP A_spec_l3Right ((Tryz.f127.body).getD .skip) (retF PP Tryz.f127.results.toList R) (nthV [v0]) w = F_spec_l3Right PP v0 w R := by kernel_rfl
theorem c_spec_l3Right {v0 : Value} {w : World} {R : Value → World → Prop} (h : F_spec_l3Right PP v0 w R) : vcall PP n_spec_l3Right #[v0] w R :=
  call_of_vc (T := A_spec_l3Right) (c := (Tryz.f127.body).getD .skip) (n := 40) mixed Tryz.func127 rfl rfl (by kernel_rfl) (by kernel_rfl) rfl (by rw [k_spec_l3Right]; exact h)
def F_spec_l2Asks (P : Program) (v0 v1 v2 : Value) (w : World) (R : Value → World → Prop) : Prop :=
 valloc P T_impl_Term w fun t6 w_1 =>
 vcall P n_spec_l12Rd_pick #[v0, (.int .i64 9)] w_1 fun t10 w_2 =>
 vbin P .eql T_int true t10 (.int .i64 0) w_2 fun t12 w_3 =>
 vif t12 (
 vbin P .sub T_int true v2 (.int .i64 1) w_3 fun t16 w_4 =>
 vcall P n_spec_l2Term #[v0, v1, (.int .i64 0), t16] w_4 fun t17 w_5 =>
 vbuildS P T_Limpl_Term 1 [(0, t17)] w_5 fun t18 w_6 =>
 vbuild P T_impl_Term [(0, (.int .i64 25)), (4, t18)] w_6 fun t19 w_7 =>
 vstore P T_impl_Term t6 t19 w_7 fun _ w_8 =>
 vlv P T_impl_Term t6 w_8 fun r6 w_9 =>
 R r6 w_9) (
 vbin P .eql T_int true t10 (.int .i64 1) w_3 fun t21 w_10 =>
 vif t21 (
 vbin P .sub T_int true v2 (.int .i64 1) w_10 fun t25 w_11 =>
 vcall P n_spec_l2Term #[v0, v1, (.int .i64 0), t25] w_11 fun t26 w_12 =>
 vbin P .sub T_int true v2 (.int .i64 1) w_12 fun t30 w_13 =>
 vcall P n_spec_l2Term #[v0, v1, (.int .i64 0), t30] w_13 fun t31 w_14 =>
 vbuildS P T_Limpl_Term 2 [(0, t26), (1, t31)] w_14 fun t32 w_15 =>
 vbuild P T_impl_Term [(0, (.int .i64 26)), (4, t32)] w_15 fun t33 w_16 =>
 vstore P T_impl_Term t6 t33 w_16 fun _ w_17 =>
 vlv P T_impl_Term t6 w_17 fun r6_1 w_18 =>
 R r6_1 w_18) (
 vbin P .eql T_int true t10 (.int .i64 2) w_10 fun t35 w_19 =>
 vif t35 (
 vbin P .sub T_int true v2 (.int .i64 1) w_19 fun t39 w_20 =>
 vcall P n_spec_l2Term #[v0, v1, (.int .i64 0), t39] w_20 fun t40 w_21 =>
 vbin P .sub T_int true v2 (.int .i64 1) w_21 fun t44 w_22 =>
 vcall P n_spec_l2Term #[v0, v1, (.int .i64 0), t44] w_22 fun t45 w_23 =>
 vbuildS P T_Limpl_Term 2 [(0, t40), (1, t45)] w_23 fun t46 w_24 =>
 vbuild P T_impl_Term [(0, (.int .i64 27)), (4, t46)] w_24 fun t47 w_25 =>
 vstore P T_impl_Term t6 t47 w_25 fun _ w_26 =>
 vlv P T_impl_Term t6 w_26 fun r6_2 w_27 =>
 R r6_2 w_27) (
 vcall P n_spec_l12Rd_pick #[v0, (.int .i64 4)] w_19 fun t49 w_28 =>
 vbin P .add T_int true (.int .i64 1) t49 w_28 fun t50 w_29 =>
 vjoin (fun J =>
 vbi P .len [T_Limpl_Decl] T_int [v1] w_29 fun t52 w_31 =>
 vbin P .gtr T_int true t52 (.int .i64 0) w_31 fun t53 w_32 =>
 vif t53 (
 vcall P n_spec_l12Rd_pick #[v0, (.int .i64 3)] w_32 fun t56 w_33 =>
 vbin P .gtr T_int true t56 (.int .i64 0) w_33 fun t57 w_34 =>
 vif t57 (
 vbi P .len [T_Limpl_Decl] T_int [v1] w_34 fun t62 w_35 =>
 vcall P n_spec_l12Rd_pick #[v0, t62] w_35 fun t63 w_36 =>
 viaddr P T_Limpl_Decl v1 t63 w_36 fun t64 w_37 =>
 vfaddr P T_impl_Decl t64 1 w_37 fun t65 w_38 =>
 vload P T_int t65 w_38 fun t66 w_39 =>
 J [t66] w_39) (
 J [t50] w_34)) (
 J [t50] w_32)) (fun u _ w_30 =>
 vbuildS P T_Lint 4 [(0, (.int .i64 15)), (1, (.int .i64 16)), (2, (.int .i64 17)), (3, (.int .i64 15))] w_30 fun t68 w_40 =>
 vcall P n_spec_l12Rd_num #[v0, t68] w_40 fun t69 w_41 =>
 vbin P .sub T_int true v2 (.int .i64 1) w_41 fun t75 w_42 =>
 vcall P n_spec_l2Term #[v0, v1, (sl 0 u), t75] w_42 fun t76 w_43 =>
 vbin P .sub T_int true v2 (.int .i64 1) w_43 fun t81 w_44 =>
 vcall P n_spec_l2Term #[v0, v1, (sl 0 u), t81] w_44 fun t82 w_45 =>
 vbuildS P T_Limpl_Term 2 [(0, t76), (1, t82)] w_45 fun t83 w_46 =>
 vbuild P T_impl_Term [(0, t69), (4, t83)] w_46 fun t84 w_47 =>
 vstore P T_impl_Term t6 t84 w_47 fun _ w_48 =>
 vlv P T_impl_Term t6 w_48 fun r6_3 w_49 =>
 R r6_3 w_49))))
def A_spec_l2Asks : Ann := { ord := [], loops := [], cuts := [(40971, [7])] }
theorem k_spec_l2Asks (v0 v1 v2 : Value) (w : World) (R : Value → World → Prop) : vc PP A_spec_l2Asks ((Tryz.f132.body).getD .skip) (retF PP Tryz.f132.results.toList R) (nthV [v0, v1, v2]) w = F_spec_l2Asks PP v0 v1 v2 w R := by kernel_rfl
theorem c_spec_l2Asks {v0 v1 v2 : Value} {w : World} {R : Value → World → Prop} (h : F_spec_l2Asks PP v0 v1 v2 w R) : vcall PP n_spec_l2Asks #[v0, v1, v2] w R :=
  call_of_vc (T := A_spec_l2Asks) (c := (Tryz.f132.body).getD .skip) (n := 85) mixed Tryz.func132 rfl rfl (by kernel_rfl) (by kernel_rfl) rfl (by rw [k_spec_l2Asks]; exact h)
def F_slices_ContainsFunc_Limpl_Term_impl_Term (P : Program) (v0 v1 : Value) (w : World) (R : Value → World → Prop) : Prop :=
 vcall P n_slices_IndexFunc_Limpl_Term_impl_Term #[v0, v1] w fun t7 w_1 =>
 vbin P .geq T_int true t7 (.int .i64 0) w_1 fun t8 w_2 =>
 R t8 w_2
def A_slices_ContainsFunc_Limpl_Term_impl_Term : Ann := { ord := [], loops := [], cuts := [] }
theorem k_slices_ContainsFunc_Limpl_Term_impl_Term (v0 v1 : Value) (w : World) (R : Value → World → Prop) : vc PP A_slices_ContainsFunc_Limpl_Term_impl_Term ((Tryz.f133.body).getD .skip) (retF PP Tryz.f133.results.toList R) (nthV [v0, v1]) w = F_slices_ContainsFunc_Limpl_Term_impl_Term PP v0 v1 w R := by kernel_rfl
theorem c_slices_ContainsFunc_Limpl_Term_impl_Term {v0 v1 : Value} {w : World} {R : Value → World → Prop} (h : F_slices_ContainsFunc_Limpl_Term_impl_Term PP v0 v1 w R) : vcall PP n_slices_ContainsFunc_Limpl_Term_impl_Term #[v0, v1] w R :=
  call_of_vc (T := A_slices_ContainsFunc_Limpl_Term_impl_Term) (c := (Tryz.f133.body).getD .skip) (n := 9) mixed Tryz.func133 rfl rfl (by kernel_rfl) (by kernel_rfl) rfl (by rw [k_slices_ContainsFunc_Limpl_Term_impl_Term]; exact h)
def F_impl_folder_fixed_1 (P : Program) (v0 : Value) (w : World) (R : Value → World → Prop) : Prop :=
 vbox P T_impl_Term v0 w fun t1 w_1 =>
 vload P T_impl_Term t1 w_1 fun t6 w_2 =>
 vcall P n_impl_TermFixed #[t6] w_2 fun t7 w_3 =>
 vextract P t7 0 w_3 fun _ w_4 =>
 vextract P t7 1 w_4 fun t9 w_5 =>
 vun P .not t9 w_5 fun t11 w_6 =>
 R t11 w_6
def A_impl_folder_fixed_1 : Ann := { ord := [], loops := [], cuts := [] }
theorem k_impl_folder_fixed_1 (v0 : Value) (w : World) (R : Value → World → Prop) : vc PP A_impl_folder_fixed_1 ((Tryz.f134.body).getD .skip) (retF PP Tryz.f134.results.toList R) (nthV [v0]) w = F_impl_folder_fixed_1 PP v0 w R := by kernel_rfl
theorem c_impl_folder_fixed_1 {v0 : Value} {w : World} {R : Value → World → Prop} (h : F_impl_folder_fixed_1 PP v0 w R) : vcall PP n_impl_folder_fixed_1 #[v0] w R :=
  call_of_vc (T := A_impl_folder_fixed_1) (c := (Tryz.f134.body).getD .skip) (n := 12) mixed Tryz.func134 rfl rfl (by kernel_rfl) (by kernel_rfl) rfl (by rw [k_impl_folder_fixed_1]; exact h)
def F_impl_constant (P : Program) (v0 v1 : Value) (w : World) (R : Value → World → Prop) : Prop :=
 valloc P T_impl_Term w fun t4 w_1 =>
 vbin P .gtr T_int true v0 (.int .i64 0) w_1 fun t7 w_2 =>
 vif t7 (
 vbuild P T_impl_Term [(0, (.int .i64 20)), (1, v0), (2, v1)] w_2 fun t10 w_3 =>
 vstore P T_impl_Term t4 t10 w_3 fun _ w_4 =>
 vlv P T_impl_Term t4 w_4 fun r4 w_5 =>
 R r4 w_5) (
 vbin P .eql T_int true v1 (.int .i64 1) w_2 fun t13 w_6 =>
 vif t13 (
 vbuild P T_impl_Term [(0, (.int .i64 24))] w_6 fun t14 w_7 =>
 vstore P T_impl_Term t4 t14 w_7 fun _ w_8 =>
 vlv P T_impl_Term t4 w_8 fun r4_1 w_9 =>
 R r4_1 w_9) (
 vcall P n_impl_falseTerm #[] w_6 fun t15 w_10 =>
 vstore P T_impl_Term t4 t15 w_10 fun _ w_11 =>
 vlv P T_impl_Term t4 w_11 fun r4_2 w_12 =>
 R r4_2 w_12))
def A_impl_constant : Ann := { ord := [], loops := [], cuts := [] }
theorem k_impl_constant (v0 v1 : Value) (w : World) (R : Value → World → Prop) : vc PP A_impl_constant ((Tryz.f135.body).getD .skip) (retF PP Tryz.f135.results.toList R) (nthV [v0, v1]) w = F_impl_constant PP v0 v1 w R := by kernel_rfl
theorem c_impl_constant {v0 v1 : Value} {w : World} {R : Value → World → Prop} (h : F_impl_constant PP v0 v1 w R) : vcall PP n_impl_constant #[v0, v1] w R :=
  call_of_vc (T := A_impl_constant) (c := (Tryz.f135.body).getD .skip) (n := 16) mixed Tryz.func135 rfl rfl (by kernel_rfl) (by kernel_rfl) rfl (by rw [k_impl_constant]; exact h)
def F_impl_folder_sort (P : Program) (v0 v1 : Value) (w : World) (R : Value → World → Prop) : Prop :=
 vbox P T_impl_folder v0 w fun t2 w_1 =>
 vbox P T_impl_Term v1 w_1 fun t3 w_2 =>
 vfaddr P T_impl_folder t2 1 w_2 fun t5 w_3 =>
 vload P T_M_map_int_impl_kind t5 w_3 fun t6 w_4 =>
 vfaddr P T_impl_folder t2 0 w_4 fun t7 w_5 =>
 vload P T_Limpl_Decl t7 w_5 fun t8 w_6 =>
 vload P T_impl_Term t3 w_6 fun t9 w_7 =>
 vcall P n_impl_sortOf #[t6, t8, t9] w_7 fun t10 w_8 =>
 R t10 w_8
def A_impl_folder_sort : Ann := { ord := [], loops := [], cuts := [] }
theorem k_impl_folder_sort (v0 v1 : Value) (w : World) (R : Value → World → Prop) : vc PP A_impl_folder_sort ((Tryz.f136.body).getD .skip) (retF PP Tryz.f136.results.toList R) (nthV [v0, v1]) w = F_impl_folder_sort PP v0 v1 w R := by kernel_rfl
theorem c_impl_folder_sort {v0 v1 : Value} {w : World} {R : Value → World → Prop} (h : F_impl_folder_sort PP v0 v1 w R) : vcall PP n_impl_folder_sort #[v0, v1] w R :=
  call_of_vc (T := A_impl_folder_sort) (c := (Tryz.f136.body).getD .skip) (n := 11) mixed Tryz.func136 rfl rfl (by kernel_rfl) (by kernel_rfl) rfl (by rw [k_impl_folder_sort]; exact h)
def F_impl_is (P : Program) (v0 v1 : Value) (w : World) (R : Value → World → Prop) : Prop :=
 vbox P T_impl_Term v0 w fun t2 w_1 =>
 vload P T_impl_Term t2 w_1 fun t8 w_2 =>
 vcall P n_impl_TermFixed #[t8] w_2 fun t9 w_3 =>
 vextract P t9 0 w_3 fun t10 w_4 =>
 vextract P t9 1 w_4 fun t11 w_5 =>
 vif t11 (
 vbin P .eql T_int false t10 v1 w_5 fun t16 w_6 =>
 R t16 w_6) (
 R (.bool false) w_5)
def A_impl_is : Ann := { ord := [], loops := [], cuts := [] }
theorem k_impl_is (v0 v1 : Value) (w : World) (R : Value → World → Prop) : vc PP A_impl_is ((Tryz.f137.body).getD .skip) (retF PP Tryz.f137.results.toList R) (nthV [v0, v1]) w = F_impl_is PP v0 v1 w R := by kernel_rfl
theorem c_impl_is {v0 v1 : Value} {w : World} {R : Value → World → Prop} (h : F_impl_is PP v0 v1 w R) : vcall PP n_impl_is #[v0, v1] w R :=
  call_of_vc (T := A_impl_is) (c := (Tryz.f137.body).getD .skip) (n := 18) mixed Tryz.func137 rfl rfl (by kernel_rfl) (by kernel_rfl) rfl (by rw [k_impl_is]; exact h)
def F_impl_chosen (P : Program) (v0 v1 : Value) (w : World) (R : Value → World → Prop) : Prop :=
 vbox P T_impl_Term v1 w fun t3 w_1 =>
 valloc P T_impl_Term w_1 fun t4 w_2 =>
 vload P T_impl_Term t3 w_2 fun t6 w_3 =>
 vstore P T_impl_Term t4 t6 w_3 fun _ w_4 =>
 vlv P T_impl_Term t4 w_4 fun r4 w_5 =>
 R (.tuple #[r4, v0]) w_5
def A_impl_chosen : Ann := { ord := [], loops := [], cuts := [] }
theorem k_impl_chosen (v0 v1 : Value) (w : World) (R : Value → World → Prop) : vc PP A_impl_chosen ((Tryz.f138.body).getD .skip) (retF PP Tryz.f138.results.toList R) (nthV [v0, v1]) w = F_impl_chosen PP v0 v1 w R := by kernel_rfl
theorem c_impl_chosen {v0 v1 : Value} {w : World} {R : Value → World → Prop} (h : F_impl_chosen PP v0 v1 w R) : vcall PP n_impl_chosen #[v0, v1] w R :=
  call_of_vc (T := A_impl_chosen) (c := (Tryz.f138.body).getD .skip) (n := 8) mixed Tryz.func138 rfl rfl (by kernel_rfl) (by kernel_rfl) rfl (by rw [k_impl_chosen]; exact h)
def F_impl_among (P : Program) (v0 v1 : Value) (w : World) (R : Value → World → Prop) : Prop :=
 vbox P T_impl_Term v0 w fun t2 w_1 =>
 vfaddr P T_impl_Term t2 0 w_1 fun t6 w_2 =>
 vload P T_int t6 w_2 fun t7 w_3 =>
 vcall P n_slices_Contains_Lint_int #[v1, t7] w_3 fun t8 w_4 =>
 R t8 w_4
def A_impl_among : Ann := { ord := [], loops := [], cuts := [] }
theorem k_impl_among (v0 v1 : Value) (w : World) (R : Value → World → Prop) : vc PP A_impl_among ((Tryz.f139.body).getD .skip) (retF PP Tryz.f139.results.toList R) (nthV [v0, v1]) w = F_impl_among PP v0 v1 w R := by kernel_rfl
theorem c_impl_among {v0 v1 : Value} {w : World} {R : Value → World → Prop} (h : F_impl_among PP v0 v1 w R) : vcall PP n_impl_among #[v0, v1] w R :=
  call_of_vc (T := A_impl_among) (c := (Tryz.f139.body).getD .skip) (n := 9) mixed Tryz.func139 rfl rfl (by kernel_rfl) (by kernel_rfl) rfl (by rw [k_impl_among]; exact h)
def F_spec_l2Vec (P : Program) (v0 v1 v2 : Value) (w : World) (R : Value → World → Prop) : Prop :=
 vbox P T_impl_Term v1 w fun t4 w_1 =>
 valloc P T_impl_Vec w_1 fun t6 w_2 =>
 vdraw w_2 fun w_3 =>
 vload P T_impl_Term t4 w_3 fun t8 w_4 => w_4 = w_3 ∧
 vload P T_impl_Term t4 w_3 fun t11 w_5 => w_5 = w_3 ∧
 vcall P n_spec_l2Sort #[v0, t8] w_3 fun t9 w_6 => (vload P T_impl_Term t4 w_6 fun v x => v = t11 ∧ x = w_6) ∧
 vcall P n_spec_l2Eval #[v0, t11, v2] w_6 fun t13 w_7 =>
 vbuild P T_impl_Vec [(0, t9), (1, t13)] w_7 fun t14 w_8 => w_8 = w_7 ∧
 vstore P T_impl_Vec t6 t14 w_7 fun _ w_9 =>
 vlv P T_impl_Vec t6 w_9 fun r6 w_10 =>
 R r6 w_10
def A_spec_l2Vec : Ann := { ord := [(1, [0, 1, 3, 4, 5, 2, 6, 7, 8], [(0, [2, 6, 7, 8]), (1, [2, 6, 7, 8]), (3, [6, 7, 8]), (4, [6, 7, 8]), (5, [6, 7, 8]), (2, [6, 7, 8]), (6, [7, 8]), (7, [8])])], loops := [], cuts := [] }
theorem k_spec_l2Vec (v0 v1 v2 : Value) (w : World) (R : Value → World → Prop) : vc PP A_spec_l2Vec ((Tryz.f140.body).getD .skip) (retF PP Tryz.f140.results.toList R) (nthV [v0, v1, v2]) w = F_spec_l2Vec PP v0 v1 v2 w R := by kernel_rfl
theorem c_spec_l2Vec {v0 v1 v2 : Value} {w : World} {R : Value → World → Prop} (h : F_spec_l2Vec PP v0 v1 v2 w R) : vcall PP n_spec_l2Vec #[v0, v1, v2] w R :=
  call_of_vc (T := A_spec_l2Vec) (c := (Tryz.f140.body).getD .skip) (n := 15) mixed Tryz.func140 rfl rfl (by kernel_rfl) (by kernel_rfl) rfl (by rw [k_spec_l2Vec]; exact h)
def F_spec_VecCut (P : Program) (v0 v1 v2 : Value) (w : World) (R : Value → World → Prop) : Prop :=
 vbox P T_impl_Vec v0 w fun t3 w_1 =>
 valloc P T_impl_Vec w_1 fun t6 w_2 =>
 vjoin (fun J =>
 vload P T_impl_Vec t3 w_2 fun t9 w_4 =>
 vcall P n_spec_VecOk #[t9] w_4 fun t10 w_5 =>
 vun P .not t10 w_5 fun t11 w_6 =>
 vif t11 (
 vbuild P T_impl_Vec [] w_6 fun t27 w_7 =>
 vstore P T_impl_Vec t6 t27 w_7 fun _ w_8 =>
 vlv P T_impl_Vec t6 w_8 fun r6 w_9 =>
 R (.tuple #[r6, (.bool false)]) w_9) (
 vbin P .lss T_int true v2 (.int .i64 0) w_6 fun t14 w_10 =>
 vif t14 (
 vbuild P T_impl_Vec [] w_10 fun t27_1 w_11 =>
 vstore P T_impl_Vec t6 t27_1 w_11 fun _ w_12 =>
 vlv P T_impl_Vec t6 w_12 fun r6_1 w_13 =>
 R (.tuple #[r6_1, (.bool false)]) w_13) (
 vbin P .lss T_int false v1 v2 w_10 fun t19 w_14 =>
 vif t19 (
 vbuild P T_impl_Vec [] w_14 fun t27_2 w_15 =>
 vstore P T_impl_Vec t6 t27_2 w_15 fun _ w_16 =>
 vlv P T_impl_Vec t6 w_16 fun r6_2 w_17 =>
 R (.tuple #[r6_2, (.bool false)]) w_17) (
 vfaddr P T_impl_Vec t3 0 w_14 fun t23 w_18 =>
 vload P T_int t23 w_18 fun t24 w_19 =>
 vbin P .geq T_int false v1 t24 w_19 fun t25 w_20 =>
 vif t25 (
 vbuild P T_impl_Vec [] w_20 fun t27_3 w_21 =>
 vstore P T_impl_Vec t6 t27_3 w_21 fun _ w_22 =>
 vlv P T_impl_Vec t6 w_22 fun r6_3 w_23 =>
 R (.tuple #[r6_3, (.bool false)]) w_23) (
 J [] w_20))))) (fun _ _ w_3 =>
 vbin P .sub T_int false v1 v2 w_3 fun t30 w_24 =>
 vbin P .add T_int true t30 (.int .i64 1) w_24 fun t31 w_25 =>
 vdraw w_25 fun w_26 =>
 vfaddr P T_impl_Vec t3 1 w_26 fun t33 w_27 => w_27 = w_26 ∧
 vload P T_int t33 w_26 fun t34 w_28 => w_28 = w_26 ∧
 vcall P n_spec_l1Two #[v2] w_26 fun t36 w_29 => (vload P T_int t33 w_29 fun v x => v = t34 ∧ x = w_29) ∧ (vfaddr P T_impl_Vec t3 1 w_29 fun v x => v = t33 ∧ x = w_29) ∧
 vbin P .quo T_int false t34 t36 w_29 fun t37 w_30 => w_30 = w_29 ∧
 vcall P n_spec_l1Two #[t31] w_29 fun t39 w_31 => (vbin P .quo T_int false t34 t36 w_31 fun v x => v = t37 ∧ x = w_31) ∧ (vload P T_int t33 w_31 fun v x => v = t34 ∧ x = w_31) ∧ (vfaddr P T_impl_Vec t3 1 w_31 fun v x => v = t33 ∧ x = w_31) ∧
 vbin P .rem T_int false t37 t39 w_31 fun t40 w_32 => w_32 = w_31 ∧
 vbuild P T_impl_Vec [(0, t31), (1, t40)] w_31 fun t41 w_33 => w_33 = w_31 ∧
 vstore P T_impl_Vec t6 t41 w_31 fun _ w_34 =>
 vlv P T_impl_Vec t6 w_34 fun r6_4 w_35 =>
 R (.tuple #[r6_4, (.bool true)]) w_35)
def A_spec_VecCut : Ann := { ord := [(4, [0, 1, 2, 3, 6, 4, 5, 7, 8, 9, 10, 11], [(0, [9, 10, 11]), (1, [2, 5, 8, 9, 10, 11]), (2, [5, 8, 9, 10, 11]), (3, [4, 5, 7, 8, 9, 10, 11]), (6, [7, 8, 9, 10, 11]), (4, [5, 7, 8, 9, 10, 11]), (5, [8, 9, 10, 11]), (7, [8, 9, 10, 11]), (8, [9, 10, 11]), (9, [10, 11]), (10, [11])])], loops := [], cuts := [(8195, [])] }
theorem k_spec_VecCut (v0 v1 v2 : Value) (w : World) (R : Value → World → Prop) : vc PP A_spec_VecCut ((Tryz.f141.body).getD .skip) (retF PP Tryz.f141.results.toList R) (nthV [v0, v1, v2]) w = F_spec_VecCut PP v0 v1 v2 w R := by kernel_rfl
theorem c_spec_VecCut {v0 v1 v2 : Value} {w : World} {R : Value → World → Prop} (h : F_spec_VecCut PP v0 v1 v2 w R) : vcall PP n_spec_VecCut #[v0, v1, v2] w R :=
  call_of_vc (T := A_spec_VecCut) (c := (Tryz.f141.body).getD .skip) (n := 42) mixed Tryz.func141 rfl rfl (by kernel_rfl) (by kernel_rfl) rfl (by rw [k_spec_VecCut]; exact h)
def F_spec_VecUn (P : Program) (v0 v1 : Value) (w : World) (R : Value → World → Prop) : Prop :=
 vbox P T_impl_Vec v1 w fun t3 w_1 =>
 valloc P T_impl_Vec w_1 fun t4 w_2 =>
 vload P T_impl_Vec t3 w_2 fun t6 w_3 =>
 vcall P n_spec_VecOk #[t6] w_3 fun t7 w_4 =>
 vun P .not t7 w_4 fun t8 w_5 =>
 vif t8 (
 vbuild P T_impl_Vec [] w_5 fun t9 w_6 =>
 vstore P T_impl_Vec t4 t9 w_6 fun _ w_7 =>
 vlv P T_impl_Vec t4 w_7 fun r4 w_8 =>
 R (.tuple #[r4, (.bool false)]) w_8) (
 vbin P .eql T_int true v0 (.int .i64 1) w_5 fun t12 w_9 =>
 vif t12 (
 vdraw w_9 fun w_10 =>
 vfaddr P T_impl_Vec t3 0 w_10 fun t13 w_11 => w_11 = w_10 ∧
 vload P T_int t13 w_10 fun t14 w_12 => w_12 = w_10 ∧
 vfaddr P T_impl_Vec t3 0 w_10 fun t15 w_13 => w_13 = w_10 ∧
 vload P T_int t15 w_10 fun t16 w_14 => w_14 = w_10 ∧
 vfaddr P T_impl_Vec t3 1 w_10 fun t19 w_15 => w_15 = w_10 ∧
 vload P T_int t19 w_10 fun t20 w_16 => w_16 = w_10 ∧
 vcall P n_spec_l1Two #[t16] w_10 fun t17 w_17 => (vload P T_int t19 w_17 fun v x => v = t20 ∧ x = w_17) ∧ (vfaddr P T_impl_Vec t3 1 w_17 fun v x => v = t19 ∧ x = w_17) ∧ (vload P T_int t13 w_17 fun v x => v = t14 ∧ x = w_17) ∧ (vfaddr P T_impl_Vec t3 0 w_17 fun v x => v = t13 ∧ x = w_17) ∧
 vbin P .sub T_int true t17 (.int .i64 1) w_17 fun t18 w_18 => w_18 = w_17 ∧
 vbin P .sub T_int false t18 t20 w_17 fun t21 w_19 => w_19 = w_17 ∧
 vbuild P T_impl_Vec [(0, t14), (1, t21)] w_17 fun t22 w_20 => w_20 = w_17 ∧
 vstore P T_impl_Vec t4 t22 w_17 fun _ w_21 =>
 vlv P T_impl_Vec t4 w_21 fun r4_1 w_22 =>
 R (.tuple #[r4_1, (.bool true)]) w_22) (
 vbin P .eql T_int true v0 (.int .i64 2) w_9 fun t24 w_23 =>
 vif t24 (
 vdraw w_23 fun w_24 =>
 vfaddr P T_impl_Vec t3 0 w_24 fun t25 w_25 => w_25 = w_24 ∧
 vload P T_int t25 w_24 fun t26 w_26 => w_26 = w_24 ∧
 vfaddr P T_impl_Vec t3 1 w_24 fun t27 w_27 => w_27 = w_24 ∧
 vload P T_int t27 w_24 fun t28 w_28 => w_28 = w_24 ∧
 vun P .neg t28 w_24 fun t29 w_29 => w_29 = w_24 ∧
 vfaddr P T_impl_Vec t3 0 w_24 fun t30 w_30 => w_30 = w_24 ∧
 vload P T_int t30 w_24 fun t31 w_31 => w_31 = w_24 ∧
 vcall P n_spec_l1Mod #[t29, t31] w_24 fun t32 w_32 => (vload P T_int t25 w_32 fun v x => v = t26 ∧ x = w_32) ∧ (vfaddr P T_impl_Vec t3 0 w_32 fun v x => v = t25 ∧ x = w_32) ∧
 vbuild P T_impl_Vec [(0, t26), (1, t32)] w_32 fun t33 w_33 => w_33 = w_32 ∧
 vstore P T_impl_Vec t4 t33 w_32 fun _ w_34 =>
 vlv P T_impl_Vec t4 w_34 fun r4_2 w_35 =>
 R (.tuple #[r4_2, (.bool true)]) w_35) (
 vbuild P T_impl_Vec [] w_23 fun t34 w_36 =>
 vstore P T_impl_Vec t4 t34 w_36 fun _ w_37 =>
 vlv P T_impl_Vec t4 w_37 fun r4_3 w_38 =>
 R (.tuple #[r4_3, (.bool false)]) w_38)))
def A_spec_VecUn : Ann := { ord := [(5, [0, 1, 2, 3, 6, 7, 4, 5, 8, 9, 10, 11], [(0, [1, 9, 10, 11]), (1, [9, 10, 11]), (2, [3, 4, 5, 8, 9, 10, 11]), (3, [4, 5, 8, 9, 10, 11]), (6, [7, 8, 9, 10, 11]), (7, [8, 9, 10, 11]), (4, [5, 8, 9, 10, 11]), (5, [8, 9, 10, 11]), (8, [9, 10, 11]), (9, [10, 11]), (10, [11])]), (7, [0, 1, 2, 3, 4, 5, 6, 7, 8, 9, 10], [(0, [1, 8, 9, 10]), (1, [8, 9, 10]), (2, [3, 4, 7, 8, 9, 10]), (3, [4, 7, 8, 9, 10]), (4, [7, 8, 9, 10]), (5, [6, 7, 8, 9, 10]), (6, [7, 8, 9, 10]), (7, [8, 9, 10]), (8, [9, 10]), (9, [10])])], loops := [], cuts := [] }
theorem k_spec_VecUn (v0 v1 : Value) (w : World) (R : Value → World → Prop) : vc PP A_spec_VecUn ((Tryz.f142.body).getD .skip) (retF PP Tryz.f142.results.toList R) (nthV [v0, v1]) w = F_spec_VecUn PP v0 v1 w R := by kernel_rfl
theorem c_spec_VecUn {v0 v1 : Value} {w : World} {R : Value → World → Prop} (h : F_spec_VecUn PP v0 v1 w R) : vcall PP n_spec_VecUn #[v0, v1] w R :=
  call_of_vc (T := A_spec_VecUn) (c := (Tryz.f142.body).getD .skip) (n := 35) mixed Tryz.func142 rfl rfl (by kernel_rfl) (by kernel_rfl) rfl (by rw [k_spec_VecUn]; exact h)
def F_spec_VecCmp (P : Program) (v0 v1 v2 : Value) (w : World) (R : Value → World → Prop) : Prop :=
 vbox P T_impl_Vec v1 w fun t4 w_1 =>
 vbox P T_impl_Vec v2 w_1 fun t5 w_2 =>
 vjoin (fun J =>
 vload P T_impl_Vec t4 w_2 fun t8 w_4 =>
 vcall P n_spec_VecOk #[t8] w_4 fun t9 w_5 =>
 vun P .not t9 w_5 fun t10 w_6 =>
 vif t10 (
 R (.tuple #[(.bool false), (.bool false)]) w_6) (
 vload P T_impl_Vec t5 w_6 fun t12 w_7 =>
 vcall P n_spec_VecOk #[t12] w_7 fun t13 w_8 =>
 vun P .not t13 w_8 fun t14 w_9 =>
 vif t14 (
 R (.tuple #[(.bool false), (.bool false)]) w_9) (
 vfaddr P T_impl_Vec t4 0 w_9 fun t17 w_10 =>
 vload P T_int t17 w_10 fun t18 w_11 =>
 vfaddr P T_impl_Vec t5 0 w_11 fun t19 w_12 =>
 vload P T_int t19 w_12 fun t20 w_13 =>
 vbin P .neq T_int false t18 t20 w_13 fun t21 w_14 =>
 vif t21 (
 R (.tuple #[(.bool false), (.bool false)]) w_14) (
 J [] w_14)))) (fun _ _ w_3 =>
 vbin P .eql T_int true v0 (.int .i64 15) w_3 fun t25 w_15 =>
 vif t25 (
 vfaddr P T_impl_Vec t4 1 w_15 fun t26 w_16 =>
 vload P T_int t26 w_16 fun t27 w_17 =>
 vfaddr P T_impl_Vec t5 1 w_17 fun t28 w_18 =>
 vload P T_int t28 w_18 fun t29 w_19 =>
 vbin P .eql T_int false t27 t29 w_19 fun t30 w_20 =>
 R (.tuple #[t30, (.bool true)]) w_20) (
 vbin P .eql T_int true v0 (.int .i64 16) w_15 fun t32 w_21 =>
 vif t32 (
 vfaddr P T_impl_Vec t4 1 w_21 fun t33 w_22 =>
 vload P T_int t33 w_22 fun t34 w_23 =>
 vfaddr P T_impl_Vec t5 1 w_23 fun t35 w_24 =>
 vload P T_int t35 w_24 fun t36 w_25 =>
 vbin P .lss T_int false t34 t36 w_25 fun t37 w_26 =>
 R (.tuple #[t37, (.bool true)]) w_26) (
 vbin P .eql T_int true v0 (.int .i64 17) w_21 fun t39 w_27 =>
 vif t39 (
 vdraw w_27 fun w_28 =>
 vload P T_impl_Vec t4 w_28 fun t40 w_29 => w_29 = w_28 ∧
 vload P T_impl_Vec t5 w_28 fun t42 w_30 => w_30 = w_28 ∧
 vcall P n_spec_l1Signed #[t40] w_28 fun t41 w_31 => (vload P T_impl_Vec t5 w_31 fun v x => v = t42 ∧ x = w_31) ∧
 vcall P n_spec_l1Signed #[t42] w_31 fun t43 w_32 =>
 vbin P .lss T_int false t41 t43 w_32 fun t44 w_33 => w_33 = w_32 ∧
 R (.tuple #[t44, (.bool true)]) w_32) (
 R (.tuple #[(.bool false), (.bool false)]) w_27))))
def A_spec_VecCmp : Ann := { ord := [(9, [0, 2, 1, 3, 4, 5, 6], [(0, [1, 3, 4, 5, 6]), (2, [3, 4, 5, 6]), (1, [3, 4, 5, 6]), (3, [4, 5, 6]), (4, [5, 6]), (5, [6])])], loops := [], cuts := [(8195, [])] }
theorem k_spec_VecCmp (v0 v1 v2 : Value) (w : World) (R : Value → World → Prop) : vc PP A_spec_VecCmp ((Tryz.f143.body).getD .skip) (retF PP Tryz.f143.results.toList R) (nthV [v0, v1, v2]) w = F_spec_VecCmp PP v0 v1 v2 w R := by kernel_rfl
theorem c_spec_VecCmp {v0 v1 v2 : Value} {w : World} {R : Value → World → Prop} (h : F_spec_VecCmp PP v0 v1 v2 w R) : vcall PP n_spec_VecCmp #[v0, v1, v2] w R :=
  call_of_vc (T := A_spec_VecCmp) (c := (Tryz.f143.body).getD .skip) (n := 45) mixed Tryz.func143 rfl rfl (by kernel_rfl) (by kernel_rfl) rfl (by rw [k_spec_VecCmp]; exact h)
def F_spec_VecBin (P : Program) (v0 v1 v2 : Value) (w : World) (R : Value → World → Prop) : Prop :=
 vbox P T_impl_Vec v1 w fun t4 w_1 =>
 vbox P T_impl_Vec v2 w_1 fun t5 w_2 =>
 valloc P T_impl_Vec w_2 fun t6 w_3 =>
 vjoin (fun J =>
 vload P T_impl_Vec t4 w_3 fun t10 w_5 =>
 vcall P n_spec_VecOk #[t10] w_5 fun t11 w_6 =>
 vun P .not t11 w_6 fun t12 w_7 =>
 vif t12 (
 vbuild P T_impl_Vec [] w_7 fun t18 w_8 =>
 vstore P T_impl_Vec t6 t18 w_8 fun _ w_9 =>
 vlv P T_impl_Vec t6 w_9 fun r6 w_10 =>
 R (.tuple #[r6, (.bool false)]) w_10) (
 vload P T_impl_Vec t5 w_7 fun t14 w_11 =>
 vcall P n_spec_VecOk #[t14] w_11 fun t15 w_12 =>
 vun P .not t15 w_12 fun t16 w_13 =>
 vif t16 (
 vbuild P T_impl_Vec [] w_13 fun t18_1 w_14 =>
 vstore P T_impl_Vec t6 t18_1 w_14 fun _ w_15 =>
 vlv P T_impl_Vec t6 w_15 fun r6_1 w_16 =>
 R (.tuple #[r6_1, (.bool false)]) w_16) (
 J [] w_13))) (fun _ _ w_4 =>
 vbin P .eql T_int true v0 (.int .i64 14) w_4 fun t20 w_17 =>
 vif t20 (
 vfaddr P T_impl_Vec t4 0 w_17 fun t21 w_18 =>
 vload P T_int t21 w_18 fun t22 w_19 =>
 vfaddr P T_impl_Vec t5 0 w_19 fun t23 w_20 =>
 vload P T_int t23 w_20 fun t24 w_21 =>
 vbin P .add T_int false t22 t24 w_21 fun t25 w_22 =>
 vbin P .gtr T_int true t25 (.int .i64 4) w_22 fun t26 w_23 =>
 vif t26 (
 vbuild P T_impl_Vec [] w_23 fun t27 w_24 =>
 vstore P T_impl_Vec t6 t27 w_24 fun _ w_25 =>
 vlv P T_impl_Vec t6 w_25 fun r6_2 w_26 =>
 R (.tuple #[r6_2, (.bool false)]) w_26) (
 vdraw w_23 fun w_27 =>
 vfaddr P T_impl_Vec t4 0 w_27 fun t28 w_28 => w_28 = w_27 ∧
 vload P T_int t28 w_27 fun t29 w_29 => w_29 = w_27 ∧
 vfaddr P T_impl_Vec t5 0 w_27 fun t30 w_30 => w_30 = w_27 ∧
 vload P T_int t30 w_27 fun t31 w_31 => w_31 = w_27 ∧
 vbin P .add T_int false t29 t31 w_27 fun t32 w_32 => w_32 = w_27 ∧
 vfaddr P T_impl_Vec t4 1 w_27 fun t33 w_33 => w_33 = w_27 ∧
 vload P T_int t33 w_27 fun t34 w_34 => w_34 = w_27 ∧
 vfaddr P T_impl_Vec t5 0 w_27 fun t35 w_35 => w_35 = w_27 ∧
 vload P T_int t35 w_27 fun t36 w_36 => w_36 = w_27 ∧
 vfaddr P T_impl_Vec t5 1 w_27 fun t39 w_37 => w_37 = w_27 ∧
 vload P T_int t39 w_27 fun t40 w_38 => w_38 = w_27 ∧
 vcall P n_spec_l1Two #[t36] w_27 fun t37 w_39 => (vload P T_int t39 w_39 fun v x => v = t40 ∧ x = w_39) ∧ (vfaddr P T_impl_Vec t5 1 w_39 fun v x => v = t39 ∧ x = w_39) ∧ (vload P T_int t33 w_39 fun v x => v = t34 ∧ x = w_39) ∧ (vfaddr P T_impl_Vec t4 1 w_39 fun v x => v = t33 ∧ x = w_39) ∧ (vbin P .add T_int false t29 t31 w_39 fun v x => v = t32 ∧ x = w_39) ∧ (vload P T_int t30 w_39 fun v x => v = t31 ∧ x = w_39) ∧ (vfaddr P T_impl_Vec t5 0 w_39 fun v x => v = t30 ∧ x = w_39) ∧ (vload P T_int t28 w_39 fun v x => v = t29 ∧ x = w_39) ∧ (vfaddr P T_impl_Vec t4 0 w_39 fun v x => v = t28 ∧ x = w_39) ∧
 vbin P .mul T_int false t34 t37 w_39 fun t38 w_40 => w_40 = w_39 ∧
 vbin P .add T_int false t38 t40 w_39 fun t41 w_41 => w_41 = w_39 ∧
 vbuild P T_impl_Vec [(0, t32), (1, t41)] w_39 fun t42 w_42 => w_42 = w_39 ∧
 vstore P T_impl_Vec t6 t42 w_39 fun _ w_43 =>
 vlv P T_impl_Vec t6 w_43 fun r6_3 w_44 =>
 R (.tuple #[r6_3, (.bool true)]) w_44)) (
 vload P T_impl_Vec t4 w_17 fun t45 w_45 =>
 vload P T_impl_Vec t5 w_45 fun t46 w_46 =>
 vcall P n_spec_l1Bin #[v0, t45, t46] w_46 fun t47 w_47 =>
 vextract P t47 0 w_47 fun t48 w_48 =>
 vextract P t47 1 w_48 fun t49 w_49 =>
 vun P .not t49 w_49 fun t51 w_50 =>
 vif t51 (
 vbuild P T_impl_Vec [] w_50 fun t59 w_51 =>
 vstore P T_impl_Vec t6 t59 w_51 fun _ w_52 =>
 vlv P T_impl_Vec t6 w_52 fun r6_4 w_53 =>
 R (.tuple #[r6_4, (.bool false)]) w_53) (
 vfaddr P T_impl_Vec t4 0 w_50 fun t53 w_54 =>
 vload P T_int t53 w_54 fun t54 w_55 =>
 vfaddr P T_impl_Vec t5 0 w_55 fun t55 w_56 =>
 vload P T_int t55 w_56 fun t56 w_57 =>
 vbin P .neq T_int false t54 t56 w_57 fun t57 w_58 =>
 vif t57 (
 vbuild P T_impl_Vec [] w_58 fun t59_1 w_59 =>
 vstore P T_impl_Vec t6 t59_1 w_59 fun _ w_60 =>
 vlv P T_impl_Vec t6 w_60 fun r6_5 w_61 =>
 R (.tuple #[r6_5, (.bool false)]) w_61) (
 vfaddr P T_impl_Vec t4 0 w_58 fun t60 w_62 =>
 vload P T_int t60 w_62 fun t61 w_63 =>
 vbuild P T_impl_Vec [(0, t61), (1, t48)] w_63 fun t63 w_64 =>
 vstore P T_impl_Vec t6 t63 w_64 fun _ w_65 =>
 vlv P T_impl_Vec t6 w_65 fun r6_6 w_66 =>
 R (.tuple #[r6_6, (.bool true)]) w_66))))
def A_spec_VecBin : Ann := { ord := [(6, [0, 1, 2, 3, 4, 5, 6, 7, 8, 11, 12, 9, 10, 13, 14, 15, 16], [(0, [1, 4, 14, 15, 16]), (1, [4, 14, 15, 16]), (2, [3, 4, 14, 15, 16]), (3, [4, 14, 15, 16]), (4, [14, 15, 16]), (5, [6, 10, 13, 14, 15, 16]), (6, [10, 13, 14, 15, 16]), (7, [8, 9, 10, 13, 14, 15, 16]), (8, [9, 10, 13, 14, 15, 16]), (11, [12, 13, 14, 15, 16]), (12, [13, 14, 15, 16]), (9, [10, 13, 14, 15, 16]), (10, [13, 14, 15, 16]), (13, [14, 15, 16]), (14, [15, 16]), (15, [16])])], loops := [], cuts := [(8195, [])] }
theorem k_spec_VecBin (v0 v1 v2 : Value) (w : World) (R : Value → World → Prop) : vc PP A_spec_VecBin ((Tryz.f144.body).getD .skip) (retF PP Tryz.f144.results.toList R) (nthV [v0, v1, v2]) w = F_spec_VecBin PP v0 v1 v2 w R := by kernel_rfl
theorem c_spec_VecBin {v0 v1 v2 : Value} {w : World} {R : Value → World → Prop} (h : F_spec_VecBin PP v0 v1 v2 w R) : vcall PP n_spec_VecBin #[v0, v1, v2] w R :=
  call_of_vc (T := A_spec_VecBin) (c := (Tryz.f144.body).getD .skip) (n := 64) mixed Tryz.func144 rfl rfl (by kernel_rfl) (by kernel_rfl) rfl (by rw [k_spec_VecBin]; exact h)
def F_slices_IndexFunc_Limpl_Term_impl_Term (P : Program) (v0 v1 : Value) (w : World) (R : Value → World → Prop) : Prop :=
 vbi P .len [T_Limpl_Term] T_int [v0] w fun t7 w_1 =>
 vloop [(.int .i64 0)] w_1 fun C u _ w_2 =>
 vbin P .lss T_int false (sl 0 u) t7 w_2 fun t9 w_3 =>
 vif t9 (
 viaddr P T_Limpl_Term v0 (sl 0 u) w_3 fun t14 w_4 =>
 vload P T_impl_Term t14 w_4 fun t15 w_5 =>
 vcallv P v1 #[t15] w_5 fun t16 w_6 =>
 vif t16 (
 R (sl 0 u) w_6) (
 vbin P .add T_int true (sl 0 u) (.int .i64 1) w_6 fun t18 w_7 =>
 C [t18] w_7)) (
 R (.int .i64 (-1)) w_3)
def A_slices_IndexFunc_Limpl_Term_impl_Term : Ann := { ord := [], loops := [(2, [8])], cuts := [] }
theorem k_slices_IndexFunc_Limpl_Term_impl_Term (v0 v1 : Value) (w : World) (R : Value → World → Prop) : vc PP A_slices_IndexFunc_Limpl_Term_impl_Term ((Tryz.f148.body).getD .skip) (retF PP Tryz.f148.results.toList R) (nthV [v0, v1]) w = F_slices_IndexFunc_Limpl_Term_impl_Term PP v0 v1 w R := by kernel_rfl
theorem c_slices_IndexFunc_Limpl_Term_impl_Term {v0 v1 : Value} {w : World} {R : Value → World → Prop} (h : F_slices_IndexFunc_Limpl_Term_impl_Term PP v0 v1 w R) : vcall PP n_slices_IndexFunc_Limpl_Term_impl_Term #[v0, v1] w R :=
  call_of_vc (T := A_slices_IndexFunc_Limpl_Term_impl_Term) (c := (Tryz.f148.body).getD .skip) (n := 19) mixed Tryz.func148 rfl rfl (by kernel_rfl) (by kernel_rfl) rfl (by rw [k_slices_IndexFunc_Limpl_Term_impl_Term]; exact h)
def F_slices_Contains_Lint_int (P : Program) (v0 v1 : Value) (w : World) (R : Value → World → Prop) : Prop :=
 vcall P n_slices_Index_Lint_int #[v0, v1] w fun t7 w_1 =>
 vbin P .geq T_int true t7 (.int .i64 0) w_1 fun t8 w_2 =>
 R t8 w_2
def A_slices_Contains_Lint_int : Ann := { ord := [], loops := [], cuts := [] }
theorem k_slices_Contains_Lint_int (v0 v1 : Value) (w : World) (R : Value → World → Prop) : vc PP A_slices_Contains_Lint_int ((Tryz.f149.body).getD .skip) (retF PP Tryz.f149.results.toList R) (nthV [v0, v1]) w = F_slices_Contains_Lint_int PP v0 v1 w R := by kernel_rfl
theorem c_slices_Contains_Lint_int {v0 v1 : Value} {w : World} {R : Value → World → Prop} (h : F_slices_Contains_Lint_int PP v0 v1 w R) : vcall PP n_slices_Contains_Lint_int #[v0, v1] w R :=
  call_of_vc (T := A_slices_Contains_Lint_int) (c := (Tryz.f149.body).getD .skip) (n := 9) mixed Tryz.func149 rfl rfl (by kernel_rfl) (by kernel_rfl) rfl (by rw [k_slices_Contains_Lint_int]; exact h)
def F_spec_l1Mod (P : Program) (v0 v1 : Value) (w : World) (R : Value → World → Prop) : Prop :=
 vcall P n_spec_l1Two #[v1] w fun t7 w_1 =>
 vbin P .rem T_int false v0 t7 w_1 fun t10 w_2 =>
 vbin P .lss T_int true t10 (.int .i64 0) w_2 fun t12 w_3 =>
 vif t12 (
 vbin P .add T_int false t10 t7 w_3 fun t15 w_4 =>
 R t15 w_4) (
 R t10 w_3)
def A_spec_l1Mod : Ann := { ord := [], loops := [], cuts := [] }
theorem k_spec_l1Mod (v0 v1 : Value) (w : World) (R : Value → World → Prop) : vc PP A_spec_l1Mod ((Tryz.f150.body).getD .skip) (retF PP Tryz.f150.results.toList R) (nthV [v0, v1]) w = F_spec_l1Mod PP v0 v1 w R := by kernel_rfl
theorem c_spec_l1Mod {v0 v1 : Value} {w : World} {R : Value → World → Prop} (h : F_spec_l1Mod PP v0 v1 w R) : vcall PP n_spec_l1Mod #[v0, v1] w R :=
  call_of_vc (T := A_spec_l1Mod) (c := (Tryz.f150.body).getD .skip) (n := 17) mixed Tryz.func150 rfl rfl (by kernel_rfl) (by kernel_rfl) rfl (by rw [k_spec_l1Mod]; exact h)
def F_spec_l1Signed (P : Program) (v0 : Value) (w : World) (R : Value → World → Prop) : Prop :=
 vbox P T_impl_Vec v0 w fun t1 w_1 =>
 vfaddr P T_impl_Vec t1 1 w_1 fun t3 w_2 =>
 vload P T_int t3 w_2 fun t4 w_3 =>
 vfaddr P T_impl_Vec t1 0 w_3 fun t5 w_4 =>
 vload P T_int t5 w_4 fun t6 w_5 =>
 vbin P .sub T_int true t6 (.int .i64 1) w_5 fun t7 w_6 =>
 vcall P n_spec_l1Bit #[t4, t7] w_6 fun t8 w_7 =>
 vbin P .eql T_int true t8 (.int .i64 1) w_7 fun t9 w_8 =>
 vif t9 (
 vdraw w_8 fun w_9 =>
 vfaddr P T_impl_Vec t1 1 w_9 fun t10 w_10 => w_10 = w_9 ∧
 vload P T_int t10 w_9 fun t11 w_11 => w_11 = w_9 ∧
 vfaddr P T_impl_Vec t1 0 w_9 fun t12 w_12 => w_12 = w_9 ∧
 vload P T_int t12 w_9 fun t13 w_13 => w_13 = w_9 ∧
 vcall P n_spec_l1Two #[t13] w_9 fun t14 w_14 => (vload P T_int t10 w_14 fun v x => v = t11 ∧ x = w_14) ∧ (vfaddr P T_impl_Vec t1 1 w_14 fun v x => v = t10 ∧ x = w_14) ∧
 vbin P .sub T_int false t11 t14 w_14 fun t15 w_15 => w_15 = w_14 ∧
 R t15 w_14) (
 vfaddr P T_impl_Vec t1 1 w_8 fun t16 w_16 =>
 vload P T_int t16 w_16 fun t17 w_17 =>
 R t17 w_17)
def A_spec_l1Signed : Ann := { ord := [(2, [0, 1, 2, 3, 4, 5, 6], [(0, [1, 5, 6]), (1, [5, 6]), (2, [3, 4, 5, 6]), (3, [4, 5, 6]), (4, [5, 6]), (5, [6])])], loops := [], cuts := [] }
theorem k_spec_l1Signed (v0 : Value) (w : World) (R : Value → World → Prop) : vc PP A_spec_l1Signed ((Tryz.f151.body).getD .skip) (retF PP Tryz.f151.results.toList R) (nthV [v0]) w = F_spec_l1Signed PP v0 w R := by kernel_rfl
theorem c_spec_l1Signed {v0 : Value} {w : World} {R : Value → World → Prop} (h : F_spec_l1Signed PP v0 w R) : vcall PP n_spec_l1Signed #[v0] w R :=
  call_of_vc (T := A_spec_l1Signed) (c := (Tryz.f151.body).getD .skip) (n := 18) mixed Tryz.func151 rfl rfl (by kernel_rfl) (by kernel_rfl) rfl (by rw [k_spec_l1Signed]; exact h)
def F_spec_l1Bin (P : Program) (v0 v1 v2 : Value) (w : World) (R : Value → World → Prop) : Prop :=
 vbox P T_impl_Vec v1 w fun t4 w_1 =>
 vbox P T_impl_Vec v2 w_1 fun t5 w_2 =>
 vjoin (fun J =>
 vbin P .eql T_int true v0 (.int .i64 3) w_2 fun t10 w_4 =>
 vif t10 (
 J [t10] w_4) (
 vbin P .eql T_int true v0 (.int .i64 4) w_4 fun t11 w_5 =>
 vif t11 (
 J [t11] w_5) (
 vbin P .eql T_int true v0 (.int .i64 5) w_5 fun t12 w_6 =>
 J [t12] w_6))) (fun u _ w_3 =>
 vif (sl 0 u) (
 vfaddr P T_impl_Vec t4 1 w_3 fun t14 w_7 =>
 vload P T_int t14 w_7 fun t15 w_8 =>
 vfaddr P T_impl_Vec t5 1 w_8 fun t16 w_9 =>
 vload P T_int t16 w_9 fun t17 w_10 =>
 vcall P n_spec_l1Bits #[v0, t15, t17] w_10 fun t18 w_11 =>
 R (.tuple #[t18, (.bool true)]) w_11) (
 vbin P .eql T_int true v0 (.int .i64 6) w_3 fun t20 w_12 =>
 vif t20 (
 vfaddr P T_impl_Vec t4 1 w_12 fun t21 w_13 =>
 vload P T_int t21 w_13 fun t22 w_14 =>
 vfaddr P T_impl_Vec t5 1 w_14 fun t23 w_15 =>
 vload P T_int t23 w_15 fun t24 w_16 =>
 vbin P .add T_int false t22 t24 w_16 fun t25 w_17 =>
 vfaddr P T_impl_Vec t4 0 w_17 fun t26 w_18 =>
 vload P T_int t26 w_18 fun t27 w_19 =>
 vcall P n_spec_l1Mod #[t25, t27] w_19 fun t28 w_20 =>
 R (.tuple #[t28, (.bool true)]) w_20) (
 vbin P .eql T_int true v0 (.int .i64 7) w_12 fun t30 w_21 =>
 vif t30 (
 vfaddr P T_impl_Vec t4 1 w_21 fun t31 w_22 =>
 vload P T_int t31 w_22 fun t32 w_23 =>
 vfaddr P T_impl_Vec t5 1 w_23 fun t33 w_24 =>
 vload P T_int t33 w_24 fun t34 w_25 =>
 vbin P .sub T_int false t32 t34 w_25 fun t35 w_26 =>
 vfaddr P T_impl_Vec t4 0 w_26 fun t36 w_27 =>
 vload P T_int t36 w_27 fun t37 w_28 =>
 vcall P n_spec_l1Mod #[t35, t37] w_28 fun t38 w_29 =>
 R (.tuple #[t38, (.bool true)]) w_29) (
 vbin P .eql T_int true v0 (.int .i64 8) w_21 fun t40 w_30 =>
 vif t40 (
 vfaddr P T_impl_Vec t4 1 w_30 fun t41 w_31 =>
 vload P T_int t41 w_31 fun t42 w_32 =>
 vfaddr P T_impl_Vec t5 1 w_32 fun t43 w_33 =>
 vload P T_int t43 w_33 fun t44 w_34 =>
 vbin P .mul T_int false t42 t44 w_34 fun t45 w_35 =>
 vfaddr P T_impl_Vec t4 0 w_35 fun t46 w_36 =>
 vload P T_int t46 w_36 fun t47 w_37 =>
 vcall P n_spec_l1Mod #[t45, t47] w_37 fun t48 w_38 =>
 R (.tuple #[t48, (.bool true)]) w_38) (
 vbin P .eql T_int true v0 (.int .i64 9) w_30 fun t50 w_39 =>
 vif t50 (
 vfaddr P T_impl_Vec t5 1 w_39 fun t51 w_40 =>
 vload P T_int t51 w_40 fun t52 w_41 =>
 vbin P .eql T_int true t52 (.int .i64 0) w_41 fun t53 w_42 =>
 vif t53 (
 vfaddr P T_impl_Vec t4 0 w_42 fun t54 w_43 =>
 vload P T_int t54 w_43 fun t55 w_44 =>
 vcall P n_spec_l1Two #[t55] w_44 fun t56 w_45 =>
 vbin P .sub T_int true t56 (.int .i64 1) w_45 fun t57 w_46 =>
 R (.tuple #[t57, (.bool true)]) w_46) (
 vfaddr P T_impl_Vec t4 1 w_42 fun t58 w_47 =>
 vload P T_int t58 w_47 fun t59 w_48 =>
 vfaddr P T_impl_Vec t5 1 w_48 fun t60 w_49 =>
 vload P T_int t60 w_49 fun t61 w_50 =>
 vbin P .quo T_int false t59 t61 w_50 fun t62 w_51 =>
 R (.tuple #[t62, (.bool true)]) w_51)) (
 vbin P .eql T_int true v0 (.int .i64 10) w_39 fun t64 w_52 =>
 vif t64 (
 vfaddr P T_impl_Vec t5 1 w_52 fun t65 w_53 =>
 vload P T_int t65 w_53 fun t66 w_54 =>
 vbin P .eql T_int true t66 (.int .i64 0) w_54 fun t67 w_55 =>
 vif t67 (
 vfaddr P T_impl_Vec t4 1 w_55 fun t68 w_56 =>
 vload P T_int t68 w_56 fun t69 w_57 =>
 R (.tuple #[t69, (.bool true)]) w_57) (
 vfaddr P T_impl_Vec t4 1 w_55 fun t70 w_58 =>
 vload P T_int t70 w_58 fun t71 w_59 =>
 vfaddr P T_impl_Vec t5 1 w_59 fun t72 w_60 =>
 vload P T_int t72 w_60 fun t73 w_61 =>
 vbin P .rem T_int false t71 t73 w_61 fun t74 w_62 =>
 R (.tuple #[t74, (.bool true)]) w_62)) (
 vbin P .eql T_int true v0 (.int .i64 11) w_52 fun t76 w_63 =>
 vif t76 (
 vif t76 (
 vload P T_impl_Vec t4 w_63 fun t80 w_64 =>
 vfaddr P T_impl_Vec t5 1 w_64 fun t81 w_65 =>
 vload P T_int t81 w_65 fun t82 w_66 =>
 vcall P n_spec_l1Shift #[v0, t80, t82] w_66 fun t83 w_67 =>
 R (.tuple #[t83, (.bool true)]) w_67) (
 R (.tuple #[(.int .i64 0), (.bool false)]) w_63)) (
 vbin P .eql T_int true v0 (.int .i64 12) w_63 fun t77 w_68 =>
 vif t77 (
 vif t77 (
 vload P T_impl_Vec t4 w_68 fun t80_1 w_69 =>
 vfaddr P T_impl_Vec t5 1 w_69 fun t81_1 w_70 =>
 vload P T_int t81_1 w_70 fun t82_1 w_71 =>
 vcall P n_spec_l1Shift #[v0, t80_1, t82_1] w_71 fun t83_1 w_72 =>
 R (.tuple #[t83_1, (.bool true)]) w_72) (
 R (.tuple #[(.int .i64 0), (.bool false)]) w_68)) (
 vbin P .eql T_int true v0 (.int .i64 13) w_68 fun t78 w_73 =>
 vif t78 (
 vload P T_impl_Vec t4 w_73 fun t80_2 w_74 =>
 vfaddr P T_impl_Vec t5 1 w_74 fun t81_2 w_75 =>
 vload P T_int t81_2 w_75 fun t82_2 w_76 =>
 vcall P n_spec_l1Shift #[v0, t80_2, t82_2] w_76 fun t83_2 w_77 =>
 R (.tuple #[t83_2, (.bool true)]) w_77) (
 R (.tuple #[(.int .i64 0), (.bool false)]) w_73))))))))))
def A_spec_l1Bin : Ann := { ord := [], loops := [], cuts := [(12293, [9])] }
theorem k_spec_l1Bin (v0 v1 v2 : Value) (w : World) (R : Value → World → Prop) : vc PP A_spec_l1Bin ((Tryz.f152.body).getD .skip) (retF PP Tryz.f152.results.toList R) (nthV [v0, v1, v2]) w = F_spec_l1Bin PP v0 v1 v2 w R := by kernel_rfl
theorem c_spec_l1Bin {v0 v1 v2 : Value} {w : World} {R : Value → World → Prop} (h : F_spec_l1Bin PP v0 v1 v2 w R) : vcall PP n_spec_l1Bin #[v0, v1, v2] w R :=
  call_of_vc (T := A_spec_l1Bin) (c := (Tryz.f152.body).getD .skip) (n := 84) mixed Tryz.func152 rfl rfl (by kernel_rfl) (by kernel_rfl) rfl (by rw [k_spec_l1Bin]; exact h)
def F_slices_Index_Lint_int (P : Program) (v0 v1 : Value) (w : World) (R : Value → World → Prop) : Prop :=
 vbi P .len [T_Lint] T_int [v0] w fun t7 w_1 =>
 vloop [(.int .i64 0)] w_1 fun C u _ w_2 =>
 vbin P .lss T_int false (sl 0 u) t7 w_2 fun t9 w_3 =>
 vif t9 (
 viaddr P T_Lint v0 (sl 0 u) w_3 fun t14 w_4 =>
 vload P T_int t14 w_4 fun t15 w_5 =>
 vbin P .eql T_int false v1 t15 w_5 fun t16 w_6 =>
 vif t16 (
 R (sl 0 u) w_6) (
 vbin P .add T_int true (sl 0 u) (.int .i64 1) w_6 fun t18 w_7 =>
 C [t18] w_7)) (
 R (.int .i64 (-1)) w_3)
def A_slices_Index_Lint_int : Ann := { ord := [], loops := [(2, [8])], cuts := [] }
theorem k_slices_Index_Lint_int (v0 v1 : Value) (w : World) (R : Value → World → Prop) : vc PP A_slices_Index_Lint_int ((Tryz.f157.body).getD .skip) (retF PP Tryz.f157.results.toList R) (nthV [v0, v1]) w = F_slices_Index_Lint_int PP v0 v1 w R := by kernel_rfl
theorem c_slices_Index_Lint_int {v0 v1 : Value} {w : World} {R : Value → World → Prop} (h : F_slices_Index_Lint_int PP v0 v1 w R) : vcall PP n_slices_Index_Lint_int #[v0, v1] w R :=
  call_of_vc (T := A_slices_Index_Lint_int) (c := (Tryz.f157.body).getD .skip) (n := 19) mixed Tryz.func157 rfl rfl (by kernel_rfl) (by kernel_rfl) rfl (by rw [k_slices_Index_Lint_int]; exact h)
def F_spec_l1Bit (P : Program) (v0 v1 : Value) (w : World) (R : Value → World → Prop) : Prop :=
 vcall P n_spec_l1Two #[v1] w fun t7 w_1 =>
 vbin P .quo T_int false v0 t7 w_1 fun t8 w_2 =>
 vbin P .rem T_int true t8 (.int .i64 2) w_2 fun t9 w_3 =>
 R t9 w_3
def A_spec_l1Bit : Ann := { ord := [], loops := [], cuts := [] }
theorem k_spec_l1Bit (v0 v1 : Value) (w : World) (R : Value → World → Prop) : vc PP A_spec_l1Bit ((Tryz.f158.body).getD .skip) (retF PP Tryz.f158.results.toList R) (nthV [v0, v1]) w = F_spec_l1Bit PP v0 v1 w R := by kernel_rfl
theorem c_spec_l1Bit {v0 v1 : Value} {w : World} {R : Value → World → Prop} (h : F_spec_l1Bit PP v0 v1 w R) : vcall PP n_spec_l1Bit #[v0, v1] w R :=
  call_of_vc (T := A_spec_l1Bit) (c := (Tryz.f158.body).getD .skip) (n := 10) mixed Tryz.func158 rfl rfl (by kernel_rfl) (by kernel_rfl) rfl (by rw [k_spec_l1Bit]; exact h)
def F_spec_l1Bits (P : Program) (v0 v1 v2 : Value) (w : World) (R : Value → World → Prop) : Prop :=
 vloop [(.int .i64 0), (.int .i64 3)] w fun C u _ w_1 =>
 vbin P .geq T_int true (sl 1 u) (.int .i64 0) w_1 fun t13 w_2 =>
 vif t13 (
 vcall P n_spec_l1Bit #[v1, (sl 1 u)] w_2 fun t18 w_3 =>
 vcall P n_spec_l1Bit #[v2, (sl 1 u)] w_3 fun t21 w_4 =>
 vbin P .mul T_int false t18 t21 w_4 fun t24 w_5 =>
 vbin P .eql T_int true v0 (.int .i64 4) w_5 fun t27 w_6 =>
 vif t27 (
 vbin P .add T_int false t18 t21 w_6 fun t30 w_7 =>
 vbin P .mul T_int false t18 t21 w_7 fun t33 w_8 =>
 vbin P .sub T_int false t30 t33 w_8 fun t34 w_9 =>
 vbin P .mul T_int true (sl 0 u) (.int .i64 2) w_9 fun t42 w_10 =>
 vbin P .add T_int false t42 t34 w_10 fun t44 w_11 =>
 vbin P .sub T_int true (sl 1 u) (.int .i64 1) w_11 fun t15 w_12 =>
 C [t44, t15] w_12) (
 vbin P .eql T_int true v0 (.int .i64 5) w_6 fun t36 w_13 =>
 vif t36 (
 vbin P .add T_int false t18 t21 w_13 fun t39 w_14 =>
 vbin P .rem T_int true t39 (.int .i64 2) w_14 fun t40 w_15 =>
 vbin P .mul T_int true (sl 0 u) (.int .i64 2) w_15 fun t42_1 w_16 =>
 vbin P .add T_int false t42_1 t40 w_16 fun t44_1 w_17 =>
 vbin P .sub T_int true (sl 1 u) (.int .i64 1) w_17 fun t15_1 w_18 =>
 C [t44_1, t15_1] w_18) (
 vbin P .mul T_int true (sl 0 u) (.int .i64 2) w_13 fun t42_2 w_19 =>
 vbin P .add T_int false t42_2 t24 w_19 fun t44_2 w_20 =>
 vbin P .sub T_int true (sl 1 u) (.int .i64 1) w_20 fun t15_2 w_21 =>
 C [t44_2, t15_2] w_21))) (
 R (sl 0 u) w_2)
def A_spec_l1Bits : Ann := { ord := [], loops := [(3, [7, 8])], cuts := [] }
theorem k_spec_l1Bits (v0 v1 v2 : Value) (w : World) (R : Value → World → Prop) : vc PP A_spec_l1Bits ((Tryz.f159.body).getD .skip) (retF PP Tryz.f159.results.toList R) (nthV [v0, v1, v2]) w = F_spec_l1Bits PP v0 v1 v2 w R := by kernel_rfl
theorem c_spec_l1Bits {v0 v1 v2 : Value} {w : World} {R : Value → World → Prop} (h : F_spec_l1Bits PP v0 v1 v2 w R) : vcall PP n_spec_l1Bits #[v0, v1, v2] w R :=
  call_of_vc (T := A_spec_l1Bits) (c := (Tryz.f159.body).getD .skip) (n := 46) mixed Tryz.func159 rfl rfl (by kernel_rfl) (by kernel_rfl) rfl (by rw [k_spec_l1Bits]; exact h)
def F_spec_l1Shift (P : Program) (v0 v1 v2 : Value) (w : World) (R : Value → World → Prop) : Prop :=
 vbox P T_impl_Vec v1 w fun t4 w_1 =>
 vfaddr P T_impl_Vec t4 0 w_1 fun t9 w_2 =>
 vload P T_int t9 w_2 fun t10 w_3 =>
 vcall P n_spec_l1Min #[v2, t10] w_3 fun t11 w_4 =>
 vbin P .eql T_int true v0 (.int .i64 11) w_4 fun t14 w_5 =>
 vif t14 (
 vdraw w_5 fun w_6 =>
 vfaddr P T_impl_Vec t4 1 w_6 fun t15 w_7 => w_7 = w_6 ∧
 vload P T_int t15 w_6 fun t16 w_8 => w_8 = w_6 ∧
 vfaddr P T_impl_Vec t4 0 w_6 fun t20 w_9 => w_9 = w_6 ∧
 vload P T_int t20 w_6 fun t21 w_10 => w_10 = w_6 ∧
 vcall P n_spec_l1Two #[t11] w_6 fun t18 w_11 => (vload P T_int t20 w_11 fun v x => v = t21 ∧ x = w_11) ∧ (vfaddr P T_impl_Vec t4 0 w_11 fun v x => v = t20 ∧ x = w_11) ∧ (vload P T_int t15 w_11 fun v x => v = t16 ∧ x = w_11) ∧ (vfaddr P T_impl_Vec t4 1 w_11 fun v x => v = t15 ∧ x = w_11) ∧
 vbin P .mul T_int false t16 t18 w_11 fun t19 w_12 => w_12 = w_11 ∧
 vcall P n_spec_l1Mod #[t19, t21] w_11 fun t22 w_13 =>
 R t22 w_13) (
 vbin P .eql T_int true v0 (.int .i64 12) w_5 fun t24 w_14 =>
 vif t24 (
 vdraw w_14 fun w_15 =>
 vfaddr P T_impl_Vec t4 1 w_15 fun t25 w_16 => w_16 = w_15 ∧
 vload P T_int t25 w_15 fun t26 w_17 => w_17 = w_15 ∧
 vcall P n_spec_l1Two #[t11] w_15 fun t28 w_18 => (vload P T_int t25 w_18 fun v x => v = t26 ∧ x = w_18) ∧ (vfaddr P T_impl_Vec t4 1 w_18 fun v x => v = t25 ∧ x = w_18) ∧
 vbin P .quo T_int false t26 t28 w_18 fun t29 w_19 => w_19 = w_18 ∧
 R t29 w_18) (
 vfaddr P T_impl_Vec t4 1 w_14 fun t30 w_20 =>
 vload P T_int t30 w_20 fun t31 w_21 =>
 vfaddr P T_impl_Vec t4 0 w_21 fun t32 w_22 =>
 vload P T_int t32 w_22 fun t33 w_23 =>
 vbin P .sub T_int true t33 (.int .i64 1) w_23 fun t34 w_24 =>
 vcall P n_spec_l1Bit #[t31, t34] w_24 fun t35 w_25 =>
 vbin P .eql T_int true t35 (.int .i64 0) w_25 fun t36 w_26 =>
 vif t36 (
 vdraw w_26 fun w_27 =>
 vfaddr P T_impl_Vec t4 1 w_27 fun t37 w_28 => w_28 = w_27 ∧
 vload P T_int t37 w_27 fun t38 w_29 => w_29 = w_27 ∧
 vcall P n_spec_l1Two #[t11] w_27 fun t40 w_30 => (vload P T_int t37 w_30 fun v x => v = t38 ∧ x = w_30) ∧ (vfaddr P T_impl_Vec t4 1 w_30 fun v x => v = t37 ∧ x = w_30) ∧
 vbin P .quo T_int false t38 t40 w_30 fun t41 w_31 => w_31 = w_30 ∧
 R t41 w_30) (
 vfaddr P T_impl_Vec t4 0 w_26 fun t42 w_32 =>
 vload P T_int t42 w_32 fun t43 w_33 =>
 vcall P n_spec_l1Two #[t43] w_33 fun t44 w_34 =>
 vbin P .sub T_int true t44 (.int .i64 1) w_34 fun t45 w_35 =>
 vdraw w_35 fun w_36 =>
 vfaddr P T_impl_Vec t4 1 w_36 fun t48 w_37 => w_37 = w_36 ∧
 vload P T_int t48 w_36 fun t49 w_38 => w_38 = w_36 ∧
 vbin P .sub T_int false t45 t49 w_36 fun t50 w_39 => w_39 = w_36 ∧
 vcall P n_spec_l1Two #[t11] w_36 fun t52 w_40 => (vbin P .sub T_int false t45 t49 w_40 fun v x => v = t50 ∧ x = w_40) ∧ (vload P T_int t48 w_40 fun v x => v = t49 ∧ x = w_40) ∧ (vfaddr P T_impl_Vec t4 1 w_40 fun v x => v = t48 ∧ x = w_40) ∧
 vbin P .quo T_int false t50 t52 w_40 fun t53 w_41 => w_41 = w_40 ∧
 vbin P .sub T_int false t45 t53 w_40 fun t54 w_42 => w_42 = w_40 ∧
 R t54 w_40)))
def A_spec_l1Shift : Ann := { ord := [(4, [0, 1, 2, 5, 6, 3, 4, 7, 8], [(0, [1, 4, 7, 8]), (1, [4, 7, 8]), (2, [3, 4, 7, 8]), (5, [6, 7, 8]), (6, [7, 8]), (3, [4, 7, 8]), (4, [7, 8]), (7, [8])]), (6, [0, 1, 2, 3, 4, 5], [(0, [1, 4, 5]), (1, [4, 5]), (2, [3, 4, 5]), (3, [4, 5]), (4, [5])]), (8, [0, 1, 2, 3, 4, 5], [(0, [1, 4, 5]), (1, [4, 5]), (2, [3, 4, 5]), (3, [4, 5]), (4, [5])]), (10, [0, 1, 2, 3, 4, 5, 6, 7, 8, 9], [(0, [8, 9]), (1, [4, 7, 8, 9]), (2, [3, 4, 7, 8, 9]), (3, [4, 7, 8, 9]), (4, [7, 8, 9]), (5, [6, 7, 8, 9]), (6, [7, 8, 9]), (7, [8, 9]), (8, [9])])], loops := [], cuts := [] }
theorem k_spec_l1Shift (v0 v1 v2 : Value) (w : World) (R : Value → World → Prop) : vc PP A_spec_l1Shift ((Tryz.f160.body).getD .skip) (retF PP Tryz.f160.results.toList R) (nthV [v0, v1, v2]) w = F_spec_l1Shift PP v0 v1 v2 w R := by kernel_rfl
theorem c_spec_l1Shift {v0 v1 v2 : Value} {w : World} {R : Value → World → Prop} (h : F_spec_l1Shift PP v0 v1 v2 w R) : vcall PP n_spec_l1Shift #[v0, v1, v2] w R :=
  call_of_vc (T := A_spec_l1Shift) (c := (Tryz.f160.body).getD .skip) (n := 55) mixed Tryz.func160 rfl rfl (by kernel_rfl) (by kernel_rfl) rfl (by rw [k_spec_l1Shift]; exact h)
def F_impl_Vec_ones (P : Program) (v0 : Value) (w : World) (R : Value → World → Prop) : Prop :=
 vbox P T_impl_Vec v0 w fun t1 w_1 =>
 vfaddr P T_impl_Vec t1 0 w_1 fun t3 w_2 =>
 vload P T_int t3 w_2 fun t4 w_3 =>
 vbin P .shl T_impl_raw true (.int .u64 1) t4 w_3 fun t5 w_4 =>
 vbin P .sub T_impl_raw true t5 (.int .u64 1) w_4 fun t6 w_5 =>
 R t6 w_5
def A_impl_Vec_ones : Ann := { ord := [], loops := [], cuts := [] }
theorem k_impl_Vec_ones (v0 : Value) (w : World) (R : Value → World → Prop) : vc PP A_impl_Vec_ones ((Tryz.f179.body).getD .skip) (retF PP Tryz.f179.results.toList R) (nthV [v0]) w = F_impl_Vec_ones PP v0 w R := by kernel_rfl
theorem c_impl_Vec_ones {v0 : Value} {w : World} {R : Value → World → Prop} (h : F_impl_Vec_ones PP v0 w R) : vcall PP n_impl_Vec_ones #[v0] w R :=
  call_of_vc (T := A_impl_Vec_ones) (c := (Tryz.f179.body).getD .skip) (n := 7) mixed Tryz.func179 rfl rfl (by kernel_rfl) (by kernel_rfl) rfl (by rw [k_impl_Vec_ones]; exact h)
def F_impl_named_kids (P : Program) (v0 : Value) (w : World) (R : Value → World → Prop) : Prop :=
 vbox P T_impl_named v0 w fun t1 w_1 =>
 vfaddr P T_impl_named t1 1 w_1 fun t3 w_2 =>
 vload P T_int t3 w_2 fun t4 w_3 =>
 R t4 w_3
def A_impl_named_kids : Ann := { ord := [], loops := [], cuts := [] }
theorem k_impl_named_kids (v0 : Value) (w : World) (R : Value → World → Prop) : vc PP A_impl_named_kids ((Tryz.f180.body).getD .skip) (retF PP Tryz.f180.results.toList R) (nthV [v0]) w = F_impl_named_kids PP v0 w R := by kernel_rfl
theorem c_impl_named_kids {v0 : Value} {w : World} {R : Value → World → Prop} (h : F_impl_named_kids PP v0 w R) : vcall PP n_impl_named_kids #[v0] w R :=
  call_of_vc (T := A_impl_named_kids) (c := (Tryz.f180.body).getD .skip) (n := 5) mixed Tryz.func180 rfl rfl (by kernel_rfl) (by kernel_rfl) rfl (by rw [k_impl_named_kids]; exact h)
def F_impl_unKind_sort (P : Program) (v0 v1 v2 v3 : Value) (w : World) (R : Value → World → Prop) : Prop :=
 vbox P T_impl_unKind v0 w fun _ w_1 =>
 vbox P T_impl_Term v2 w_1 fun _ w_2 =>
 vdraw w_2 fun w_3 =>
 viaddr P T_Lint v3 (.int .i64 0) w_3 fun t10 w_4 => w_4 = w_3 ∧
 vload P T_int t10 w_3 fun t11 w_5 => w_5 = w_3 ∧
 vbin P .gtr T_int true t11 (.int .i64 0) w_3 fun t12 w_6 => w_6 = w_3 ∧
 viaddr P T_Lint v3 (.int .i64 0) w_3 fun t14 w_7 => w_7 = w_3 ∧
 vload P T_int t14 w_3 fun t15 w_8 => w_8 = w_3 ∧
 vcall P n_impl_sorted #[t12, t15] w_3 fun t16 w_9 =>
 R t16 w_9
def A_impl_unKind_sort : Ann := { ord := [(1, [0, 1, 2, 3, 4, 5, 6, 7, 8], [(0, [1, 2, 3, 7, 8]), (1, [2, 3, 7, 8]), (2, [3, 7, 8]), (3, [7, 8]), (4, [5, 6, 7, 8]), (5, [6, 7, 8]), (6, [7, 8]), (7, [8])])], loops := [], cuts := [] }
theorem k_impl_unKind_sort (v0 v1 v2 v3 : Value) (w : World) (R : Value → World → Prop) : vc PP A_impl_unKind_sort ((Tryz.f181.body).getD .skip) (retF PP Tryz.f181.results.toList R) (nthV [v0, v1, v2, v3]) w = F_impl_unKind_sort PP v0 v1 v2 v3 w R := by kernel_rfl
theorem c_impl_unKind_sort {v0 v1 v2 v3 : Value} {w : World} {R : Value → World → Prop} (h : F_impl_unKind_sort PP v0 v1 v2 v3 w R) : vcall PP n_impl_unKind_sort #[v0, v1, v2, v3] w R :=
  call_of_vc (T := A_impl_unKind_sort) (c := (Tryz.f181.body).getD .skip) (n := 17) mixed Tryz.func181 rfl rfl (by kernel_rfl) (by kernel_rfl) rfl (by rw [k_impl_unKind_sort]; exact h)
def F_impl_unKind_value (P : Program) (v0 v1 v2 v3 : Value) (w : World) (R : Value → World → Prop) : Prop :=
 vbox P T_impl_unKind v0 w fun _ w_1 =>
 vbox P T_impl_Term v2 w_1 fun t6 w_2 =>
 vjoin (fun J =>
 vdraw w_2 fun w_4 =>
 vfaddr P T_impl_Term t6 0 w_4 fun t12 w_5 => w_5 = w_4 ∧
 vload P T_int t12 w_4 fun t13 w_6 => w_6 = w_4 ∧
 viaddr P T_Limpl_Vec v3 (.int .i64 0) w_4 fun t15 w_7 => w_7 = w_4 ∧
 vload P T_impl_Vec t15 w_4 fun t16 w_8 => w_8 = w_4 ∧
 (vcall P n_impl_VecUn #[t13, t16] w_4 fun t17 w_9 =>
 vextract P t17 0 w_9 fun t18 w_10 => w_10 = w_9 ∧
 vextract P t17 1 w_9 fun t19 w_11 => w_11 = w_9 ∧
 (valloc P T_impl_Vec w_9 fun t9 w_12 => (vextract P t17 1 w_12 fun v x => v = t19 ∧ x = w_12) ∧ (vextract P t17 0 w_12 fun v x => v = t18 ∧ x = w_12) ∧
 (vstore P T_impl_Vec t9 t18 w_12 fun _ w_13 => (vextract P t17 1 w_13 fun v x => v = t19 ∧ x = w_13) ∧
 J [t9] w_13) ∧
 True) ∧
 True) ∧
 (valloc P T_impl_Vec w_4 fun t9_1 w_14 => (vload P T_impl_Vec t15 w_14 fun v x => v = t16 ∧ x = w_14) ∧ (viaddr P T_Limpl_Vec v3 (.int .i64 0) w_14 fun v x => v = t15 ∧ x = w_14) ∧ (vload P T_int t12 w_14 fun v x => v = t13 ∧ x = w_14) ∧ (vfaddr P T_impl_Term t6 0 w_14 fun v x => v = t12 ∧ x = w_14) ∧
 (vcall P n_impl_VecUn #[t13, t16] w_14 fun t17_1 w_15 =>
 vextract P t17_1 0 w_15 fun t18_1 w_16 => w_16 = w_15 ∧
 vextract P t17_1 1 w_15 fun t19_1 w_17 => w_17 = w_15 ∧
 (vstore P T_impl_Vec t9_1 t18_1 w_15 fun _ w_18 => (vextract P t17_1 1 w_18 fun v x => v = t19_1 ∧ x = w_18) ∧
 J [t9_1] w_18) ∧
 True) ∧
 True) ∧
 True) (fun u _ w_3 =>
 vfaddr P T_impl_Vec (sl 0 u) 1 w_3 fun t20 w_19 =>
 vload P T_int t20 w_19 fun t21 w_20 =>
 R t21 w_20)
def A_impl_unKind_value : Ann := { ord := [], loops := [], cuts := [(8194, [9])], trees := [(1, (.st 0 (.st 1 (.st 2 (.st 3 (.st 4 (.alt 5 (.st 6 (.st 7 (.st 8 (.alt 9 (.alt 10 (.st 11 .nil) .no) .no)))) (.alt 9 (.alt 5 (.st 6 (.st 7 (.st 8 (.alt 10 (.st 11 .nil) .no)))) .no) .no))))))), [(0, [1, 5, 6, 7, 8, 10, 11]), (1, [5, 6, 7, 8, 10, 11]), (2, [3, 4, 5, 6, 7, 8, 10, 11]), (3, [4, 5, 6, 7, 8, 10, 11]), (4, [5, 6, 7, 8, 10, 11]), (5, [6, 7, 8, 10, 11]), (6, [7, 8, 10, 11]), (7, [10, 11]), (8, [11]), (9, [10, 11]), (10, [11])])] }
theorem k_impl_unKind_value (v0 v1 v2 v3 : Value) (w : World) (R : Value → World → Prop) : vc PP A_impl_unKind_value ((Tryz.f182.body).getD .skip) (retF PP Tryz.f182.results.toList R) (nthV [v0, v1, v2, v3]) w = F_impl_unKind_value PP v0 v1 v2 v3 w R := by kernel_rfl
theorem c_impl_unKind_value {v0 v1 v2 v3 : Value} {w : World} {R : Value → World → Prop} (h : F_impl_unKind_value PP v0 v1 v2 v3 w R) : vcall PP n_impl_unKind_value #[v0, v1, v2, v3] w R :=
  call_of_vc (T := A_impl_unKind_value) (c := (Tryz.f182.body).getD .skip) (n := 22) mixed Tryz.func182 rfl rfl (by kernel_rfl) (by kernel_rfl) rfl (by rw [k_impl_unKind_value]; exact h)
end Go.Proofs.YtcfgmgjofmbfhaaGreatDoor
end
