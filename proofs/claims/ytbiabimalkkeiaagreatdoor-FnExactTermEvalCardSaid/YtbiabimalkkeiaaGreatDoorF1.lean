import Derived.Test.YtbiabimalkkeiaaGreatDoorNm
set_option linter.unusedVariables false
set_option linter.unusedSimpArgs false
set_option linter.unnecessarySimpa false
set_option linter.unusedSectionVars false
namespace Go.Proofs.YtbiabimalkkeiaaGreatDoor
open Go Go.Vc Go.Proofs
/-- impl.VecCmp -/
def F_impl_VecCmp (P : Program) (v0 v1 v2 : Value) (w : World) (R : Value → World → Prop) : Prop :=
  vbox P T_impl_Vec v1 w fun t4 w_1 =>
  vbox P T_impl_Vec v2 w_1 fun t5 w_2 =>
  vjoin (fun J =>
    vload P T_impl_Vec t4 w_2 fun t8 w_4 =>
    vcall P n_impl_VecOk #[t8] w_4 fun t9 w_5 =>
    vun P .not t9 w_5 fun t10 w_6 =>
    vif t10 (
      R (.tuple #[(.bool false), (.bool false)]) w_6) (
      vload P T_impl_Vec t5 w_6 fun t12 w_7 =>
      vcall P n_impl_VecOk #[t12] w_7 fun t13 w_8 =>
      vun P .not t13 w_8 fun t14 w_9 =>
      vif t14 (
        R (.tuple #[(.bool false), (.bool false)]) w_9) (
        vfaddr P T_impl_Vec t4 0 w_9 fun t17 w_10 =>
        vload P T_int t17 w_10 fun t18 w_11 =>
        vfaddr P T_impl_Vec t5 0 w_11 fun t19 w_12 =>
        vload P T_int t19 w_12 fun t20 w_13 =>
        vbin P .neq T_int false t18 t20 w_13 fun t21 w_14 =>
        vif t21 (
          R (.tuple #[(.bool false), (.bool false)]) w_14) (
          J [] w_14)))) (fun _ _ w_3 =>
    vbin P .eql T_int true v0 (.int .i64 15) w_3 fun t25 w_15 =>
    vif t25 (
      vload P T_impl_Vec t4 w_15 fun t26 w_16 =>
      vload P T_impl_Vec t5 w_16 fun t27 w_17 =>
      vbin P .eql T_impl_Vec false t26 t27 w_17 fun t28 w_18 =>
      R (.tuple #[t28, (.bool true)]) w_18) (
      vbin P .eql T_int true v0 (.int .i64 16) w_15 fun t30 w_19 =>
      vif t30 (
        vfaddr P T_impl_Vec t4 1 w_19 fun t31 w_20 =>
        vload P T_int t31 w_20 fun t32 w_21 =>
        vfaddr P T_impl_Vec t5 1 w_21 fun t33 w_22 =>
        vload P T_int t33 w_22 fun t34 w_23 =>
        vbin P .lss T_int false t32 t34 w_23 fun t35 w_24 =>
        R (.tuple #[t35, (.bool true)]) w_24) (
        vbin P .eql T_int true v0 (.int .i64 17) w_19 fun t37 w_25 =>
        vif t37 (
          vdraw w_25 fun w_26 =>
          vload P T_impl_Vec t4 w_26 fun t38 w_27 => w_27 = w_26 ∧
          vload P T_impl_Vec t5 w_26 fun t40 w_28 => w_28 = w_26 ∧
          vcall P n_impl_VecSigned #[t38] w_26 fun t39 w_29 => (vload P T_impl_Vec t5 w_29 fun v x => v = t40 ∧ x = w_29) ∧
          vcall P n_impl_VecSigned #[t40] w_29 fun t41 w_30 =>
          vbin P .lss T_int false t39 t41 w_30 fun t42 w_31 => w_31 = w_30 ∧
          R (.tuple #[t42, (.bool true)]) w_30) (
          R (.tuple #[(.bool false), (.bool false)]) w_25))))
def A_impl_VecCmp : Ann := { ord := [(9, [0, 2, 1, 3, 4, 5, 6], [(0, [1, 3, 4, 5, 6]), (2, [3, 4, 5, 6]), (1, [3, 4, 5, 6]), (3, [4, 5, 6]), (4, [5, 6]), (5, [6])])], loops := [], cuts := [(8195, [])] }
theorem k_impl_VecCmp (v0 v1 v2 : Value) (w : World) (R : Value → World → Prop) : vc PP A_impl_VecCmp ((Tryz.f30.body).getD .skip) (retF PP Tryz.f30.results.toList R) (nthV [v0, v1, v2]) w = F_impl_VecCmp PP v0 v1 v2 w R := by kernel_rfl
theorem c_impl_VecCmp {v0 v1 v2 : Value} {w : World} {R : Value → World → Prop} (h : F_impl_VecCmp PP v0 v1 v2 w R) : vcall PP n_impl_VecCmp #[v0, v1, v2] w R :=
  call_of_vc (T := A_impl_VecCmp) (c := (Tryz.f30.body).getD .skip) (n := 43) mixed Tryz.func30 rfl rfl (by kernel_rfl) (by kernel_rfl) rfl (by rw [k_impl_VecCmp]; exact h)

/-- laws.wpBin -/
def F_laws_wpBin (P : Program) (v0 v1 v2 : Value) (w : World) (R : Value → World → Prop) : Prop :=
  vbox P T_impl_Vec v1 w fun t4 w_1 =>
  vbox P T_impl_Vec v2 w_1 fun t5 w_2 =>
  valloc P T_impl_Vec w_2 fun t6 w_3 =>
  vload P T_impl_Vec t4 w_3 fun t11 w_4 =>
  vload P T_impl_Vec t5 w_4 fun t12 w_5 =>
  vcall P n_impl_VecBin #[v0, t11, t12] w_5 fun t13 w_6 =>
  vextract P t13 0 w_6 fun t14 w_7 =>
  vextract P t13 1 w_7 fun _ w_8 =>
  valloc P T_impl_Vec w_8 fun t7 w_9 =>
  vstore P T_impl_Vec t7 t14 w_9 fun _ w_10 =>
  vload P T_impl_Vec t7 w_10 fun t16 w_11 =>
  vstore P T_impl_Vec t6 t16 w_11 fun _ w_12 =>
  vlv P T_impl_Vec t6 w_12 fun r6 w_13 =>
  R r6 w_13
def A_laws_wpBin : Ann := { ord := [], loops := [], cuts := [] }
theorem k_laws_wpBin (v0 v1 v2 : Value) (w : World) (R : Value → World → Prop) : vc PP A_laws_wpBin ((Tryz.f31.body).getD .skip) (retF PP Tryz.f31.results.toList R) (nthV [v0, v1, v2]) w = F_laws_wpBin PP v0 v1 v2 w R := by kernel_rfl
theorem c_laws_wpBin {v0 v1 v2 : Value} {w : World} {R : Value → World → Prop} (h : F_laws_wpBin PP v0 v1 v2 w R) : vcall PP n_laws_wpBin #[v0, v1, v2] w R :=
  call_of_vc (T := A_laws_wpBin) (c := (Tryz.f31.body).getD .skip) (n := 17) mixed Tryz.func31 rfl rfl (by kernel_rfl) (by kernel_rfl) rfl (by rw [k_laws_wpBin]; exact h)

/-- laws.wpNames -/
def F_laws_wpNames (P : Program) (v0 v1 : Value) (w : World) (R : Value → World → Prop) : Prop :=
  vbox P T_impl_Term v0 w fun t2 w_1 =>
  vjoin (fun J =>
    vfaddr P T_impl_Term t2 0 w_1 fun t6 w_3 =>
    vload P T_int t6 w_3 fun t7 w_4 =>
    vbin P .eql T_int true t7 (.int .i64 21) w_4 fun t8 w_5 =>
    vif t8 (
      vfaddr P T_impl_Term t2 3 w_5 fun t10 w_6 =>
      vload P T_string t10 w_6 fun t11 w_7 =>
      vbin P .eql T_string false t11 v1 w_7 fun t13 w_8 =>
      vif t13 (
        R (.bool true) w_8) (
        J [] w_8)) (
      J [] w_5)) (fun _ _ w_2 =>
    vloop [(.int .i64 0)] w_2 fun C u_1 _ w_9 =>
      vfaddr P T_impl_Term t2 4 w_9 fun t16 w_10 =>
      vload P T_Limpl_Term t16 w_10 fun t17 w_11 =>
      vbi P .len [T_Limpl_Term] T_int [t17] w_11 fun t18 w_12 =>
      vbin P .lss T_int false (sl 0 u_1) t18 w_12 fun t19 w_13 =>
      vif t19 (
        vfaddr P T_impl_Term t2 4 w_13 fun t22 w_14 =>
        vload P T_Limpl_Term t22 w_14 fun t23 w_15 =>
        viaddr P T_Limpl_Term t23 (sl 0 u_1) w_15 fun t25 w_16 =>
        vload P T_impl_Term t25 w_16 fun t26 w_17 =>
        vcall P n_laws_wpNames #[t26, v1] w_17 fun t28 w_18 =>
        vif t28 (
          R (.bool true) w_18) (
          vbin P .add T_int true (sl 0 u_1) (.int .i64 1) w_18 fun t21 w_19 =>
          C [t21] w_19)) (
        R (.bool false) w_13))
def A_laws_wpNames : Ann := { ord := [], loops := [(4, [5])], cuts := [(8195, [])] }
theorem k_laws_wpNames (v0 v1 : Value) (w : World) (R : Value → World → Prop) : vc PP A_laws_wpNames ((Tryz.f32.body).getD .skip) (retF PP Tryz.f32.results.toList R) (nthV [v0, v1]) w = F_laws_wpNames PP v0 v1 w R := by kernel_rfl
theorem c_laws_wpNames {v0 v1 : Value} {w : World} {R : Value → World → Prop} (h : F_laws_wpNames PP v0 v1 w R) : vcall PP n_laws_wpNames #[v0, v1] w R :=
  call_of_vc (T := A_laws_wpNames) (c := (Tryz.f32.body).getD .skip) (n := 29) mixed Tryz.func32 rfl rfl (by kernel_rfl) (by kernel_rfl) rfl (by rw [k_laws_wpNames]; exact h)

/-- spec.TermRead -/
def F_spec_TermRead (P : Program) (v0 v1 : Value) (w : World) (R : Value → World → Prop) : Prop :=
  valloc P T_impl_Term w fun t4 w_1 =>
  vbi P .len [T_string] T_int [v1] w_1 fun t9 w_2 =>
  vbin P .gtr T_int true t9 (.int .i64 400) w_2 fun t10 w_3 =>
  vif t10 (
    vbuild P T_impl_Term [] w_3 fun t11 w_4 =>
    vstore P T_impl_Term t4 t11 w_4 fun _ w_5 =>
    vlv P T_impl_Term t4 w_5 fun r4 w_6 =>
    R (.tuple #[r4, (.bool false)]) w_6) (
    vcall P n_spec_l2Read #[v1, (.int .i64 0), (.int .i64 7)] w_3 fun t14 w_7 =>
    vextract P t14 0 w_7 fun t15 w_8 =>
    vextract P t14 1 w_8 fun t16 w_9 =>
    valloc P T_impl_Term w_9 fun t6 w_10 =>
    vstore P T_impl_Term t6 t15 w_10 fun _ w_11 =>
    vbi P .len [T_string] T_int [v1] w_11 fun t19 w_12 =>
    vbin P .neq T_int false t16 t19 w_12 fun t20 w_13 =>
    vif t20 (
      vbuild P T_impl_Term [] w_13 fun t32 w_14 =>
      vstore P T_impl_Term t4 t32 w_14 fun _ w_15 =>
      vlv P T_impl_Term t4 w_15 fun r4_1 w_16 =>
      R (.tuple #[r4_1, (.bool false)]) w_16) (
      vload P T_impl_Term t6 w_13 fun t23 w_17 =>
      vcall P n_spec_TermText #[v0, t23] w_17 fun t24 w_18 =>
      vbin P .neq T_string false t24 v1 w_18 fun t26 w_19 =>
      vif t26 (
        vbuild P T_impl_Term [] w_19 fun t32_1 w_20 =>
        vstore P T_impl_Term t4 t32_1 w_20 fun _ w_21 =>
        vlv P T_impl_Term t4 w_21 fun r4_2 w_22 =>
        R (.tuple #[r4_2, (.bool false)]) w_22) (
        vbin P .eql T_string true v1 (.string { data := #[] }) w_19 fun t30 w_23 =>
        vif t30 (
          vbuild P T_impl_Term [] w_23 fun t32_2 w_24 =>
          vstore P T_impl_Term t4 t32_2 w_24 fun _ w_25 =>
          vlv P T_impl_Term t4 w_25 fun r4_3 w_26 =>
          R (.tuple #[r4_3, (.bool false)]) w_26) (
          vload P T_impl_Term t6 w_23 fun t33 w_27 =>
          vstore P T_impl_Term t4 t33 w_27 fun _ w_28 =>
          vlv P T_impl_Term t4 w_28 fun r4_4 w_29 =>
          R (.tuple #[r4_4, (.bool true)]) w_29))))
def A_spec_TermRead : Ann := { ord := [], loops := [], cuts := [] }
theorem k_spec_TermRead (v0 v1 : Value) (w : World) (R : Value → World → Prop) : vc PP A_spec_TermRead ((Tryz.f33.body).getD .skip) (retF PP Tryz.f33.results.toList R) (nthV [v0, v1]) w = F_spec_TermRead PP v0 v1 w R := by kernel_rfl
theorem c_spec_TermRead {v0 v1 : Value} {w : World} {R : Value → World → Prop} (h : F_spec_TermRead PP v0 v1 w R) : vcall PP n_spec_TermRead #[v0, v1] w R :=
  call_of_vc (T := A_spec_TermRead) (c := (Tryz.f33.body).getD .skip) (n := 34) mixed Tryz.func33 rfl rfl (by kernel_rfl) (by kernel_rfl) rfl (by rw [k_spec_TermRead]; exact h)

/-- impl.TermRead -/
def F_impl_TermRead (P : Program) (v0 v1 : Value) (w : World) (R : Value → World → Prop) : Prop :=
  valloc P T_impl_Term w fun t4 w_1 =>
  vcall P n_impl_kinds #[] w_1 fun t10 w_2 =>
  vbuild P T_impl_parser [(0, v1), (1, t10)] w_2 fun t11 w_3 =>
  vbox P T_impl_parser t11 w_3 fun t12 w_4 =>
  vcall P n_impl_parser_read #[t12] w_4 fun t13 w_5 =>
  vextract P t13 0 w_5 fun t14 w_6 =>
  vextract P t13 1 w_6 fun t15 w_7 =>
  valloc P T_impl_Term w_7 fun t6 w_8 =>
  vstore P T_impl_Term t6 t14 w_8 fun _ w_9 =>
  vun P .not t15 w_9 fun t17 w_10 =>
  vif t17 (
    vbuild P T_impl_Term [] w_10 fun t31 w_11 =>
    vstore P T_impl_Term t4 t31 w_11 fun _ w_12 =>
    vlv P T_impl_Term t4 w_12 fun r4 w_13 =>
    R (.tuple #[r4, (.bool false)]) w_13) (
    vload P T_impl_Term t6 w_10 fun t20 w_14 =>
    vcall P n_impl_TermSort #[v0, t20] w_14 fun t21 w_15 =>
    vbin P .eql T_int true t21 (.int .i64 (-1)) w_15 fun t22 w_16 =>
    vif t22 (
      vbuild P T_impl_Term [] w_16 fun t31_1 w_17 =>
      vstore P T_impl_Term t4 t31_1 w_17 fun _ w_18 =>
      vlv P T_impl_Term t4 w_18 fun r4_1 w_19 =>
      R (.tuple #[r4_1, (.bool false)]) w_19) (
      vload P T_impl_Term t6 w_16 fun t26 w_20 =>
      vcall P n_impl_TermText #[v0, t26] w_20 fun t27 w_21 =>
      vbin P .neq T_string false t27 v1 w_21 fun t29 w_22 =>
      vif t29 (
        vbuild P T_impl_Term [] w_22 fun t31_2 w_23 =>
        vstore P T_impl_Term t4 t31_2 w_23 fun _ w_24 =>
        vlv P T_impl_Term t4 w_24 fun r4_2 w_25 =>
        R (.tuple #[r4_2, (.bool false)]) w_25) (
        vload P T_impl_Term t6 w_22 fun t32 w_26 =>
        vstore P T_impl_Term t4 t32 w_26 fun _ w_27 =>
        vlv P T_impl_Term t4 w_27 fun r4_3 w_28 =>
        R (.tuple #[r4_3, (.bool true)]) w_28)))
def A_impl_TermRead : Ann := { ord := [], loops := [], cuts := [] }
theorem k_impl_TermRead (v0 v1 : Value) (w : World) (R : Value → World → Prop) : vc PP A_impl_TermRead ((Tryz.f34.body).getD .skip) (retF PP Tryz.f34.results.toList R) (nthV [v0, v1]) w = F_impl_TermRead PP v0 v1 w R := by kernel_rfl
theorem c_impl_TermRead {v0 v1 : Value} {w : World} {R : Value → World → Prop} (h : F_impl_TermRead PP v0 v1 w R) : vcall PP n_impl_TermRead #[v0, v1] w R :=
  call_of_vc (T := A_impl_TermRead) (c := (Tryz.f34.body).getD .skip) (n := 33) mixed Tryz.func34 rfl rfl (by kernel_rfl) (by kernel_rfl) rfl (by rw [k_impl_TermRead]; exact h)

/-- laws.markDeclS -/
def F_laws_markDeclS (P : Program) (v0 v1 : Value) (w : World) (R : Value → World → Prop) : Prop :=
  vloop [v1, (.int .i64 0)] w fun C u _ w_1 =>
    vbi P .len [T_Limpl_Decl] T_int [v0] w_1 fun t8 w_2 =>
    vbin P .lss T_int false (sl 1 u) t8 w_2 fun t9 w_3 =>
    vif t9 (
      vcall P n_laws_markText #[(sl 0 u)] w_3 fun t15 w_4 =>
      viaddr P T_Limpl_Decl v0 (sl 1 u) w_4 fun t16 w_5 =>
      vfaddr P T_impl_Decl t16 0 w_5 fun t17 w_6 =>
      vstore P T_string t17 t15 w_6 fun _ w_7 =>
      vbin P .add T_int true (sl 0 u) (.int .i64 1) w_7 fun t19 w_8 =>
      viaddr P T_Limpl_Decl v0 (sl 1 u) w_8 fun t23 w_9 =>
      vfaddr P T_impl_Decl t23 1 w_9 fun t24 w_10 =>
      vstore P T_int t24 t19 w_10 fun _ w_11 =>
      vbin P .add T_int true t19 (.int .i64 1) w_11 fun t26 w_12 =>
      vbin P .add T_int true (sl 1 u) (.int .i64 1) w_12 fun t11 w_13 =>
      C [t26, t11] w_13) (
      R (sl 0 u) w_3)
def A_laws_markDeclS : Ann := { ord := [], loops := [(2, [1, 5])], cuts := [] }
theorem k_laws_markDeclS (v0 v1 : Value) (w : World) (R : Value → World → Prop) : vc PP A_laws_markDeclS ((Tryz.f35.body).getD .skip) (retF PP Tryz.f35.results.toList R) (nthV [v0, v1]) w = F_laws_markDeclS PP v0 v1 w R := by kernel_rfl
theorem c_laws_markDeclS {v0 v1 : Value} {w : World} {R : Value → World → Prop} (h : F_laws_markDeclS PP v0 v1 w R) : vcall PP n_laws_markDeclS #[v0, v1] w R :=
  call_of_vc (T := A_laws_markDeclS) (c := (Tryz.f35.body).getD .skip) (n := 28) mixed Tryz.func35 rfl rfl (by kernel_rfl) (by kernel_rfl) rfl (by rw [k_laws_markDeclS]; exact h)

/-- laws.markTerm -/
def F_laws_markTerm (P : Program) (v0 v1 : Value) (w : World) (R : Value → World → Prop) : Prop :=
  vbox P T_impl_Term v0 w fun t2 w_1 =>
  vfaddr P T_impl_Term t2 4 w_1 fun t5 w_2 =>
  vload P T_Limpl_Term t5 w_2 fun t6 w_3 =>
  vcall P n_laws_markTermS #[t6, v1] w_3 fun t8 w_4 =>
  R t8 w_4
def A_laws_markTerm : Ann := { ord := [], loops := [], cuts := [] }
theorem k_laws_markTerm (v0 v1 : Value) (w : World) (R : Value → World → Prop) : vc PP A_laws_markTerm ((Tryz.f36.body).getD .skip) (retF PP Tryz.f36.results.toList R) (nthV [v0, v1]) w = F_laws_markTerm PP v0 v1 w R := by kernel_rfl
theorem c_laws_markTerm {v0 v1 : Value} {w : World} {R : Value → World → Prop} (h : F_laws_markTerm PP v0 v1 w R) : vcall PP n_laws_markTerm #[v0, v1] w R :=
  call_of_vc (T := A_laws_markTerm) (c := (Tryz.f36.body).getD .skip) (n := 10) mixed Tryz.func36 rfl rfl (by kernel_rfl) (by kernel_rfl) rfl (by rw [k_laws_markTerm]; exact h)

/-- laws.heldTerm -/
def F_laws_heldTerm (P : Program) (v0 v1 : Value) (w : World) (R : Value → World → Prop) : Prop :=
  vbox P T_impl_Term v0 w fun t2 w_1 =>
  vfaddr P T_impl_Term t2 4 w_1 fun t5 w_2 =>
  vload P T_Limpl_Term t5 w_2 fun t6 w_3 =>
  vcall P n_laws_heldTermS #[t6, v1] w_3 fun t8 w_4 =>
  vbin P .lss T_int true t8 (.int .i64 0) w_4 fun t10 w_5 =>
  vif t10 (
    R (.int .i64 (-1)) w_5) (
    R t8 w_5)
def A_laws_heldTerm : Ann := { ord := [], loops := [], cuts := [] }
theorem k_laws_heldTerm (v0 v1 : Value) (w : World) (R : Value → World → Prop) : vc PP A_laws_heldTerm ((Tryz.f37.body).getD .skip) (retF PP Tryz.f37.results.toList R) (nthV [v0, v1]) w = F_laws_heldTerm PP v0 v1 w R := by kernel_rfl
theorem c_laws_heldTerm {v0 v1 : Value} {w : World} {R : Value → World → Prop} (h : F_laws_heldTerm PP v0 v1 w R) : vcall PP n_laws_heldTerm #[v0, v1] w R :=
  call_of_vc (T := A_laws_heldTerm) (c := (Tryz.f37.body).getD .skip) (n := 12) mixed Tryz.func37 rfl rfl (by kernel_rfl) (by kernel_rfl) rfl (by rw [k_laws_heldTerm]; exact h)

/-- spec.DrawTermText -/
def F_spec_DrawTermText (P : Program) (v0 : Value) (w : World) (R : Value → World → Prop) : Prop :=
  valloc P T_impl_Term w fun t3 w_1 =>
  vcall P n_spec_l12Open #[v0] w_1 fun t5 w_2 =>
  vcall P n_spec_l2Draw #[t5] w_2 fun t6 w_3 =>
  vextract P t6 0 w_3 fun t7 w_4 =>
  vextract P t6 1 w_4 fun t8 w_5 =>
  vstore P T_impl_Term t3 t8 w_5 fun _ w_6 =>
  vlv P T_impl_Term t3 w_6 fun r3 w_7 =>
  R (.tuple #[t7, r3]) w_7
def A_spec_DrawTermText : Ann := { ord := [], loops := [], cuts := [] }
theorem k_spec_DrawTermText (v0 : Value) (w : World) (R : Value → World → Prop) : vc PP A_spec_DrawTermText ((Tryz.f38.body).getD .skip) (retF PP Tryz.f38.results.toList R) (nthV [v0]) w = F_spec_DrawTermText PP v0 w R := by kernel_rfl
theorem c_spec_DrawTermText {v0 : Value} {w : World} {R : Value → World → Prop} (h : F_spec_DrawTermText PP v0 w R) : vcall PP n_spec_DrawTermText #[v0] w R :=
  call_of_vc (T := A_spec_DrawTermText) (c := (Tryz.f38.body).getD .skip) (n := 9) mixed Tryz.func38 rfl rfl (by kernel_rfl) (by kernel_rfl) rfl (by rw [k_spec_DrawTermText]; exact h)

/-- impl.TermText -/
def F_impl_TermText (P : Program) (v0 v1 : Value) (w : World) (R : Value → World → Prop) : Prop :=
  vbox P T_impl_Term v1 w fun t3 w_1 =>
  vload P T_impl_Term t3 w_1 fun t6 w_2 =>
  vcall P n_impl_TermSort #[v0, t6] w_2 fun t7 w_3 =>
  vbin P .eql T_int true t7 (.int .i64 (-1)) w_3 fun t8 w_4 =>
  vif t8 (
    R (.string { data := #[] }) w_4) (
    vdraw w_4 fun w_5 =>
    vload P T_impl_Term t3 w_5 fun t10 w_6 => w_6 = w_5 ∧
    vcall P n_impl_kinds #[] w_5 fun t9 w_7 => (vload P T_impl_Term t3 w_7 fun v x => v = t10 ∧ x = w_7) ∧
    vcall P n_impl_textOf #[t9, t10] w_7 fun t11 w_8 =>
    R t11 w_8)
def A_impl_TermText : Ann := { ord := [(3, [1, 0, 2, 3], [(1, [2, 3]), (0, [2, 3]), (2, [3])])], loops := [], cuts := [] }
theorem k_impl_TermText (v0 v1 : Value) (w : World) (R : Value → World → Prop) : vc PP A_impl_TermText ((Tryz.f39.body).getD .skip) (retF PP Tryz.f39.results.toList R) (nthV [v0, v1]) w = F_impl_TermText PP v0 v1 w R := by kernel_rfl
theorem c_impl_TermText {v0 v1 : Value} {w : World} {R : Value → World → Prop} (h : F_impl_TermText PP v0 v1 w R) : vcall PP n_impl_TermText #[v0, v1] w R :=
  call_of_vc (T := A_impl_TermText) (c := (Tryz.f39.body).getD .skip) (n := 12) mixed Tryz.func39 rfl rfl (by kernel_rfl) (by kernel_rfl) rfl (by rw [k_impl_TermText]; exact h)

/-- spec.TermText -/
def F_spec_TermText (P : Program) (v0 v1 : Value) (w : World) (R : Value → World → Prop) : Prop :=
  vbox P T_impl_Term v1 w fun t3 w_1 =>
  vload P T_impl_Term t3 w_1 fun t6 w_2 =>
  vcall P n_spec_TermSort #[v0, t6] w_2 fun t7 w_3 =>
  vbin P .lss T_int true t7 (.int .i64 0) w_3 fun t8 w_4 =>
  vif t8 (
    R (.string { data := #[] }) w_4) (
    vload P T_impl_Term t3 w_4 fun t9 w_5 =>
    vcall P n_spec_l2Text #[t9] w_5 fun t10 w_6 =>
    R t10 w_6)
def A_spec_TermText : Ann := { ord := [], loops := [], cuts := [] }
theorem k_spec_TermText (v0 v1 : Value) (w : World) (R : Value → World → Prop) : vc PP A_spec_TermText ((Tryz.f40.body).getD .skip) (retF PP Tryz.f40.results.toList R) (nthV [v0, v1]) w = F_spec_TermText PP v0 v1 w R := by kernel_rfl
theorem c_spec_TermText {v0 v1 : Value} {w : World} {R : Value → World → Prop} (h : F_spec_TermText PP v0 v1 w R) : vcall PP n_spec_TermText #[v0, v1] w R :=
  call_of_vc (T := A_spec_TermText) (c := (Tryz.f40.body).getD .skip) (n := 11) mixed Tryz.func40 rfl rfl (by kernel_rfl) (by kernel_rfl) rfl (by rw [k_spec_TermText]; exact h)

/-- impl.TermSame -/
def F_impl_TermSame (P : Program) (v0 v1 : Value) (w : World) (R : Value → World → Prop) : Prop :=
  vbox P T_impl_Term v0 w fun t2 w_1 =>
  vbox P T_impl_Term v1 w_1 fun t3 w_2 =>
  vfaddr P T_impl_Term t2 0 w_2 fun t5 w_3 =>
  vload P T_int t5 w_3 fun t6 w_4 =>
  vfaddr P T_impl_Term t3 0 w_4 fun t7 w_5 =>
  vload P T_int t7 w_5 fun t8 w_6 =>
  vbin P .eql T_int false t6 t8 w_6 fun t9 w_7 =>
  vif t9 (
    vfaddr P T_impl_Term t2 1 w_7 fun t11 w_8 =>
    vload P T_int t11 w_8 fun t12 w_9 =>
    vfaddr P T_impl_Term t3 1 w_9 fun t13 w_10 =>
    vload P T_int t13 w_10 fun t14 w_11 =>
    vbin P .eql T_int false t12 t14 w_11 fun t15 w_12 =>
    vif t15 (
      vfaddr P T_impl_Term t2 2 w_12 fun t18 w_13 =>
      vload P T_int t18 w_13 fun t19 w_14 =>
      vfaddr P T_impl_Term t3 2 w_14 fun t20 w_15 =>
      vload P T_int t20 w_15 fun t21 w_16 =>
      vbin P .eql T_int false t19 t21 w_16 fun t22 w_17 =>
      vif t22 (
        vfaddr P T_impl_Term t2 3 w_17 fun t25 w_18 =>
        vload P T_string t25 w_18 fun t26 w_19 =>
        vfaddr P T_impl_Term t3 3 w_19 fun t27 w_20 =>
        vload P T_string t27 w_20 fun t28 w_21 =>
        vbin P .eql T_string false t26 t28 w_21 fun t29 w_22 =>
        vif t29 (
          vfaddr P T_impl_Term t2 4 w_22 fun t32 w_23 =>
          vload P T_Limpl_Term t32 w_23 fun t33 w_24 =>
          vfaddr P T_impl_Term t3 4 w_24 fun t34 w_25 =>
          vload P T_Limpl_Term t34 w_25 fun t35 w_26 =>
          vcall P n_slices_EqualFunc_Limpl_Term_Limpl_Term_impl_Term_impl_Term #[t33, t35, (.func (.func n_impl_TermSame) #[] #[])] w_26 fun t36 w_27 =>
          R t36 w_27) (
          R (.bool false) w_22)) (
        R (.bool false) w_17)) (
      R (.bool false) w_12)) (
    R (.bool false) w_7)
def A_impl_TermSame : Ann := { ord := [], loops := [], cuts := [] }
theorem k_impl_TermSame (v0 v1 : Value) (w : World) (R : Value → World → Prop) : vc PP A_impl_TermSame ((Tryz.f41.body).getD .skip) (retF PP Tryz.f41.results.toList R) (nthV [v0, v1]) w = F_impl_TermSame PP v0 v1 w R := by kernel_rfl
theorem c_impl_TermSame {v0 v1 : Value} {w : World} {R : Value → World → Prop} (h : F_impl_TermSame PP v0 v1 w R) : vcall PP n_impl_TermSame #[v0, v1] w R :=
  call_of_vc (T := A_impl_TermSame) (c := (Tryz.f41.body).getD .skip) (n := 38) mixed Tryz.func41 rfl rfl (by kernel_rfl) (by kernel_rfl) rfl (by rw [k_impl_TermSame]; exact h)

/-- spec.DrawTermRead -/
def F_spec_DrawTermRead (P : Program) (v0 : Value) (w : World) (R : Value → World → Prop) : Prop :=
  vcall P n_spec_l12Open #[v0] w fun t10 w_1 =>
  vcall P n_spec_l2Draw #[t10] w_1 fun t13 w_2 =>
  vextract P t13 0 w_2 fun t14 w_3 =>
  vextract P t13 1 w_3 fun t15 w_4 =>
  valloc P T_impl_Term w_4 fun t6 w_5 =>
  vstore P T_impl_Term t6 t15 w_5 fun _ w_6 =>
  vload P T_impl_Term t6 w_6 fun t17 w_7 =>
  vcall P n_spec_TermText #[t14, t17] w_7 fun t18 w_8 =>
  vjoin (fun J =>
    vbin P .eql T_string true t18 (.string { data := #[] }) w_8 fun t20 w_10 =>
    vif t20 (
      R (.tuple #[t14, t18]) w_10) (
      vcall P n_spec_l12Rd_pick #[t10, (.int .i64 2)] w_10 fun t23 w_11 =>
      vbin P .eql T_int true t23 (.int .i64 0) w_11 fun t24 w_12 =>
      vif t24 (
        R (.tuple #[t14, t18]) w_12) (
        J [] w_12))) (fun _ _ w_9 =>
    vbi P .len [T_string] T_int [t18] w_9 fun t30 w_13 =>
    vcall P n_spec_l12Rd_pick #[t10, t30] w_13 fun t31 w_14 =>
    vdraw w_14 fun w_15 =>
    vslice P T_string t18 none (some t31) none w_15 fun t35 w_16 => w_16 = w_15 ∧
    vbuildS P T_Lstring 10 [(0, (.string { data := #[] })), (1, (.string { data := #[48] })), (2, (.string { data := #[32] })), (3, (.string { data := #[40] })), (4, (.string { data := #[41] })), (5, (.string { data := #[120] })), (6, (.string { data := #[35, 49] })), (7, (.string { data := #[116, 114, 117, 101] })), (8, (.string { data := #[110, 111, 116] })), (9, (.string { data := #[49] }))] w_15 fun t37 w_17 => (vslice P T_string t18 none (some t31) none w_17 fun v x => v = t35 ∧ x = w_17) ∧
    vcall P n_spec_l12Rd_of #[t10, t37] w_17 fun t38 w_18 => (vslice P T_string t18 none (some t31) none w_18 fun v x => v = t35 ∧ x = w_18) ∧
    vbin P .add T_string false t35 t38 w_18 fun t39 w_19 => w_19 = w_18 ∧
    vcall P n_spec_l12Rd_pick #[t10, (.int .i64 2)] w_18 fun t43 w_20 => (vbin P .add T_string false t35 t38 w_20 fun v x => v = t39 ∧ x = w_20) ∧ (vslice P T_string t18 none (some t31) none w_20 fun v x => v = t35 ∧ x = w_20) ∧
    vbin P .add T_int false t31 t43 w_20 fun t44 w_21 => w_21 = w_20 ∧
    vslice P T_string t18 (some t44) none none w_20 fun t45 w_22 => w_22 = w_20 ∧
    vbin P .add T_string false t39 t45 w_20 fun t46 w_23 => w_23 = w_20 ∧
    R (.tuple #[t14, t46]) w_20)
def A_spec_DrawTermRead : Ann := { ord := [(7, [0, 1, 2, 3, 4, 8, 9, 10, 5, 6, 7, 11, 12, 13, 14, 15, 16], [(0, [15, 16]), (1, [3, 7, 14, 16]), (2, [3, 7, 14, 16]), (3, [7, 14, 16]), (4, [6, 7, 11, 12, 13, 14, 15, 16]), (8, [13, 14, 16]), (9, [12, 13, 14, 16]), (10, [11, 12, 13, 14, 15, 16]), (5, [6, 7, 11, 12, 13, 14, 15, 16]), (6, [7, 11, 12, 13, 14, 15, 16]), (7, [14, 16]), (11, [12, 13, 14, 15, 16]), (12, [13, 14, 16]), (13, [14, 16]), (14, [16]), (15, [16])])], loops := [], cuts := [(20486, [])] }
theorem k_spec_DrawTermRead (v0 : Value) (w : World) (R : Value → World → Prop) : vc PP A_spec_DrawTermRead ((Tryz.f42.body).getD .skip) (retF PP Tryz.f42.results.toList R) (nthV [v0]) w = F_spec_DrawTermRead PP v0 w R := by kernel_rfl
theorem c_spec_DrawTermRead {v0 : Value} {w : World} {R : Value → World → Prop} (h : F_spec_DrawTermRead PP v0 w R) : vcall PP n_spec_DrawTermRead #[v0] w R :=
  call_of_vc (T := A_spec_DrawTermRead) (c := (Tryz.f42.body).getD .skip) (n := 47) mixed Tryz.func42 rfl rfl (by kernel_rfl) (by kernel_rfl) rfl (by rw [k_spec_DrawTermRead]; exact h)

/-- laws.szDecl -/
def F_laws_szDecl (P : Program) (v0 v1 : Value) (w : World) (R : Value → World → Prop) : Prop :=
  vbox P T_laws_Decl v0 w fun t2 w_1 =>
  vfaddr P T_laws_Decl t2 0 w_1 fun t6 w_2 =>
  vload P T_string t6 w_2 fun t7 w_3 =>
  vbi P .len [T_string] T_int [t7] w_3 fun t8 w_4 =>
  vbin P .sub T_int false v1 t8 w_4 fun t9 w_5 =>
  vbin P .lss T_int true t9 (.int .i64 0) w_5 fun t11 w_6 =>
  vif t11 (
    R (.int .i64 (-1)) w_6) (
    R t9 w_6)
def A_laws_szDecl : Ann := { ord := [], loops := [], cuts := [] }
theorem k_laws_szDecl (v0 v1 : Value) (w : World) (R : Value → World → Prop) : vc PP A_laws_szDecl ((Tryz.f43.body).getD .skip) (retF PP Tryz.f43.results.toList R) (nthV [v0, v1]) w = F_laws_szDecl PP v0 v1 w R := by kernel_rfl
theorem c_laws_szDecl {v0 v1 : Value} {w : World} {R : Value → World → Prop} (h : F_laws_szDecl PP v0 v1 w R) : vcall PP n_laws_szDecl #[v0, v1] w R :=
  call_of_vc (T := A_laws_szDecl) (c := (Tryz.f43.body).getD .skip) (n := 13) mixed Tryz.func43 rfl rfl (by kernel_rfl) (by kernel_rfl) rfl (by rw [k_laws_szDecl]; exact h)

/-- laws.szTermS -/
def F_laws_szTermS (P : Program) (v0 v1 : Value) (w : World) (R : Value → World → Prop) : Prop :=
  vbi P .len [T_Llaws_Term] T_int [v0] w fun t8 w_1 =>
  vbin P .sub T_int false v1 t8 w_1 fun t9 w_2 =>
  vbin P .lss T_int true t9 (.int .i64 0) w_2 fun t11 w_3 =>
  vif t11 (
    R (.int .i64 (-1)) w_3) (
    vloop [t9, (.int .i64 0)] w_3 fun C u _ w_4 =>
      vbi P .len [T_Llaws_Term] T_int [v0] w_4 fun t14 w_5 =>
      vbin P .lss T_int false (sl 1 u) t14 w_5 fun t15 w_6 =>
      vif t15 (
        viaddr P T_Llaws_Term v0 (sl 1 u) w_6 fun t20 w_7 =>
        vload P T_laws_Term t20 w_7 fun t21 w_8 =>
        vcall P n_laws_szTerm #[t21, (sl 0 u)] w_8 fun t23 w_9 =>
        vbin P .lss T_int true t23 (.int .i64 0) w_9 fun t25 w_10 =>
        vif t25 (
          R (.int .i64 (-1)) w_10) (
          vbin P .add T_int true (sl 1 u) (.int .i64 1) w_10 fun t17 w_11 =>
          C [t23, t17] w_11)) (
        R (sl 0 u) w_6))
def A_laws_szTermS : Ann := { ord := [], loops := [(5, [1, 5])], cuts := [] }
theorem k_laws_szTermS (v0 v1 : Value) (w : World) (R : Value → World → Prop) : vc PP A_laws_szTermS ((Tryz.f44.body).getD .skip) (retF PP Tryz.f44.results.toList R) (nthV [v0, v1]) w = F_laws_szTermS PP v0 v1 w R := by kernel_rfl
theorem c_laws_szTermS {v0 v1 : Value} {w : World} {R : Value → World → Prop} (h : F_laws_szTermS PP v0 v1 w R) : vcall PP n_laws_szTermS #[v0, v1] w R :=
  call_of_vc (T := A_laws_szTermS) (c := (Tryz.f44.body).getD .skip) (n := 27) mixed Tryz.func44 rfl rfl (by kernel_rfl) (by kernel_rfl) rfl (by rw [k_laws_szTermS]; exact h)

/-- spec.EnvOk -/
def F_spec_EnvOk (P : Program) (v0 v1 : Value) (w : World) (R : Value → World → Prop) : Prop :=
  vjoin (fun J =>
    vcall P n_spec_DeclOk #[v0] w fun t7 w_2 =>
    vun P .not t7 w_2 fun t8 w_3 =>
    vif t8 (
      R (.bool false) w_3) (
      vbi P .len [T_Lint] T_int [v1] w_3 fun t11 w_4 =>
      vbi P .len [T_Limpl_Decl] T_int [v0] w_4 fun t13 w_5 =>
      vbin P .neq T_int false t11 t13 w_5 fun t14 w_6 =>
      vif t14 (
        R (.bool false) w_6) (
        J [] w_6))) (fun _ _ w_1 =>
    vloop [(.int .i64 0)] w_1 fun C u_1 _ w_7 =>
      vbi P .len [T_Limpl_Decl] T_int [v0] w_7 fun t18 w_8 =>
      vbin P .lss T_int false (sl 0 u_1) t18 w_8 fun t19 w_9 =>
      vif t19 (
        vdraw w_9 fun w_10 =>
        viaddr P T_Limpl_Decl v0 (sl 0 u_1) w_10 fun t24 w_11 => w_11 = w_10 ∧
        vfaddr P T_impl_Decl t24 1 w_10 fun t25 w_12 => w_12 = w_10 ∧
        vload P T_int t25 w_10 fun t26 w_13 => w_13 = w_10 ∧
        viaddr P T_Lint v1 (sl 0 u_1) w_10 fun t29 w_14 => w_14 = w_10 ∧
        vload P T_int t29 w_10 fun t30 w_15 => w_15 = w_10 ∧
        vbuild P T_impl_Vec [(0, t26), (1, t30)] w_10 fun t31 w_16 => w_16 = w_10 ∧
        vcall P n_spec_VecOk #[t31] w_10 fun t32 w_17 =>
        vun P .not t32 w_17 fun t33 w_18 => w_18 = w_17 ∧
        vif t33 (
          R (.bool false) w_17) (
          vbin P .add T_int true (sl 0 u_1) (.int .i64 1) w_17 fun t21 w_19 =>
          C [t21] w_19)) (
        R (.bool true) w_9))
def A_spec_EnvOk : Ann := { ord := [(6, [0, 1, 2, 3, 4, 5, 6, 7, 8, 9, 10, 11], [(0, [2, 3, 4, 9, 10, 11]), (1, [2, 3, 4, 9, 10, 11]), (2, [3, 4, 9, 10, 11]), (3, [4, 9, 10, 11]), (4, [9, 10, 11]), (5, [7, 8, 9, 10, 11]), (6, [7, 8, 9, 10, 11]), (7, [8, 9, 10, 11]), (8, [9, 10, 11]), (9, [10, 11]), (10, [11])])], loops := [(4, [5])], cuts := [(8195, [])] }
theorem k_spec_EnvOk (v0 v1 : Value) (w : World) (R : Value → World → Prop) : vc PP A_spec_EnvOk ((Tryz.f45.body).getD .skip) (retF PP Tryz.f45.results.toList R) (nthV [v0, v1]) w = F_spec_EnvOk PP v0 v1 w R := by kernel_rfl
theorem c_spec_EnvOk {v0 v1 : Value} {w : World} {R : Value → World → Prop} (h : F_spec_EnvOk PP v0 v1 w R) : vcall PP n_spec_EnvOk #[v0, v1] w R :=
  call_of_vc (T := A_spec_EnvOk) (c := (Tryz.f45.body).getD .skip) (n := 34) mixed Tryz.func45 rfl rfl (by kernel_rfl) (by kernel_rfl) rfl (by rw [k_spec_EnvOk]; exact h)

/-- spec.l2Eval -/
def F_spec_l2Eval (P : Program) (v0 v1 v2 : Value) (w : World) (R : Value → World → Prop) : Prop :=
  vbox P T_impl_Term v1 w fun t4 w_1 =>
  vfaddr P T_impl_Term t4 0 w_1 fun t7 w_2 =>
  vload P T_int t7 w_2 fun t8 w_3 =>
  vbin P .eql T_int true t8 (.int .i64 20) w_3 fun t10 w_4 =>
  vif t10 (
    vfaddr P T_impl_Term t4 2 w_4 fun t11 w_5 =>
    vload P T_int t11 w_5 fun t12 w_6 =>
    R t12 w_6) (
    vbin P .eql T_int true t8 (.int .i64 21) w_4 fun t14 w_7 =>
    vif t14 (
      vfaddr P T_impl_Term t4 3 w_7 fun t17 w_8 =>
      vload P T_string t17 w_8 fun t18 w_9 =>
      vcall P n_spec_l2Find #[v0, t18] w_9 fun t19 w_10 =>
      viaddr P T_Lint v2 t19 w_10 fun t20 w_11 =>
      vload P T_int t20 w_11 fun t21 w_12 =>
      R t21 w_12) (
      vbin P .eql T_int true t8 (.int .i64 24) w_7 fun t23 w_13 =>
      vif t23 (
        R (.int .i64 1) w_13) (
        vbin P .eql T_int true t8 (.int .i64 25) w_13 fun t25 w_14 =>
        vif t25 (
          vfaddr P T_impl_Term t4 4 w_14 fun t27 w_15 =>
          vload P T_Limpl_Term t27 w_15 fun t28 w_16 =>
          viaddr P T_Limpl_Term t28 (.int .i64 0) w_16 fun t29 w_17 =>
          vload P T_impl_Term t29 w_17 fun t30 w_18 =>
          vcall P n_spec_l2Eval #[v0, t30, v2] w_18 fun t32 w_19 =>
          vbin P .sub T_int true (.int .i64 1) t32 w_19 fun t33 w_20 =>
          R t33 w_20) (
          vbin P .eql T_int true t8 (.int .i64 26) w_14 fun t35 w_21 =>
          vif t35 (
            vdraw w_21 fun w_22 =>
            vfaddr P T_impl_Term t4 4 w_22 fun t37 w_23 => w_23 = w_22 ∧
            vload P T_Limpl_Term t37 w_22 fun t38 w_24 => w_24 = w_22 ∧
            viaddr P T_Limpl_Term t38 (.int .i64 0) w_22 fun t39 w_25 => w_25 = w_22 ∧
            vload P T_impl_Term t39 w_22 fun t40 w_26 => w_26 = w_22 ∧
            vfaddr P T_impl_Term t4 4 w_22 fun t44 w_27 => w_27 = w_22 ∧
            vload P T_Limpl_Term t44 w_22 fun t45 w_28 => w_28 = w_22 ∧
            viaddr P T_Limpl_Term t45 (.int .i64 1) w_22 fun t46 w_29 => w_29 = w_22 ∧
            vload P T_impl_Term t46 w_22 fun t47 w_30 => w_30 = w_22 ∧
            vcall P n_spec_l2Eval #[v0, t40, v2] w_22 fun t42 w_31 => (vload P T_impl_Term t46 w_31 fun v x => v = t47 ∧ x = w_31) ∧ (viaddr P T_Limpl_Term t45 (.int .i64 1) w_31 fun v x => v = t46 ∧ x = w_31) ∧ (vload P T_Limpl_Term t44 w_31 fun v x => v = t45 ∧ x = w_31) ∧ (vfaddr P T_impl_Term t4 4 w_31 fun v x => v = t44 ∧ x = w_31) ∧
            vcall P n_spec_l2Eval #[v0, t47, v2] w_31 fun t49 w_32 =>
            vbin P .mul T_int false t42 t49 w_32 fun t50 w_33 => w_33 = w_32 ∧
            R t50 w_32) (
            vbin P .eql T_int true t8 (.int .i64 27) w_21 fun t52 w_34 =>
            vif t52 (
              vdraw w_34 fun w_35 =>
              vfaddr P T_impl_Term t4 4 w_35 fun t54 w_36 => w_36 = w_35 ∧
              vload P T_Limpl_Term t54 w_35 fun t55 w_37 => w_37 = w_35 ∧
              viaddr P T_Limpl_Term t55 (.int .i64 0) w_35 fun t56 w_38 => w_38 = w_35 ∧
              vload P T_impl_Term t56 w_35 fun t57 w_39 => w_39 = w_35 ∧
              vfaddr P T_impl_Term t4 4 w_35 fun t61 w_40 => w_40 = w_35 ∧
              vload P T_Limpl_Term t61 w_35 fun t62 w_41 => w_41 = w_35 ∧
              viaddr P T_Limpl_Term t62 (.int .i64 1) w_35 fun t63 w_42 => w_42 = w_35 ∧
              vload P T_impl_Term t63 w_35 fun t64 w_43 => w_43 = w_35 ∧
              vcall P n_spec_l2Eval #[v0, t57, v2] w_35 fun t59 w_44 => (vload P T_impl_Term t63 w_44 fun v x => v = t64 ∧ x = w_44) ∧ (viaddr P T_Limpl_Term t62 (.int .i64 1) w_44 fun v x => v = t63 ∧ x = w_44) ∧ (vload P T_Limpl_Term t61 w_44 fun v x => v = t62 ∧ x = w_44) ∧ (vfaddr P T_impl_Term t4 4 w_44 fun v x => v = t61 ∧ x = w_44) ∧
              vcall P n_spec_l2Eval #[v0, t64, v2] w_44 fun t66 w_45 =>
              vcall P n_spec_l1Max #[t59, t66] w_45 fun t67 w_46 =>
              R t67 w_46) (
              vbin P .eql T_int true t8 (.int .i64 23) w_34 fun t69 w_47 =>
              vif t69 (
                vfaddr P T_impl_Term t4 4 w_47 fun t71 w_48 =>
                vload P T_Limpl_Term t71 w_48 fun t72 w_49 =>
                viaddr P T_Limpl_Term t72 (.int .i64 0) w_49 fun t73 w_50 =>
                vload P T_impl_Term t73 w_50 fun t74 w_51 =>
                vcall P n_spec_l2Eval #[v0, t74, v2] w_51 fun t76 w_52 =>
                vbin P .eql T_int true t76 (.int .i64 1) w_52 fun t77 w_53 =>
                vif t77 (
                  vfaddr P T_impl_Term t4 4 w_53 fun t79 w_54 =>
                  vload P T_Limpl_Term t79 w_54 fun t80 w_55 =>
                  viaddr P T_Limpl_Term t80 (.int .i64 1) w_55 fun t81 w_56 =>
                  vload P T_impl_Term t81 w_56 fun t82 w_57 =>
                  vcall P n_spec_l2Eval #[v0, t82, v2] w_57 fun t84 w_58 =>
                  R t84 w_58) (
                  vfaddr P T_impl_Term t4 4 w_53 fun t86 w_59 =>
                  vload P T_Limpl_Term t86 w_59 fun t87 w_60 =>
                  viaddr P T_Limpl_Term t87 (.int .i64 2) w_60 fun t88 w_61 =>
                  vload P T_impl_Term t88 w_61 fun t89 w_62 =>
                  vcall P n_spec_l2Eval #[v0, t89, v2] w_62 fun t91 w_63 =>
                  R t91 w_63)) (
                vload P T_impl_Term t4 w_47 fun t93 w_64 =>
                vcall P n_spec_l2Do #[v0, t93, v2] w_64 fun t95 w_65 =>
                R t95 w_65)))))))
def A_spec_l2Eval : Ann := { ord := [(11, [0, 1, 2, 3, 4, 5, 7, 8, 9, 10, 11, 12, 6, 13, 14, 15], [(0, [6, 13, 14, 15]), (1, [2, 3, 4, 6, 13, 14, 15]), (2, [3, 4, 6, 13, 14, 15]), (3, [4, 6, 13, 14, 15]), (4, [6, 13, 14, 15]), (5, [6, 13, 14, 15]), (7, [13, 14, 15]), (8, [9, 10, 11, 13, 14, 15]), (9, [10, 11, 13, 14, 15]), (10, [11, 13, 14, 15]), (11, [13, 14, 15]), (12, [13, 14, 15]), (6, [13, 14, 15]), (13, [14, 15]), (14, [15])]), (13, [0, 1, 2, 3, 4, 5, 7, 8, 9, 10, 11, 12, 6, 13, 14, 15], [(0, [6, 13, 14, 15]), (1, [2, 3, 4, 6, 13, 14, 15]), (2, [3, 4, 6, 13, 14, 15]), (3, [4, 6, 13, 14, 15]), (4, [6, 13, 14, 15]), (5, [6, 13, 14, 15]), (7, [13, 14, 15]), (8, [9, 10, 11, 13, 14, 15]), (9, [10, 11, 13, 14, 15]), (10, [11, 13, 14, 15]), (11, [13, 14, 15]), (12, [13, 14, 15]), (6, [13, 14, 15]), (13, [14, 15]), (14, [15])])], loops := [], cuts := [] }
theorem k_spec_l2Eval (v0 v1 v2 : Value) (w : World) (R : Value → World → Prop) : vc PP A_spec_l2Eval ((Tryz.f46.body).getD .skip) (retF PP Tryz.f46.results.toList R) (nthV [v0, v1, v2]) w = F_spec_l2Eval PP v0 v1 v2 w R := by kernel_rfl
theorem c_spec_l2Eval {v0 v1 v2 : Value} {w : World} {R : Value → World → Prop} (h : F_spec_l2Eval PP v0 v1 v2 w R) : vcall PP n_spec_l2Eval #[v0, v1, v2] w R :=
  call_of_vc (T := A_spec_l2Eval) (c := (Tryz.f46.body).getD .skip) (n := 96) mixed Tryz.func46 rfl rfl (by kernel_rfl) (by kernel_rfl) rfl (by rw [k_spec_l2Eval]; exact h)

/-- laws.toDecl -/
def F_laws_toDecl (P : Program) (v0 : Value) (w : World) (R : Value → World → Prop) : Prop :=
  vbox P T_laws_Decl v0 w fun t1 w_1 =>
  valloc P T_impl_Decl w_1 fun t2 w_2 =>
  valloc P T_impl_Decl w_2 fun t3 w_3 =>
  vfaddr P T_laws_Decl t1 0 w_3 fun t4 w_4 =>
  vload P T_string t4 w_4 fun t5 w_5 =>
  vfaddr P T_impl_Decl t3 0 w_5 fun t6 w_6 =>
  vstore P T_string t6 t5 w_6 fun _ w_7 =>
  vfaddr P T_laws_Decl t1 1 w_7 fun t7 w_8 =>
  vload P T_int t7 w_8 fun t8 w_9 =>
  vfaddr P T_impl_Decl t3 1 w_9 fun t9 w_10 =>
  vstore P T_int t9 t8 w_10 fun _ w_11 =>
  vload P T_impl_Decl t3 w_11 fun t10 w_12 =>
  vstore P T_impl_Decl t2 t10 w_12 fun _ w_13 =>
  vlv P T_impl_Decl t2 w_13 fun r2 w_14 =>
  R r2 w_14
def A_laws_toDecl : Ann := { ord := [], loops := [], cuts := [] }
theorem k_laws_toDecl (v0 : Value) (w : World) (R : Value → World → Prop) : vc PP A_laws_toDecl ((Tryz.f47.body).getD .skip) (retF PP Tryz.f47.results.toList R) (nthV [v0]) w = F_laws_toDecl PP v0 w R := by kernel_rfl
theorem c_laws_toDecl {v0 : Value} {w : World} {R : Value → World → Prop} (h : F_laws_toDecl PP v0 w R) : vcall PP n_laws_toDecl #[v0] w R :=
  call_of_vc (T := A_laws_toDecl) (c := (Tryz.f47.body).getD .skip) (n := 11) mixed Tryz.func47 rfl rfl (by kernel_rfl) (by kernel_rfl) rfl (by rw [k_laws_toDecl]; exact h)

/-- laws.toTermS -/
def F_laws_toTermS (P : Program) (v0 : Value) (w : World) (R : Value → World → Prop) : Prop :=
  vbi P .len [T_Llaws_Term] T_int [v0] w fun t6 w_1 =>
  vmkS P T_Limpl_Term t6 t6 w_1 fun t7 w_2 =>
  vloop [(.int .i64 0)] w_2 fun C u _ w_3 =>
    vbi P .len [T_Llaws_Term] T_int [v0] w_3 fun t10 w_4 =>
    vbin P .lss T_int false (sl 0 u) t10 w_4 fun t11 w_5 =>
    vif t11 (
      viaddr P T_Llaws_Term v0 (sl 0 u) w_5 fun t18 w_6 =>
      vload P T_laws_Term t18 w_6 fun t19 w_7 =>
      vcall P n_laws_toTerm #[t19] w_7 fun t20 w_8 =>
      viaddr P T_Limpl_Term t7 (sl 0 u) w_8 fun t21 w_9 =>
      vstore P T_impl_Term t21 t20 w_9 fun _ w_10 =>
      vbin P .add T_int true (sl 0 u) (.int .i64 1) w_10 fun t13 w_11 =>
      C [t13] w_11) (
      R t7 w_5)
def A_laws_toTermS : Ann := { ord := [], loops := [(3, [4])], cuts := [] }
theorem k_laws_toTermS (v0 : Value) (w : World) (R : Value → World → Prop) : vc PP A_laws_toTermS ((Tryz.f48.body).getD .skip) (retF PP Tryz.f48.results.toList R) (nthV [v0]) w = F_laws_toTermS PP v0 w R := by kernel_rfl
theorem c_laws_toTermS {v0 : Value} {w : World} {R : Value → World → Prop} (h : F_laws_toTermS PP v0 w R) : vcall PP n_laws_toTermS #[v0] w R :=
  call_of_vc (T := A_laws_toTermS) (c := (Tryz.f48.body).getD .skip) (n := 23) mixed Tryz.func48 rfl rfl (by kernel_rfl) (by kernel_rfl) rfl (by rw [k_laws_toTermS]; exact h)

/-- impl.valueOf -/
def F_impl_valueOf (P : Program) (v0 v1 v2 v3 : Value) (w : World) (R : Value → World → Prop) : Prop :=
  vbox P T_impl_Term v2 w fun t6 w_1 =>
  valloc P T_impl_Vec w_1 fun t8 w_2 =>
  vfaddr P T_impl_Term t6 4 w_2 fun t12 w_3 =>
  vload P T_Limpl_Term t12 w_3 fun t13 w_4 =>
  vbi P .len [T_Limpl_Term] T_int [t13] w_4 fun t14 w_5 =>
  vloop [(.slice none 0 0), (.int .i64 0)] w_5 fun C u _ w_6 =>
    vbin P .lss T_int false (sl 1 u) t14 w_6 fun t16 w_7 =>
    vif t16 (
      viaddr P T_Limpl_Term t13 (sl 1 u) w_7 fun t17 w_8 =>
      vload P T_impl_Term t17 w_8 fun t18 w_9 =>
      valloc P T_impl_Term w_9 fun t11 w_10 =>
      vstore P T_impl_Term t11 t18 w_10 fun _ w_11 =>
      vload P T_impl_Term t11 w_11 fun t22 w_12 =>
      vcall P n_impl_valueOf #[v0, v1, t22, v3] w_12 fun t24 w_13 =>
      vbuildS P T_Limpl_Vec 1 [(0, t24)] w_13 fun t25 w_14 =>
      vbi P .append [T_Limpl_Vec, T_Limpl_Vec] T_Limpl_Vec [(sl 0 u), t25] w_14 fun t26 w_15 =>
      vbin P .add T_int true (sl 1 u) (.int .i64 1) w_15 fun t27 w_16 =>
      C [t26, t27] w_16) (
      vdraw w_7 fun w_17 =>
      vload P T_impl_Term t6 w_17 fun t30 w_18 => w_18 = w_17 ∧
      vfaddr P T_impl_Term t6 0 w_17 fun t33 w_19 => w_19 = w_17 ∧
      vload P T_int t33 w_17 fun t34 w_20 => w_20 = w_17 ∧
      vlook P T_M_map_int_impl_kind v0 t34 false w_17 fun t35 w_21 => w_21 = w_17 ∧
      vload P T_impl_Term t6 w_17 fun t37 w_22 => w_22 = w_17 ∧
      vcall P n_impl_sortOf #[v0, v1, t30] w_17 fun t31 w_23 => (vload P T_impl_Term t6 w_23 fun v x => v = t37 ∧ x = w_23) ∧ (vlook P T_M_map_int_impl_kind v0 t34 false w_23 fun v x => v = t35 ∧ x = w_23) ∧ (vload P T_int t33 w_23 fun v x => v = t34 ∧ x = w_23) ∧ (vfaddr P T_impl_Term t6 0 w_23 fun v x => v = t33 ∧ x = w_23) ∧
      vinvoke P t35 mn_value #[v3, t37, (sl 0 u)] w_23 fun t39 w_24 =>
      vbuild P T_impl_Vec [(0, t31), (1, t39)] w_24 fun t40 w_25 => w_25 = w_24 ∧
      vstore P T_impl_Vec t8 t40 w_24 fun _ w_26 =>
      vlv P T_impl_Vec t8 w_26 fun r8 w_27 =>
      R r8 w_27)
def A_impl_valueOf : Ann := { ord := [(7, [0, 1, 2, 4, 5, 6, 7, 8, 9, 10, 3, 11, 12, 13], [(0, [3, 11, 12, 13]), (1, [3, 11, 12, 13]), (2, [3, 11, 12, 13]), (4, [7, 11, 12, 13]), (5, [6, 7, 11, 12, 13]), (6, [7, 11, 12, 13]), (7, [11, 12, 13]), (8, [11, 12, 13]), (9, [11, 12, 13]), (10, [11, 12, 13]), (3, [11, 12, 13]), (11, [12, 13]), (12, [13])])], loops := [(3, [9, 15])], cuts := [] }
theorem k_impl_valueOf (v0 v1 v2 v3 : Value) (w : World) (R : Value → World → Prop) : vc PP A_impl_valueOf ((Tryz.f49.body).getD .skip) (retF PP Tryz.f49.results.toList R) (nthV [v0, v1, v2, v3]) w = F_impl_valueOf PP v0 v1 v2 v3 w R := by kernel_rfl
theorem c_impl_valueOf {v0 v1 v2 v3 : Value} {w : World} {R : Value → World → Prop} (h : F_impl_valueOf PP v0 v1 v2 v3 w R) : vcall PP n_impl_valueOf #[v0, v1, v2, v3] w R :=
  call_of_vc (T := A_impl_valueOf) (c := (Tryz.f49.body).getD .skip) (n := 41) mixed Tryz.func49 rfl rfl (by kernel_rfl) (by kernel_rfl) rfl (by rw [k_impl_valueOf]; exact h)

/-- impl.kinds -/
def F_impl_kinds (P : Program) (w : World) (R : Value → World → Prop) : Prop :=
  vmkM P T_M_map_int_impl_kind none w fun t4 w_1 =>
  vbuild P T_impl_named [(0, (.string { data := #[110, 111, 116] })), (1, (.int .i64 1))] w_1 fun t5 w_2 =>
  vbuild P T_impl_unKind [(0, t5)] w_2 fun t6 w_3 =>
  vmkI P T_impl_unKind t6 w_3 fun t7 w_4 =>
  vmset P T_M_map_int_impl_kind t4 (.int .i64 1) t7 w_4 fun _ w_5 =>
  vbuild P T_impl_named [(0, (.string { data := #[110, 101, 103] })), (1, (.int .i64 1))] w_5 fun t8 w_6 =>
  vbuild P T_impl_unKind [(0, t8)] w_6 fun t9 w_7 =>
  vmkI P T_impl_unKind t9 w_7 fun t10 w_8 =>
  vmset P T_M_map_int_impl_kind t4 (.int .i64 2) t10 w_8 fun _ w_9 =>
  vbuild P T_impl_named [(0, (.string { data := #[99, 97, 116] })), (1, (.int .i64 2))] w_9 fun t11 w_10 =>
  vbuild P T_impl_catKind [(0, t11)] w_10 fun t12 w_11 =>
  vmkI P T_impl_catKind t12 w_11 fun t13 w_12 =>
  vmset P T_M_map_int_impl_kind t4 (.int .i64 14) t13 w_12 fun _ w_13 =>
  vbuild P T_impl_named [(0, (.string { data := #[115, 97, 109, 101] })), (1, (.int .i64 2))] w_13 fun t14 w_14 =>
  vbuild P T_impl_cmpKind [(0, t14)] w_14 fun t15 w_15 =>
  vmkI P T_impl_cmpKind t15 w_15 fun t16 w_16 =>
  vmset P T_M_map_int_impl_kind t4 (.int .i64 15) t16 w_16 fun _ w_17 =>
  vbuild P T_impl_named [(0, (.string { data := #[108, 101, 115, 115] })), (1, (.int .i64 2))] w_17 fun t17 w_18 =>
  vbuild P T_impl_cmpKind [(0, t17)] w_18 fun t18 w_19 =>
  vmkI P T_impl_cmpKind t18 w_19 fun t19 w_20 =>
  vmset P T_M_map_int_impl_kind t4 (.int .i64 16) t19 w_20 fun _ w_21 =>
  vbuild P T_impl_named [(0, (.string { data := #[117, 110, 100, 101, 114] })), (1, (.int .i64 2))] w_21 fun t20 w_22 =>
  vbuild P T_impl_cmpKind [(0, t20)] w_22 fun t21 w_23 =>
  vmkI P T_impl_cmpKind t21 w_23 fun t22 w_24 =>
  vmset P T_M_map_int_impl_kind t4 (.int .i64 17) t22 w_24 fun _ w_25 =>
  vbuild P T_impl_vecKind [] w_25 fun t23 w_26 =>
  vmkI P T_impl_vecKind t23 w_26 fun t24 w_27 =>
  vmset P T_M_map_int_impl_kind t4 (.int .i64 20) t24 w_27 fun _ w_28 =>
  vbuild P T_impl_nameKind [] w_28 fun t25 w_29 =>
  vmkI P T_impl_nameKind t25 w_29 fun t26 w_30 =>
  vmset P T_M_map_int_impl_kind t4 (.int .i64 21) t26 w_30 fun _ w_31 =>
  vbuild P T_impl_named [(0, (.string { data := #[99, 117, 116] })), (1, (.int .i64 1))] w_31 fun t27 w_32 =>
  vbuild P T_impl_cutKind [(0, t27)] w_32 fun t28 w_33 =>
  vmkI P T_impl_cutKind t28 w_33 fun t29 w_34 =>
  vmset P T_M_map_int_impl_kind t4 (.int .i64 22) t29 w_34 fun _ w_35 =>
  vbuild P T_impl_named [(0, (.string { data := #[105, 102] })), (1, (.int .i64 3))] w_35 fun t30 w_36 =>
  vbuild P T_impl_ifKind [(0, t30)] w_36 fun t31 w_37 =>
  vmkI P T_impl_ifKind t31 w_37 fun t32 w_38 =>
  vmset P T_M_map_int_impl_kind t4 (.int .i64 23) t32 w_38 fun _ w_39 =>
  vbuild P T_impl_named [(0, (.string { data := #[116, 114, 117, 101] })), (1, (.int .i64 0))] w_39 fun t33 w_40 =>
  vbuild P T_impl_boolKind [(0, t33), (1, (.func (.func n_impl_kinds_1) #[] #[]))] w_40 fun t34 w_41 =>
  vmkI P T_impl_boolKind t34 w_41 fun t35 w_42 =>
  vmset P T_M_map_int_impl_kind t4 (.int .i64 24) t35 w_42 fun _ w_43 =>
  vbuild P T_impl_named [(0, (.string { data := #[110, 111] })), (1, (.int .i64 1))] w_43 fun t36 w_44 =>
  vbuild P T_impl_boolKind [(0, t36), (1, (.func (.func n_impl_kinds_2) #[] #[]))] w_44 fun t37 w_45 =>
  vmkI P T_impl_boolKind t37 w_45 fun t38 w_46 =>
  vmset P T_M_map_int_impl_kind t4 (.int .i64 25) t38 w_46 fun _ w_47 =>
  vbuild P T_impl_named [(0, (.string { data := #[98, 111, 116, 104] })), (1, (.int .i64 2))] w_47 fun t39 w_48 =>
  vbuild P T_impl_boolKind [(0, t39), (1, (.func (.func n_impl_kinds_3) #[] #[]))] w_48 fun t40 w_49 =>
  vmkI P T_impl_boolKind t40 w_49 fun t41 w_50 =>
  vmset P T_M_map_int_impl_kind t4 (.int .i64 26) t41 w_50 fun _ w_51 =>
  vbuild P T_impl_named [(0, (.string { data := #[97, 110, 121] })), (1, (.int .i64 2))] w_51 fun t42 w_52 =>
  vbuild P T_impl_boolKind [(0, t42), (1, (.func (.func n_impl_kinds_4) #[] #[]))] w_52 fun t43 w_53 =>
  vmkI P T_impl_boolKind t43 w_53 fun t44 w_54 =>
  vmset P T_M_map_int_impl_kind t4 (.int .i64 27) t44 w_54 fun _ w_55 =>
  vbuildS P T_Lstring 11 [(0, (.string { data := #[97, 110, 100] })), (1, (.string { data := #[111, 114] })), (2, (.string { data := #[120, 111, 114] })), (3, (.string { data := #[97, 100, 100] })), (4, (.string { data := #[115, 117, 98] })), (5, (.string { data := #[109, 117, 108] })), (6, (.string { data := #[100, 105, 118] })), (7, (.string { data := #[114, 101, 109] })), (8, (.string { data := #[115, 104, 108] })), (9, (.string { data := #[115, 104, 114] })), (10, (.string { data := #[115, 97, 114] }))] w_55 fun t46 w_56 =>
  vbi P .len [T_Lstring] T_int [t46] w_56 fun t47 w_57 =>
  vloop [(.int .i64 0)] w_57 fun C u _ w_58 =>
    vbin P .lss T_int false (sl 0 u) t47 w_58 fun t49 w_59 =>
    vif t49 (
      viaddr P T_Lstring t46 (sl 0 u) w_59 fun t51 w_60 =>
      vload P T_string t51 w_60 fun t52 w_61 =>
      vbin P .add T_int true (.int .i64 3) (sl 0 u) w_61 fun t55 w_62 =>
      vbuild P T_impl_named [(0, t52), (1, (.int .i64 2))] w_62 fun t57 w_63 =>
      vbuild P T_impl_binKind [(0, t57)] w_63 fun t58 w_64 =>
      vmkI P T_impl_binKind t58 w_64 fun t59 w_65 =>
      vmset P T_M_map_int_impl_kind t4 t55 t59 w_65 fun _ w_66 =>
      vbin P .add T_int true (sl 0 u) (.int .i64 1) w_66 fun t60 w_67 =>
      C [t60] w_67) (
      R t4 w_59)
def A_impl_kinds : Ann := { ord := [], loops := [(3, [48])], cuts := [] }
theorem k_impl_kinds (w : World) (R : Value → World → Prop) : vc PP A_impl_kinds ((Tryz.f50.body).getD .skip) (retF PP Tryz.f50.results.toList R) (nthV []) w = F_impl_kinds PP  w R := by kernel_rfl
theorem c_impl_kinds {w : World} {R : Value → World → Prop} (h : F_impl_kinds PP  w R) : vcall PP n_impl_kinds #[] w R :=
  call_of_vc (T := A_impl_kinds) (c := (Tryz.f50.body).getD .skip) (n := 62) mixed Tryz.func50 rfl rfl (by kernel_rfl) (by kernel_rfl) rfl (by rw [k_impl_kinds]; exact h)

/-- impl.envMap -/
def F_impl_envMap (P : Program) (v0 v1 : Value) (w : World) (R : Value → World → Prop) : Prop :=
  vmkM P T_M_map_string_int none w fun t8 w_1 =>
  vbi P .len [T_Limpl_Decl] T_int [v0] w_1 fun t10 w_2 =>
  vloop [(.int .i64 0)] w_2 fun C u _ w_3 =>
    vbin P .lss T_int false (sl 0 u) t10 w_3 fun t12 w_4 =>
    vif t12 (
      viaddr P T_Limpl_Decl v0 (sl 0 u) w_4 fun t14 w_5 =>
      vload P T_impl_Decl t14 w_5 fun t15 w_6 =>
      valloc P T_impl_Decl w_6 fun t7 w_7 =>
      vstore P T_impl_Decl t7 t15 w_7 fun _ w_8 =>
      vdraw w_8 fun w_9 =>
      vfaddr P T_impl_Decl t7 0 w_9 fun t17 w_10 => w_10 = w_9 ∧
      vload P T_string t17 w_9 fun t18 w_11 => w_11 = w_9 ∧
      viaddr P T_Lint v1 (sl 0 u) w_9 fun t21 w_12 => w_12 = w_9 ∧
      vload P T_int t21 w_9 fun t22 w_13 => w_13 = w_9 ∧
      vmset P T_M_map_string_int t8 t18 t22 w_9 fun _ w_14 =>
      vbin P .add T_int true (sl 0 u) (.int .i64 1) w_14 fun t23 w_15 =>
      C [t23] w_15) (
      R t8 w_4)
def A_impl_envMap : Ann := { ord := [(5, [0, 1, 2, 3, 4, 5, 6, 7], [(0, [7]), (1, [2, 7]), (2, [7]), (3, [5, 6, 7]), (4, [5, 6, 7]), (5, [6, 7]), (6, [7])])], loops := [(3, [11])], cuts := [] }
theorem k_impl_envMap (v0 v1 : Value) (w : World) (R : Value → World → Prop) : vc PP A_impl_envMap ((Tryz.f51.body).getD .skip) (retF PP Tryz.f51.results.toList R) (nthV [v0, v1]) w = F_impl_envMap PP v0 v1 w R := by kernel_rfl
theorem c_impl_envMap {v0 v1 : Value} {w : World} {R : Value → World → Prop} (h : F_impl_envMap PP v0 v1 w R) : vcall PP n_impl_envMap #[v0, v1] w R :=
  call_of_vc (T := A_impl_envMap) (c := (Tryz.f51.body).getD .skip) (n := 25) mixed Tryz.func51 rfl rfl (by kernel_rfl) (by kernel_rfl) rfl (by rw [k_impl_envMap]; exact h)

/-- laws.eqDecl -/
def F_laws_eqDecl (P : Program) (v0 v1 : Value) (w : World) (R : Value → World → Prop) : Prop :=
  vbox P T_impl_Decl v0 w fun t2 w_1 =>
  vbox P T_impl_Decl v1 w_1 fun t3 w_2 =>
  vfaddr P T_impl_Decl t2 0 w_2 fun t5 w_3 =>
  vload P T_string t5 w_3 fun t6 w_4 =>
  vfaddr P T_impl_Decl t3 0 w_4 fun t7 w_5 =>
  vload P T_string t7 w_5 fun t8 w_6 =>
  vbin P .neq T_string false t6 t8 w_6 fun t9 w_7 =>
  vif t9 (
    R (.bool false) w_7) (
    vfaddr P T_impl_Decl t2 1 w_7 fun t10 w_8 =>
    vload P T_int t10 w_8 fun t11 w_9 =>
    vfaddr P T_impl_Decl t3 1 w_9 fun t12 w_10 =>
    vload P T_int t12 w_10 fun t13 w_11 =>
    vbin P .neq T_int false t11 t13 w_11 fun t14 w_12 =>
    vif t14 (
      R (.bool false) w_12) (
      R (.bool true) w_12))
def A_laws_eqDecl : Ann := { ord := [], loops := [], cuts := [] }
theorem k_laws_eqDecl (v0 v1 : Value) (w : World) (R : Value → World → Prop) : vc PP A_laws_eqDecl ((Tryz.f52.body).getD .skip) (retF PP Tryz.f52.results.toList R) (nthV [v0, v1]) w = F_laws_eqDecl PP v0 v1 w R := by kernel_rfl
theorem c_laws_eqDecl {v0 v1 : Value} {w : World} {R : Value → World → Prop} (h : F_laws_eqDecl PP v0 v1 w R) : vcall PP n_laws_eqDecl #[v0, v1] w R :=
  call_of_vc (T := A_laws_eqDecl) (c := (Tryz.f52.body).getD .skip) (n := 15) mixed Tryz.func52 rfl rfl (by kernel_rfl) (by kernel_rfl) rfl (by rw [k_laws_eqDecl]; exact h)

/-- laws.eqTermS -/
def F_laws_eqTermS (P : Program) (v0 v1 : Value) (w : World) (R : Value → World → Prop) : Prop :=
  vbi P .len [T_Limpl_Term] T_int [v0] w fun t7 w_1 =>
  vbi P .len [T_Limpl_Term] T_int [v1] w_1 fun t9 w_2 =>
  vbin P .neq T_int false t7 t9 w_2 fun t10 w_3 =>
  vif t10 (
    R (.bool false) w_3) (
    vloop [(.int .i64 0)] w_3 fun C u _ w_4 =>
      vbi P .len [T_Limpl_Term] T_int [v0] w_4 fun t13 w_5 =>
      vbin P .lss T_int false (sl 0 u) t13 w_5 fun t14 w_6 =>
      vif t14 (
        vdraw w_6 fun w_7 =>
        viaddr P T_Limpl_Term v0 (sl 0 u) w_7 fun t19 w_8 => w_8 = w_7 ∧
        vload P T_impl_Term t19 w_7 fun t20 w_9 => w_9 = w_7 ∧
        viaddr P T_Limpl_Term v1 (sl 0 u) w_7 fun t23 w_10 => w_10 = w_7 ∧
        vload P T_impl_Term t23 w_7 fun t24 w_11 => w_11 = w_7 ∧
        vcall P n_laws_eqTerm #[t20, t24] w_7 fun t25 w_12 =>
        vun P .not t25 w_12 fun t26 w_13 => w_13 = w_12 ∧
        vif t26 (
          R (.bool false) w_12) (
          vbin P .add T_int true (sl 0 u) (.int .i64 1) w_12 fun t16 w_14 =>
          C [t16] w_14)) (
        R (.bool true) w_6))
def A_laws_eqTermS : Ann := { ord := [(6, [0, 1, 2, 3, 4, 5, 6, 7, 8, 9], [(0, [2, 3, 8, 9]), (1, [2, 3, 8, 9]), (2, [3, 8, 9]), (3, [8, 9]), (4, [6, 7, 8, 9]), (5, [6, 7, 8, 9]), (6, [7, 8, 9]), (7, [8, 9]), (8, [9])])], loops := [(4, [5])], cuts := [] }
theorem k_laws_eqTermS (v0 v1 : Value) (w : World) (R : Value → World → Prop) : vc PP A_laws_eqTermS ((Tryz.f53.body).getD .skip) (retF PP Tryz.f53.results.toList R) (nthV [v0, v1]) w = F_laws_eqTermS PP v0 v1 w R := by kernel_rfl
theorem c_laws_eqTermS {v0 v1 : Value} {w : World} {R : Value → World → Prop} (h : F_laws_eqTermS PP v0 v1 w R) : vcall PP n_laws_eqTermS #[v0, v1] w R :=
  call_of_vc (T := A_laws_eqTermS) (c := (Tryz.f53.body).getD .skip) (n := 27) mixed Tryz.func53 rfl rfl (by kernel_rfl) (by kernel_rfl) rfl (by rw [k_laws_eqTermS]; exact h)

/-- spec.l12Open -/
def F_spec_l12Open (P : Program) (v0 : Value) (w : World) (R : Value → World → Prop) : Prop :=
  vbi P .len [T_Luint8] T_int [v0] w fun t4 w_1 =>
  vbin P .gtr T_int true t4 (.int .i64 2000) w_1 fun t5 w_2 =>
  vif t5 (
    vslice P T_Luint8 v0 none (some (.int .i64 2000)) none w_2 fun t7 w_3 =>
    vbuild P T_spec_l12Rd [(0, t7)] w_3 fun t9 w_4 =>
    vbox P T_spec_l12Rd t9 w_4 fun t10 w_5 =>
    R t10 w_5) (
    vbuild P T_spec_l12Rd [(0, v0)] w_2 fun t9_1 w_6 =>
    vbox P T_spec_l12Rd t9_1 w_6 fun t10_1 w_7 =>
    R t10_1 w_7)
def A_spec_l12Open : Ann := { ord := [], loops := [], cuts := [] }
theorem k_spec_l12Open (v0 : Value) (w : World) (R : Value → World → Prop) : vc PP A_spec_l12Open ((Tryz.f54.body).getD .skip) (retF PP Tryz.f54.results.toList R) (nthV [v0]) w = F_spec_l12Open PP v0 w R := by kernel_rfl
theorem c_spec_l12Open {v0 : Value} {w : World} {R : Value → World → Prop} (h : F_spec_l12Open PP v0 w R) : vcall PP n_spec_l12Open #[v0] w R :=
  call_of_vc (T := A_spec_l12Open) (c := (Tryz.f54.body).getD .skip) (n := 11) mixed Tryz.func54 rfl rfl (by kernel_rfl) (by kernel_rfl) rfl (by rw [k_spec_l12Open]; exact h)

/-- spec.l2Draw -/
def F_spec_l2Draw (P : Program) (v0 : Value) (w : World) (R : Value → World → Prop) : Prop :=
  valloc P T_impl_Term w fun t3 w_1 =>
  vcall P n_spec_l2Decls #[v0] w_1 fun t7 w_2 =>
  vbuildS P T_Lint 7 [(0, (.int .i64 0)), (1, (.int .i64 0)), (2, (.int .i64 0)), (3, (.int .i64 1)), (4, (.int .i64 2)), (5, (.int .i64 3)), (6, (.int .i64 4))] w_2 fun t11 w_3 =>
  vcall P n_spec_l12Rd_num #[v0, t11] w_3 fun t12 w_4 =>
  vcall P n_spec_l2Some #[v0, t7, t12] w_4 fun t13 w_5 =>
  valloc P T_impl_Term w_5 fun t5 w_6 =>
  vstore P T_impl_Term t5 t13 w_6 fun _ w_7 =>
  vdraw w_7 fun w_8 =>
  vload P T_impl_Term t5 w_8 fun t18 w_9 => w_9 = w_8 ∧
  vcall P n_spec_l2Spoil #[v0, t7] w_8 fun t16 w_10 => (vload P T_impl_Term t5 w_10 fun v x => v = t18 ∧ x = w_10) ∧
  vcall P n_spec_l2Bent #[v0, t18] w_10 fun t19 w_11 =>
  vstore P T_impl_Term t3 t19 w_11 fun _ w_12 =>
  vlv P T_impl_Term t3 w_12 fun r3 w_13 =>
  R (.tuple #[t16, r3]) w_13
def A_spec_l2Draw : Ann := { ord := [(3, [0, 1, 3, 4, 2, 5, 6, 7], [(0, [2, 5, 6, 7]), (1, [2, 5, 6, 7]), (3, [5, 6, 7]), (4, [5, 6, 7]), (2, [5, 6, 7]), (5, [6, 7]), (6, [7])])], loops := [], cuts := [] }
theorem k_spec_l2Draw (v0 : Value) (w : World) (R : Value → World → Prop) : vc PP A_spec_l2Draw ((Tryz.f55.body).getD .skip) (retF PP Tryz.f55.results.toList R) (nthV [v0]) w = F_spec_l2Draw PP v0 w R := by kernel_rfl
theorem c_spec_l2Draw {v0 : Value} {w : World} {R : Value → World → Prop} (h : F_spec_l2Draw PP v0 w R) : vcall PP n_spec_l2Draw #[v0] w R :=
  call_of_vc (T := A_spec_l2Draw) (c := (Tryz.f55.body).getD .skip) (n := 20) mixed Tryz.func55 rfl rfl (by kernel_rfl) (by kernel_rfl) rfl (by rw [k_spec_l2Draw]; exact h)

/-- spec.l2Env -/
def F_spec_l2Env (P : Program) (v0 v1 : Value) (w : World) (R : Value → World → Prop) : Prop :=
  vbuildS P T_Lint 0 [] w fun t7 w_1 =>
  vloop [t7, (.int .i64 0)] w_1 fun C u _ w_2 =>
    vbi P .len [T_Limpl_Decl] T_int [v1] w_2 fun t10 w_3 =>
    vbin P .lss T_int false (sl 1 u) t10 w_3 fun t11 w_4 =>
    vif t11 (
      viaddr P T_Limpl_Decl v1 (sl 1 u) w_4 fun t18 w_5 =>
      vfaddr P T_impl_Decl t18 1 w_5 fun t19 w_6 =>
      vload P T_int t19 w_6 fun t20 w_7 =>
      vcall P n_spec_l1Min #[t20, (.int .i64 4)] w_7 fun t21 w_8 =>
      vcall P n_spec_l1Max #[(.int .i64 0), t21] w_8 fun t22 w_9 =>
      vcall P n_spec_l1Two #[t22] w_9 fun t23 w_10 =>
      vcall P n_spec_l12Rd_pick #[v0, t23] w_10 fun t24 w_11 =>
      vbuildS P T_Lint 1 [(0, t24)] w_11 fun t25 w_12 =>
      vbi P .append [T_Lint, T_Lint] T_Lint [(sl 0 u), t25] w_12 fun t26 w_13 =>
      vbin P .add T_int true (sl 1 u) (.int .i64 1) w_13 fun t13 w_14 =>
      C [t26, t13] w_14) (
      vcall P n_spec_l12Rd_pick #[v0, (.int .i64 24)] w_4 fun t28 w_15 =>
      vbin P .eql T_int true t28 (.int .i64 0) w_15 fun t30 w_16 =>
      vif t30 (
        vbuildS P T_Lint 1 [(0, (.int .i64 0))] w_16 fun t32 w_17 =>
        vbi P .append [T_Lint, T_Lint] T_Lint [(sl 0 u), t32] w_17 fun t33 w_18 =>
        R t33 w_18) (
        vbin P .eql T_int true t28 (.int .i64 1) w_16 fun t35 w_19 =>
        vif t35 (
          vbi P .len [T_Lint] T_int [(sl 0 u)] w_19 fun t37 w_20 =>
          vbin P .gtr T_int true t37 (.int .i64 0) w_20 fun t38 w_21 =>
          vif t38 (
            vbuildS P T_Lint 3 [(0, (.int .i64 (-1))), (1, (.int .i64 16)), (2, (.int .i64 9223372036854775807))] w_21 fun t41 w_22 =>
            vcall P n_spec_l12Rd_num #[v0, t41] w_22 fun t42 w_23 =>
            viaddr P T_Lint (sl 0 u) (.int .i64 0) w_23 fun t43 w_24 =>
            vstore P T_int t43 t42 w_24 fun _ w_25 =>
            R (sl 0 u) w_25) (
            R (sl 0 u) w_21)) (
          R (sl 0 u) w_19)))
def A_spec_l2Env : Ann := { ord := [], loops := [(3, [5, 6])], cuts := [] }
theorem k_spec_l2Env (v0 v1 : Value) (w : World) (R : Value → World → Prop) : vc PP A_spec_l2Env ((Tryz.f56.body).getD .skip) (retF PP Tryz.f56.results.toList R) (nthV [v0, v1]) w = F_spec_l2Env PP v0 v1 w R := by kernel_rfl
theorem c_spec_l2Env {v0 v1 : Value} {w : World} {R : Value → World → Prop} (h : F_spec_l2Env PP v0 v1 w R) : vcall PP n_spec_l2Env #[v0, v1] w R :=
  call_of_vc (T := A_spec_l2Env) (c := (Tryz.f56.body).getD .skip) (n := 45) mixed Tryz.func56 rfl rfl (by kernel_rfl) (by kernel_rfl) rfl (by rw [k_spec_l2Env]; exact h)

/-- impl.DeclOk -/
def F_impl_DeclOk (P : Program) (v0 : Value) (w : World) (R : Value → World → Prop) : Prop :=
  vbi P .len [T_Limpl_Decl] T_int [v0] w fun t7 w_1 =>
  vbin P .gtr T_int true t7 (.int .i64 4) w_1 fun t8 w_2 =>
  vif t8 (
    R (.bool false) w_2) (
    vbi P .len [T_Limpl_Decl] T_int [v0] w_2 fun t10 w_3 =>
    vloop [(.int .i64 0), (.int .i64 0)] w_3 fun C u _ w_4 =>
      vbin P .lss T_int false (sl 1 u) t10 w_4 fun t12 w_5 =>
      vif t12 (
        viaddr P T_Limpl_Decl v0 (sl 1 u) w_5 fun t14 w_6 =>
        vload P T_impl_Decl t14 w_6 fun t15 w_7 =>
        valloc P T_impl_Decl w_7 fun t5 w_8 =>
        vstore P T_impl_Decl t5 t15 w_8 fun _ w_9 =>
        vjoin (fun J =>
          vfaddr P T_impl_Decl t5 0 w_9 fun t16 w_11 =>
          vload P T_string t16 w_11 fun t17 w_12 =>
          vbi P .len [T_string] T_int [t17] w_12 fun t18 w_13 =>
          vbin P .lss T_int true t18 (.int .i64 1) w_13 fun t19 w_14 =>
          vif t19 (
            R (.bool false) w_14) (
            vfaddr P T_impl_Decl t5 0 w_14 fun t21 w_15 =>
            vload P T_string t21 w_15 fun t22 w_16 =>
            vbi P .len [T_string] T_int [t22] w_16 fun t23 w_17 =>
            vbin P .gtr T_int true t23 (.int .i64 4) w_17 fun t24 w_18 =>
            vif t24 (
              R (.bool false) w_18) (
              vfaddr P T_impl_Decl t5 0 w_18 fun t27 w_19 =>
              vload P T_string t27 w_19 fun t28 w_20 =>
              vbin P .eql T_string true t28 (.string { data := #[116, 114, 117, 101] }) w_20 fun t29 w_21 =>
              vif t29 (
                R (.bool false) w_21) (
                vfaddr P T_impl_Decl t5 0 w_21 fun t32 w_22 =>
                vload P T_string t32 w_22 fun t33 w_23 =>
                vcall P n_strings_Trim #[t33, (.string { data := #[97, 98, 99, 100, 101, 102, 103, 104, 105, 106, 107, 108, 109, 110, 111, 112, 113, 114, 115, 116, 117, 118, 119, 120, 121, 122] })] w_23 fun t34 w_24 =>
                vbin P .neq T_string true t34 (.string { data := #[] }) w_24 fun t35 w_25 =>
                vif t35 (
                  R (.bool false) w_25) (
                  J [] w_25))))) (fun _ _ w_10 =>
          vslice P T_Limpl_Decl v0 none (some (sl 1 u)) none w_10 fun t39 w_26 =>
          vmkF P (.func n_impl_DeclOk_1) [] [t5] w_26 fun t40 w_27 =>
          vcall P n_slices_ContainsFunc_Limpl_Decl_impl_Decl #[t39, t40] w_27 fun t41 w_28 =>
          vif t41 (
            R (.bool false) w_28) (
            vfaddr P T_impl_Decl t5 1 w_28 fun t43 w_29 =>
            vload P T_int t43 w_29 fun t44 w_30 =>
            vbin P .lss T_int true t44 (.int .i64 1) w_30 fun t45 w_31 =>
            vif t45 (
              R (.bool false) w_31) (
              vfaddr P T_impl_Decl t5 1 w_31 fun t48 w_32 =>
              vload P T_int t48 w_32 fun t49 w_33 =>
              vbin P .gtr T_int true t49 (.int .i64 4) w_33 fun t50 w_34 =>
              vif t50 (
                R (.bool false) w_34) (
                vfaddr P T_impl_Decl t5 1 w_34 fun t53 w_35 =>
                vload P T_int t53 w_35 fun t54 w_36 =>
                vbin P .add T_int false (sl 0 u) t54 w_36 fun t55 w_37 =>
                vbin P .add T_int true (sl 1 u) (.int .i64 1) w_37 fun t56 w_38 =>
                C [t55, t56] w_38))))) (
        vbin P .leq T_int true (sl 0 u) (.int .i64 8) w_5 fun t58 w_39 =>
        R t58 w_39))
def A_impl_DeclOk : Ann := { ord := [], loops := [(5, [3, 11])], cuts := [(32777, [])] }
theorem k_impl_DeclOk (v0 : Value) (w : World) (R : Value → World → Prop) : vc PP A_impl_DeclOk ((Tryz.f57.body).getD .skip) (retF PP Tryz.f57.results.toList R) (nthV [v0]) w = F_impl_DeclOk PP v0 w R := by kernel_rfl
theorem c_impl_DeclOk {v0 : Value} {w : World} {R : Value → World → Prop} (h : F_impl_DeclOk PP v0 w R) : vcall PP n_impl_DeclOk #[v0] w R :=
  call_of_vc (T := A_impl_DeclOk) (c := (Tryz.f57.body).getD .skip) (n := 59) mixed Tryz.func57 rfl rfl (by kernel_rfl) (by kernel_rfl) rfl (by rw [k_impl_DeclOk]; exact h)

/-- impl.sortOf -/
def F_impl_sortOf (P : Program) (v0 v1 v2 : Value) (w : World) (R : Value → World → Prop) : Prop :=
  vbox P T_impl_Term v2 w fun t5 w_1 =>
  vfaddr P T_impl_Term t5 0 w_1 fun t15 w_2 =>
  vload P T_int t15 w_2 fun t16 w_3 =>
  vlook P T_M_map_int_impl_kind v0 t16 true w_3 fun t17 w_4 =>
  vextract P t17 0 w_4 fun t18 w_5 =>
  vextract P t17 1 w_5 fun t19 w_6 =>
  vjoin (fun J =>
    vdraw w_6 fun w_8 =>
    vun P .not t19 w_8 fun t21 w_9 => w_9 = w_8 ∧
    vif t21 (
      R (.int .i64 (-1)) w_8) (
      vfaddr P T_impl_Term t5 4 w_8 fun t23 w_10 => w_10 = w_8 ∧
      vload P T_Limpl_Term t23 w_8 fun t24 w_11 => w_11 = w_8 ∧
      vbi P .len [T_Limpl_Term] T_int [t24] w_8 fun t25 w_12 => w_12 = w_8 ∧
      vinvoke P t18 mn_kids #[] w_8 fun t27 w_13 => (vbi P .len [T_Limpl_Term] T_int [t24] w_13 fun v x => v = t25 ∧ x = w_13) ∧ (vload P T_Limpl_Term t23 w_13 fun v x => v = t24 ∧ x = w_13) ∧ (vfaddr P T_impl_Term t5 4 w_13 fun v x => v = t23 ∧ x = w_13) ∧
      vbin P .neq T_int false t25 t27 w_13 fun t28 w_14 => w_14 = w_13 ∧
      vif t28 (
        R (.int .i64 (-1)) w_13) (
        vload P T_impl_Term t5 w_13 fun t31 w_15 => w_15 = w_13 ∧
        vcall P n_impl_plain #[t31] w_13 fun t32 w_16 =>
        vun P .not t32 w_16 fun t33 w_17 => w_17 = w_16 ∧
        vif t33 (
          R (.int .i64 (-1)) w_16) (
          J [] w_16)))) (fun _ _ w_7 =>
    vfaddr P T_impl_Term t5 4 w_7 fun t35 w_18 =>
    vload P T_Limpl_Term t35 w_18 fun t36 w_19 =>
    vbi P .len [T_Limpl_Term] T_int [t36] w_19 fun t37 w_20 =>
    vloop [(.slice none 0 0), (.int .i64 0)] w_20 fun C u_1 _ w_21 =>
      vbin P .lss T_int false (sl 1 u_1) t37 w_21 fun t39 w_22 =>
      vif t39 (
        viaddr P T_Limpl_Term t36 (sl 1 u_1) w_22 fun t40 w_23 =>
        vload P T_impl_Term t40 w_23 fun t41 w_24 =>
        valloc P T_impl_Term w_24 fun t11 w_25 =>
        vstore P T_impl_Term t11 t41 w_25 fun _ w_26 =>
        vload P T_impl_Term t11 w_26 fun t44 w_27 =>
        vcall P n_impl_sortOf #[v0, v1, t44] w_27 fun t45 w_28 =>
        vbin P .eql T_int true t45 (.int .i64 (-1)) w_28 fun t47 w_29 =>
        vif t47 (
          R (.int .i64 (-1)) w_29) (
          vbuildS P T_Lint 1 [(0, t45)] w_29 fun t50 w_30 =>
          vbi P .append [T_Lint, T_Lint] T_Lint [(sl 0 u_1), t50] w_30 fun t51 w_31 =>
          vbin P .add T_int true (sl 1 u_1) (.int .i64 1) w_31 fun t52 w_32 =>
          C [t51, t52] w_32)) (
        vload P T_impl_Term t5 w_22 fun t55 w_33 =>
        vinvoke P t18 mn_sort #[v1, t55, (sl 0 u_1)] w_33 fun t57 w_34 =>
        R t57 w_34))
def A_impl_sortOf : Ann := { ord := [(2, [0, 1, 2, 3, 4, 5, 6, 7, 8, 9, 10, 11, 12, 13, 14], [(0, [1, 2, 3, 4, 5, 6, 7, 8, 9, 10, 11, 12, 13, 14]), (1, [2, 3, 4, 5, 6, 7, 8, 9, 10, 11, 12, 13, 14]), (2, [3, 4, 5, 6, 7, 8, 9, 10, 11, 12, 13, 14]), (3, [4, 5, 8, 9, 10, 11, 12, 13, 14]), (4, [5, 8, 9, 10, 11, 12, 13, 14]), (5, [8, 9, 10, 11, 12, 13, 14]), (6, [7, 8, 9, 10, 11, 12, 13, 14]), (7, [8, 9, 10, 11, 12, 13, 14]), (8, [9, 10, 11, 12, 13, 14]), (9, [10, 11, 12, 13, 14]), (10, [11, 12, 13, 14]), (11, [12, 13, 14]), (12, [13, 14]), (13, [14])])], loops := [(6, [9, 38])], cuts := [(12292, [])] }
theorem k_impl_sortOf (v0 v1 v2 : Value) (w : World) (R : Value → World → Prop) : vc PP A_impl_sortOf ((Tryz.f58.body).getD .skip) (retF PP Tryz.f58.results.toList R) (nthV [v0, v1, v2]) w = F_impl_sortOf PP v0 v1 v2 w R := by kernel_rfl
theorem c_impl_sortOf {v0 v1 v2 : Value} {w : World} {R : Value → World → Prop} (h : F_impl_sortOf PP v0 v1 v2 w R) : vcall PP n_impl_sortOf #[v0, v1, v2] w R :=
  call_of_vc (T := A_impl_sortOf) (c := (Tryz.f58.body).getD .skip) (n := 58) mixed Tryz.func58 rfl rfl (by kernel_rfl) (by kernel_rfl) rfl (by rw [k_impl_sortOf]; exact h)

/-- impl.count -/
def F_impl_count (P : Program) (v0 v1 v2 : Value) (w : World) (R : Value → World → Prop) : Prop :=
  vbox P T_impl_Term v0 w fun t3 w_1 =>
  vnil P v2 w_1 fun t11 w_2 =>
  vload P T_int t11 w_2 fun t12 w_3 =>
  vbin P .add T_int true t12 (.int .i64 1) w_3 fun t13 w_4 =>
  vnil P v2 w_4 fun t14 w_5 =>
  vstore P T_int t14 t13 w_5 fun _ w_6 =>
  vbin P .gtr T_int true v1 (.int .i64 7) w_6 fun t17 w_7 =>
  vif t17 (
    R v1 w_7) (
    vfaddr P T_impl_Term t3 4 w_7 fun t19 w_8 =>
    vload P T_Limpl_Term t19 w_8 fun t20 w_9 =>
    vbi P .len [T_Limpl_Term] T_int [t20] w_9 fun t21 w_10 =>
    vloop [v1, (.int .i64 0)] w_10 fun C u _ w_11 =>
      vbin P .lss T_int false (sl 1 u) t21 w_11 fun t23 w_12 =>
      vif t23 (
        viaddr P T_Limpl_Term t20 (sl 1 u) w_12 fun t24 w_13 =>
        vload P T_impl_Term t24 w_13 fun t25 w_14 =>
        valloc P T_impl_Term w_14 fun t9 w_15 =>
        vstore P T_impl_Term t9 t25 w_15 fun _ w_16 =>
        vnil P v2 w_16 fun t27 w_17 =>
        vload P T_int t27 w_17 fun t28 w_18 =>
        vbin P .gtr T_int true t28 (.int .i64 20) w_18 fun t29 w_19 =>
        vif t29 (
          R (sl 0 u) w_19) (
          vload P T_impl_Term t9 w_19 fun t31 w_20 =>
          vbin P .add T_int true v1 (.int .i64 1) w_20 fun t33 w_21 =>
          vcall P n_impl_count #[t31, t33, v2] w_21 fun t35 w_22 =>
          vbi P .max [T_int, T_int] T_int [(sl 0 u), t35] w_22 fun t36 w_23 =>
          vbin P .add T_int true (sl 1 u) (.int .i64 1) w_23 fun t37 w_24 =>
          C [t36, t37] w_24)) (
        R (sl 0 u) w_12))
def A_impl_count : Ann := { ord := [], loops := [(6, [7, 22])], cuts := [] }
theorem k_impl_count (v0 v1 v2 : Value) (w : World) (R : Value → World → Prop) : vc PP A_impl_count ((Tryz.f59.body).getD .skip) (retF PP Tryz.f59.results.toList R) (nthV [v0, v1, v2]) w = F_impl_count PP v0 v1 v2 w R := by kernel_rfl
theorem c_impl_count {v0 v1 v2 : Value} {w : World} {R : Value → World → Prop} (h : F_impl_count PP v0 v1 v2 w R) : vcall PP n_impl_count #[v0, v1, v2] w R :=
  call_of_vc (T := A_impl_count) (c := (Tryz.f59.body).getD .skip) (n := 39) mixed Tryz.func59 rfl rfl (by kernel_rfl) (by kernel_rfl) rfl (by rw [k_impl_count]; exact h)

/-- spec.TermMany -/
def F_spec_TermMany (P : Program) (v0 : Value) (w : World) (R : Value → World → Prop) : Prop :=
  vbox P T_impl_Term v0 w fun t1 w_1 =>
  vloop [(.int .i64 1), (.int .i64 0), (.int .i64 0)] w_1 fun C u _ w_2 =>
    vjoin (fun J =>
      vfaddr P T_impl_Term t1 4 w_2 fun t10 w_4 =>
      vload P T_Limpl_Term t10 w_4 fun t11 w_5 =>
      vbi P .len [T_Limpl_Term] T_int [t11] w_5 fun t12 w_6 =>
      vbin P .lss T_int false (sl 2 u) t12 w_6 fun t13 w_7 =>
      vif t13 (
        vbin P .leq T_int true (sl 0 u) (.int .i64 20) w_7 fun t16 w_8 =>
        vif t16 (
          J [] w_8) (
          vbin P .add T_int true (sl 1 u) (.int .i64 1) w_8 fun t36 w_9 =>
          vbin P .gtr T_int true (sl 0 u) (.int .i64 20) w_9 fun t38 w_10 =>
          vif t38 (
            R (.tuple #[(.int .i64 21), (.int .i64 8)]) w_10) (
            vbin P .gtr T_int true t36 (.int .i64 7) w_10 fun t41 w_11 =>
            vif t41 (
              R (.tuple #[(.int .i64 21), (.int .i64 8)]) w_11) (
              R (.tuple #[(sl 0 u), t36]) w_11)))) (
        vbin P .add T_int true (sl 1 u) (.int .i64 1) w_7 fun t36_1 w_12 =>
        vbin P .gtr T_int true (sl 0 u) (.int .i64 20) w_12 fun t38_1 w_13 =>
        vif t38_1 (
          R (.tuple #[(.int .i64 21), (.int .i64 8)]) w_13) (
          vbin P .gtr T_int true t36_1 (.int .i64 7) w_13 fun t41_1 w_14 =>
          vif t41_1 (
            R (.tuple #[(.int .i64 21), (.int .i64 8)]) w_14) (
            R (.tuple #[(sl 0 u), t36_1]) w_14)))) (fun _ _ w_3 =>
      vfaddr P T_impl_Term t1 4 w_3 fun t21 w_15 =>
      vload P T_Limpl_Term t21 w_15 fun t22 w_16 =>
      viaddr P T_Limpl_Term t22 (sl 2 u) w_16 fun t24 w_17 =>
      vload P T_impl_Term t24 w_17 fun t25 w_18 =>
      vcall P n_spec_TermMany #[t25] w_18 fun t26 w_19 =>
      vextract P t26 0 w_19 fun t27 w_20 =>
      vextract P t26 1 w_20 fun t28 w_21 =>
      vbin P .add T_int false (sl 0 u) t27 w_21 fun t31 w_22 =>
      vcall P n_spec_l1Max #[(sl 1 u), t28] w_22 fun t34 w_23 =>
      vbin P .add T_int true (sl 2 u) (.int .i64 1) w_23 fun t19 w_24 =>
      C [t31, t34, t19] w_24)
def A_spec_TermMany : Ann := { ord := [], loops := [(4, [4, 5, 6])], cuts := [(20486, [])] }
theorem k_spec_TermMany (v0 : Value) (w : World) (R : Value → World → Prop) : vc PP A_spec_TermMany ((Tryz.f60.body).getD .skip) (retF PP Tryz.f60.results.toList R) (nthV [v0]) w = F_spec_TermMany PP v0 w R := by kernel_rfl
theorem c_spec_TermMany {v0 : Value} {w : World} {R : Value → World → Prop} (h : F_spec_TermMany PP v0 w R) : vcall PP n_spec_TermMany #[v0] w R :=
  call_of_vc (T := A_spec_TermMany) (c := (Tryz.f60.body).getD .skip) (n := 45) mixed Tryz.func60 rfl rfl (by kernel_rfl) (by kernel_rfl) rfl (by rw [k_spec_TermMany]; exact h)

/-- spec.DeclOk -/
def F_spec_DeclOk (P : Program) (v0 : Value) (w : World) (R : Value → World → Prop) : Prop :=
  vbi P .len [T_Limpl_Decl] T_int [v0] w fun t6 w_1 =>
  vbin P .gtr T_int true t6 (.int .i64 4) w_1 fun t7 w_2 =>
  vif t7 (
    R (.bool false) w_2) (
    vloop [(.int .i64 0), (.int .i64 0)] w_2 fun C u _ w_3 =>
      vbi P .len [T_Limpl_Decl] T_int [v0] w_3 fun t10 w_4 =>
      vbin P .lss T_int false (sl 1 u) t10 w_4 fun t11 w_5 =>
      vif t11 (
        vdraw w_5 fun w_6 =>
        viaddr P T_Limpl_Decl v0 (sl 1 u) w_6 fun t16 w_7 => w_7 = w_6 ∧
        vfaddr P T_impl_Decl t16 0 w_6 fun t17 w_8 => w_8 = w_6 ∧
        vload P T_string t17 w_6 fun t18 w_9 => w_9 = w_6 ∧
        vcall P n_spec_l2Name #[t18] w_6 fun t19 w_10 =>
        vun P .not t19 w_10 fun t20 w_11 => w_11 = w_10 ∧
        vif t20 (
          R (.bool false) w_10) (
          viaddr P T_Limpl_Decl v0 (sl 1 u) w_10 fun t24 w_12 => w_12 = w_10 ∧
          vfaddr P T_impl_Decl t24 1 w_10 fun t25 w_13 => w_13 = w_10 ∧
          vload P T_int t25 w_10 fun t26 w_14 => w_14 = w_10 ∧
          vbin P .lss T_int true t26 (.int .i64 1) w_10 fun t27 w_15 => w_15 = w_10 ∧
          vif t27 (
            R (.bool false) w_10) (
            viaddr P T_Limpl_Decl v0 (sl 1 u) w_10 fun t32 w_16 => w_16 = w_10 ∧
            vfaddr P T_impl_Decl t32 1 w_10 fun t33 w_17 => w_17 = w_10 ∧
            vload P T_int t33 w_10 fun t34 w_18 => w_18 = w_10 ∧
            vbin P .gtr T_int true t34 (.int .i64 4) w_10 fun t35 w_19 => w_19 = w_10 ∧
            vif t35 (
              R (.bool false) w_10) (
              vslice P T_Limpl_Decl v0 none (some (sl 1 u)) none w_10 fun t40 w_20 => w_20 = w_10 ∧
              viaddr P T_Limpl_Decl v0 (sl 1 u) w_10 fun t43 w_21 => w_21 = w_10 ∧
              vfaddr P T_impl_Decl t43 0 w_10 fun t44 w_22 => w_22 = w_10 ∧
              vload P T_string t44 w_10 fun t45 w_23 => w_23 = w_10 ∧
              vcall P n_spec_l2Find #[t40, t45] w_10 fun t46 w_24 =>
              vbin P .geq T_int true t46 (.int .i64 0) w_24 fun t47 w_25 => w_25 = w_24 ∧
              vif t47 (
                R (.bool false) w_24) (
                viaddr P T_Limpl_Decl v0 (sl 1 u) w_24 fun t52 w_26 =>
                vfaddr P T_impl_Decl t52 1 w_26 fun t53 w_27 =>
                vload P T_int t53 w_27 fun t54 w_28 =>
                vbin P .add T_int false (sl 0 u) t54 w_28 fun t55 w_29 =>
                vbin P .add T_int true (sl 1 u) (.int .i64 1) w_29 fun t13 w_30 =>
                C [t55, t13] w_30))))) (
        vbin P .leq T_int true (sl 0 u) (.int .i64 8) w_5 fun t57 w_31 =>
        R t57 w_31))
def A_spec_DeclOk : Ann := { ord := [(7, [0, 1, 2, 3, 4, 5, 6, 7, 8, 9, 10, 11, 12, 13, 14, 15, 16, 17, 18, 19, 20, 21, 22, 23, 24, 25, 26, 27, 28, 29, 30, 31, 32, 33, 34], [(0, [2, 3, 4, 5, 6, 7, 8, 9, 10, 11, 12, 13, 14, 15, 16, 17, 18, 19, 20, 21, 22, 23, 24, 25, 26, 27, 28, 29, 30, 31, 32, 33, 34]), (1, [2, 3, 4, 5, 6, 7, 8, 9, 10, 11, 12, 13, 14, 15, 16, 17, 18, 19, 20, 21, 22, 23, 24, 25, 26, 27, 28, 29, 30, 31, 32, 33, 34]), (2, [3, 4, 5, 6, 7, 8, 9, 10, 11, 12, 13, 14, 15, 16, 17, 18, 19, 20, 21, 22, 23, 24, 25, 26, 27, 28, 29, 30, 31, 32, 33, 34]), (3, [4, 5, 6, 7, 8, 9, 10, 11, 12, 13, 14, 15, 16, 17, 18, 19, 20, 21, 22, 23, 24, 25, 26, 27, 28, 29, 30, 31, 32, 33, 34]), (4, [5, 6, 7, 8, 9, 10, 11, 12, 13, 14, 15, 16, 17, 18, 19, 20, 21, 22, 23, 24, 25, 26, 27, 28, 29, 30, 31, 32, 33, 34]), (5, [6, 7, 8, 9, 10, 11, 12, 13, 14, 15, 16, 17, 18, 19, 20, 21, 22, 23, 24, 25, 26, 27, 28, 29, 30, 31, 32, 33, 34]), (6, [7, 8, 9, 10, 11, 12, 13, 14, 15, 16, 17, 18, 19, 20, 21, 22, 23, 24, 25, 26, 27, 28, 29, 30, 31, 32, 33, 34]), (7, [8, 9, 10, 11, 12, 13, 14, 15, 16, 17, 18, 19, 20, 21, 22, 23, 24, 25, 26, 27, 28, 29, 30, 31, 32, 33, 34]), (8, [10, 11, 12, 13, 14, 15, 16, 17, 18, 19, 20, 21, 22, 23, 24, 25, 26, 27, 28, 29, 30, 31, 32, 33, 34]), (9, [10, 11, 12, 13, 14, 15, 16, 17, 18, 19, 20, 21, 22, 23, 24, 25, 26, 27, 28, 29, 30, 31, 32, 33, 34]), (10, [11, 12, 13, 14, 15, 16, 17, 18, 19, 20, 21, 22, 23, 24, 25, 26, 27, 28, 29, 30, 31, 32, 33, 34]), (11, [12, 13, 14, 15, 16, 17, 18, 19, 20, 21, 22, 23, 24, 25, 26, 27, 28, 29, 30, 31, 32, 33, 34]), (12, [13, 14, 15, 16, 17, 18, 19, 20, 21, 22, 23, 24, 25, 26, 27, 28, 29, 30, 31, 32, 33, 34]), (13, [14, 15, 16, 17, 18, 19, 20, 21, 22, 23, 24, 25, 26, 27, 28, 29, 30, 31, 32, 33, 34]), (14, [15, 16, 17, 18, 19, 20, 21, 22, 23, 24, 25, 26, 27, 28, 29, 30, 31, 32, 33, 34]), (15, [16, 17, 18, 19, 20, 21, 22, 23, 24, 25, 26, 27, 28, 29, 30, 31, 32, 33, 34]), (16, [18, 19, 20, 21, 22, 23, 24, 25, 26, 27, 28, 29, 30, 31, 32, 33, 34]), (17, [18, 19, 20, 21, 22, 23, 24, 25, 26, 27, 28, 29, 30, 31, 32, 33, 34]), (18, [19, 20, 21, 22, 23, 24, 25, 26, 27, 28, 29, 30, 31, 32, 33, 34]), (19, [20, 21, 22, 23, 24, 25, 26, 27, 28, 29, 30, 31, 32, 33, 34]), (20, [21, 22, 23, 24, 25, 26, 27, 28, 29, 30, 31, 32, 33, 34]), (21, [22, 23, 24, 25, 26, 27, 28, 29, 30, 31, 32, 33, 34]), (22, [23, 24, 25, 26, 27, 28, 29, 30, 31, 32, 33, 34]), (23, [24, 25, 26, 27, 28, 29, 30, 31, 32, 33, 34]), (24, [26, 32, 33, 34]), (25, [26, 32, 33, 34]), (26, [32, 33, 34]), (27, [29, 30, 31, 32, 33, 34]), (28, [29, 30, 31, 32, 33, 34]), (29, [30, 31, 32, 33, 34]), (30, [31, 32, 33, 34]), (31, [32, 33, 34]), (32, [33, 34]), (33, [34])])], loops := [(5, [3, 4])], cuts := [] }
theorem k_spec_DeclOk (v0 : Value) (w : World) (R : Value → World → Prop) : vc PP A_spec_DeclOk ((Tryz.f61.body).getD .skip) (retF PP Tryz.f61.results.toList R) (nthV [v0]) w = F_spec_DeclOk PP v0 w R := by kernel_rfl
theorem c_spec_DeclOk {v0 : Value} {w : World} {R : Value → World → Prop} (h : F_spec_DeclOk PP v0 w R) : vcall PP n_spec_DeclOk #[v0] w R :=
  call_of_vc (T := A_spec_DeclOk) (c := (Tryz.f61.body).getD .skip) (n := 58) mixed Tryz.func61 rfl rfl (by kernel_rfl) (by kernel_rfl) rfl (by rw [k_spec_DeclOk]; exact h)

/-- spec.l2Sort -/
def F_spec_l2Sort (P : Program) (v0 v1 : Value) (w : World) (R : Value → World → Prop) : Prop :=
  vbox P T_impl_Term v1 w fun t3 w_1 =>
  vload P T_impl_Term t3 w_1 fun t8 w_2 =>
  vcall P n_spec_l2Plain #[t8] w_2 fun t9 w_3 =>
  vun P .not t9 w_3 fun t10 w_4 =>
  vif t10 (
    R (.int .i64 (-1)) w_4) (
    vfaddr P T_impl_Term t3 0 w_4 fun t11 w_5 =>
    vload P T_int t11 w_5 fun t12 w_6 =>
    vbin P .eql T_int true t12 (.int .i64 20) w_6 fun t14 w_7 =>
    vif t14 (
      vfaddr P T_impl_Term t3 1 w_7 fun t15 w_8 =>
      vload P T_int t15 w_8 fun t16 w_9 =>
      vfaddr P T_impl_Term t3 2 w_9 fun t17 w_10 =>
      vload P T_int t17 w_10 fun t18 w_11 =>
      vbuild P T_impl_Vec [(0, t16), (1, t18)] w_11 fun t19 w_12 =>
      vcall P n_spec_VecOk #[t19] w_12 fun t20 w_13 =>
      vif t20 (
        vfaddr P T_impl_Term t3 1 w_13 fun t21 w_14 =>
        vload P T_int t21 w_14 fun t22 w_15 =>
        R t22 w_15) (
        R (.int .i64 (-1)) w_13)) (
      vbin P .eql T_int true t12 (.int .i64 21) w_7 fun t24 w_16 =>
      vif t24 (
        vfaddr P T_impl_Term t3 3 w_16 fun t26 w_17 =>
        vload P T_string t26 w_17 fun t27 w_18 =>
        vcall P n_spec_l2Find #[v0, t27] w_18 fun t28 w_19 =>
        vbin P .lss T_int true t28 (.int .i64 0) w_19 fun t30 w_20 =>
        vif t30 (
          R (.int .i64 (-1)) w_20) (
          viaddr P T_Limpl_Decl v0 t28 w_20 fun t33 w_21 =>
          vfaddr P T_impl_Decl t33 1 w_21 fun t34 w_22 =>
          vload P T_int t34 w_22 fun t35 w_23 =>
          R t35 w_23)) (
        vbin P .eql T_int true t12 (.int .i64 24) w_16 fun t37 w_24 =>
        vif t37 (
          R (.int .i64 0) w_24) (
          vfaddr P T_impl_Term t3 4 w_24 fun t39 w_25 =>
          vload P T_Limpl_Term t39 w_25 fun t40 w_26 =>
          viaddr P T_Limpl_Term t40 (.int .i64 0) w_26 fun t41 w_27 =>
          vload P T_impl_Term t41 w_27 fun t42 w_28 =>
          vcall P n_spec_l2Sort #[v0, t42] w_28 fun t43 w_29 =>
          vfaddr P T_impl_Term t3 4 w_29 fun t44 w_30 =>
          vload P T_Limpl_Term t44 w_30 fun t45 w_31 =>
          vbi P .len [T_Limpl_Term] T_int [t45] w_31 fun t46 w_32 =>
          vbin P .eql T_int true t46 (.int .i64 1) w_32 fun t47 w_33 =>
          vif t47 (
            vload P T_impl_Term t3 w_33 fun t48 w_34 =>
            vcall P n_spec_l2One #[t48, t43] w_34 fun t50 w_35 =>
            R t50 w_35) (
            vfaddr P T_impl_Term t3 4 w_33 fun t52 w_36 =>
            vload P T_Limpl_Term t52 w_36 fun t53 w_37 =>
            viaddr P T_Limpl_Term t53 (.int .i64 1) w_37 fun t54 w_38 =>
            vload P T_impl_Term t54 w_38 fun t55 w_39 =>
            vcall P n_spec_l2Sort #[v0, t55] w_39 fun t56 w_40 =>
            vfaddr P T_impl_Term t3 4 w_40 fun t57 w_41 =>
            vload P T_Limpl_Term t57 w_41 fun t58 w_42 =>
            vbi P .len [T_Limpl_Term] T_int [t58] w_42 fun t59 w_43 =>
            vbin P .eql T_int true t59 (.int .i64 2) w_43 fun t60 w_44 =>
            vif t60 (
              vfaddr P T_impl_Term t3 0 w_44 fun t61 w_45 =>
              vload P T_int t61 w_45 fun t62 w_46 =>
              vcall P n_spec_l2Both #[t62, t43, t56] w_46 fun t65 w_47 =>
              R t65 w_47) (
              vbin P .neq T_int true t43 (.int .i64 0) w_44 fun t67 w_48 =>
              vif t67 (
                R (.int .i64 (-1)) w_48) (
                vfaddr P T_impl_Term t3 4 w_48 fun t71 w_49 =>
                vload P T_Limpl_Term t71 w_49 fun t72 w_50 =>
                viaddr P T_Limpl_Term t72 (.int .i64 2) w_50 fun t73 w_51 =>
                vload P T_impl_Term t73 w_51 fun t74 w_52 =>
                vcall P n_spec_l2Sort #[v0, t74] w_52 fun t75 w_53 =>
                vbin P .neq T_int false t56 t75 w_53 fun t76 w_54 =>
                vif t76 (
                  R (.int .i64 (-1)) w_54) (
                  R t56 w_54))))))))
def A_spec_l2Sort : Ann := { ord := [], loops := [], cuts := [] }
theorem k_spec_l2Sort (v0 v1 : Value) (w : World) (R : Value → World → Prop) : vc PP A_spec_l2Sort ((Tryz.f62.body).getD .skip) (retF PP Tryz.f62.results.toList R) (nthV [v0, v1]) w = F_spec_l2Sort PP v0 v1 w R := by kernel_rfl
theorem c_spec_l2Sort {v0 v1 : Value} {w : World} {R : Value → World → Prop} (h : F_spec_l2Sort PP v0 v1 w R) : vcall PP n_spec_l2Sort #[v0, v1] w R :=
  call_of_vc (T := A_spec_l2Sort) (c := (Tryz.f62.body).getD .skip) (n := 79) mixed Tryz.func62 rfl rfl (by kernel_rfl) (by kernel_rfl) rfl (by rw [k_spec_l2Sort]; exact h)

/-- (impl.Vec).raw -/
def F_impl_Vec_raw (P : Program) (v0 : Value) (w : World) (R : Value → World → Prop) : Prop :=
  vbox P T_impl_Vec v0 w fun t1 w_1 =>
  vfaddr P T_impl_Vec t1 1 w_1 fun t3 w_2 =>
  vload P T_int t3 w_2 fun t4 w_3 =>
  vconv P T_int T_impl_raw t4 w_3 fun t5 w_4 =>
  R t5 w_4
def A_impl_Vec_raw : Ann := { ord := [], loops := [], cuts := [] }
theorem k_impl_Vec_raw (v0 : Value) (w : World) (R : Value → World → Prop) : vc PP A_impl_Vec_raw ((Tryz.f63.body).getD .skip) (retF PP Tryz.f63.results.toList R) (nthV [v0]) w = F_impl_Vec_raw PP v0 w R := by kernel_rfl
theorem c_impl_Vec_raw {v0 : Value} {w : World} {R : Value → World → Prop} (h : F_impl_Vec_raw PP v0 w R) : vcall PP n_impl_Vec_raw #[v0] w R :=
  call_of_vc (T := A_impl_Vec_raw) (c := (Tryz.f63.body).getD .skip) (n := 6) mixed Tryz.func63 rfl rfl (by kernel_rfl) (by kernel_rfl) rfl (by rw [k_impl_Vec_raw]; exact h)

/-- (impl.raw).cut -/
def F_impl_raw_cut (P : Program) (v0 v1 : Value) (w : World) (R : Value → World → Prop) : Prop :=
  vbin P .shl T_impl_raw true (.int .u64 1) v1 w fun t7 w_1 =>
  vbin P .sub T_impl_raw true t7 (.int .u64 1) w_1 fun t8 w_2 =>
  vbin P .and T_impl_raw false v0 t8 w_2 fun t9 w_3 =>
  R t9 w_3
def A_impl_raw_cut : Ann := { ord := [], loops := [], cuts := [] }
theorem k_impl_raw_cut (v0 v1 : Value) (w : World) (R : Value → World → Prop) : vc PP A_impl_raw_cut ((Tryz.f64.body).getD .skip) (retF PP Tryz.f64.results.toList R) (nthV [v0, v1]) w = F_impl_raw_cut PP v0 v1 w R := by kernel_rfl
theorem c_impl_raw_cut {v0 v1 : Value} {w : World} {R : Value → World → Prop} (h : F_impl_raw_cut PP v0 v1 w R) : vcall PP n_impl_raw_cut #[v0, v1] w R :=
  call_of_vc (T := A_impl_raw_cut) (c := (Tryz.f64.body).getD .skip) (n := 10) mixed Tryz.func64 rfl rfl (by kernel_rfl) (by kernel_rfl) rfl (by rw [k_impl_raw_cut]; exact h)

/-- impl.VecUn -/
def F_impl_VecUn (P : Program) (v0 v1 : Value) (w : World) (R : Value → World → Prop) : Prop :=
  vbox P T_impl_Vec v1 w fun t3 w_1 =>
  valloc P T_impl_Vec w_1 fun t4 w_2 =>
  vload P T_impl_Vec t3 w_2 fun t7 w_3 =>
  vcall P n_impl_VecOk #[t7] w_3 fun t8 w_4 =>
  vun P .not t8 w_4 fun t9 w_5 =>
  vif t9 (
    vbuild P T_impl_Vec [] w_5 fun t10 w_6 =>
    vstore P T_impl_Vec t4 t10 w_6 fun _ w_7 =>
    vlv P T_impl_Vec t4 w_7 fun r4 w_8 =>
    R (.tuple #[r4, (.bool false)]) w_8) (
    vbin P .eql T_int true v0 (.int .i64 1) w_5 fun t13 w_9 =>
    vif t13 (
      vdraw w_9 fun w_10 =>
      vload P T_impl_Vec t3 w_10 fun t14 w_11 => w_11 = w_10 ∧
      vload P T_impl_Vec t3 w_10 fun t15 w_12 => w_12 = w_10 ∧
      vcall P n_impl_Vec_raw #[t15] w_10 fun t16 w_13 => (vload P T_impl_Vec t3 w_13 fun v x => v = t14 ∧ x = w_13) ∧
      vun P .xor t16 w_13 fun t17 w_14 => w_14 = w_13 ∧
      vcall P n_impl_Vec_vec #[t14, t17] w_13 fun t18 w_15 =>
      vstore P T_impl_Vec t4 t18 w_15 fun _ w_16 =>
      vlv P T_impl_Vec t4 w_16 fun r4_1 w_17 =>
      R (.tuple #[r4_1, (.bool true)]) w_17) (
      vbin P .eql T_int true v0 (.int .i64 2) w_9 fun t21 w_18 =>
      vif t21 (
        vdraw w_18 fun w_19 =>
        vload P T_impl_Vec t3 w_19 fun t22 w_20 => w_20 = w_19 ∧
        vload P T_impl_Vec t3 w_19 fun t23 w_21 => w_21 = w_19 ∧
        vcall P n_impl_Vec_raw #[t23] w_19 fun t24 w_22 => (vload P T_impl_Vec t3 w_22 fun v x => v = t22 ∧ x = w_22) ∧
        vun P .neg t24 w_22 fun t25 w_23 => w_23 = w_22 ∧
        vcall P n_impl_Vec_vec #[t22, t25] w_22 fun t26 w_24 =>
        vstore P T_impl_Vec t4 t26 w_24 fun _ w_25 =>
        vlv P T_impl_Vec t4 w_25 fun r4_2 w_26 =>
        R (.tuple #[r4_2, (.bool true)]) w_26) (
        vbuild P T_impl_Vec [] w_18 fun t27 w_27 =>
        vstore P T_impl_Vec t4 t27 w_27 fun _ w_28 =>
        vlv P T_impl_Vec t4 w_28 fun r4_3 w_29 =>
        R (.tuple #[r4_3, (.bool false)]) w_29)))
def A_impl_VecUn : Ann := { ord := [(4, [0, 1, 2, 3, 4, 5, 6], [(0, [4, 5, 6]), (1, [2, 3, 4, 5, 6]), (2, [3, 4, 5, 6]), (3, [4, 5, 6]), (4, [5, 6]), (5, [6])]), (6, [0, 1, 2, 3, 4, 5, 6], [(0, [4, 5, 6]), (1, [2, 3, 4, 5, 6]), (2, [3, 4, 5, 6]), (3, [4, 5, 6]), (4, [5, 6]), (5, [6])])], loops := [], cuts := [] }
theorem k_impl_VecUn (v0 v1 : Value) (w : World) (R : Value → World → Prop) : vc PP A_impl_VecUn ((Tryz.f65.body).getD .skip) (retF PP Tryz.f65.results.toList R) (nthV [v0, v1]) w = F_impl_VecUn PP v0 v1 w R := by kernel_rfl
theorem c_impl_VecUn {v0 v1 : Value} {w : World} {R : Value → World → Prop} (h : F_impl_VecUn PP v0 v1 w R) : vcall PP n_impl_VecUn #[v0, v1] w R :=
  call_of_vc (T := A_impl_VecUn) (c := (Tryz.f65.body).getD .skip) (n := 28) mixed Tryz.func65 rfl rfl (by kernel_rfl) (by kernel_rfl) rfl (by rw [k_impl_VecUn]; exact h)

/-- impl.VecSigned -/
def F_impl_VecSigned (P : Program) (v0 : Value) (w : World) (R : Value → World → Prop) : Prop :=
  vbox P T_impl_Vec v0 w fun t1 w_1 =>
  vload P T_impl_Vec t1 w_1 fun t3 w_2 =>
  vcall P n_impl_VecOk #[t3] w_2 fun t4 w_3 =>
  vun P .not t4 w_3 fun t5 w_4 =>
  vif t5 (
    R (.int .i64 0) w_4) (
    vdraw w_4 fun w_5 =>
    vload P T_impl_Vec t1 w_5 fun t6 w_6 => w_6 = w_5 ∧
    vfaddr P T_impl_Vec t1 0 w_5 fun t8 w_7 => w_7 = w_5 ∧
    vload P T_int t8 w_5 fun t9 w_8 => w_8 = w_5 ∧
    vbin P .sub T_int true t9 (.int .i64 1) w_5 fun t10 w_9 => w_9 = w_5 ∧
    vcall P n_impl_Vec_raw #[t6] w_5 fun t7 w_10 => (vbin P .sub T_int true t9 (.int .i64 1) w_10 fun v x => v = t10 ∧ x = w_10) ∧ (vload P T_int t8 w_10 fun v x => v = t9 ∧ x = w_10) ∧ (vfaddr P T_impl_Vec t1 0 w_10 fun v x => v = t8 ∧ x = w_10) ∧
    vcall P n_impl_raw_bit #[t7, t10] w_10 fun t11 w_11 =>
    vif t11 (
      vdraw w_11 fun w_12 =>
      vfaddr P T_impl_Vec t1 1 w_12 fun t12 w_13 => w_13 = w_12 ∧
      vload P T_int t12 w_12 fun t13 w_14 => w_14 = w_12 ∧
      vfaddr P T_impl_Vec t1 0 w_12 fun t14 w_15 => w_15 = w_12 ∧
      vload P T_int t14 w_12 fun t15 w_16 => w_16 = w_12 ∧
      vbin P .shl T_int true (.int .i64 1) t15 w_12 fun t16 w_17 => w_17 = w_12 ∧
      vbin P .sub T_int false t13 t16 w_12 fun t17 w_18 => w_18 = w_12 ∧
      R t17 w_12) (
      vfaddr P T_impl_Vec t1 1 w_11 fun t18 w_19 =>
      vload P T_int t18 w_19 fun t19 w_20 =>
      R t19 w_20))
def A_impl_VecSigned : Ann := { ord := [(3, [0, 2, 3, 4, 1, 5], [(0, [1, 5]), (2, [3, 4, 5]), (3, [4, 5]), (4, [5]), (1, [5])]), (4, [0, 1, 2, 3, 4, 5, 6], [(0, [1, 5, 6]), (1, [5, 6]), (2, [3, 4, 5, 6]), (3, [4, 5, 6]), (4, [5, 6]), (5, [6])])], loops := [], cuts := [] }
theorem k_impl_VecSigned (v0 : Value) (w : World) (R : Value → World → Prop) : vc PP A_impl_VecSigned ((Tryz.f66.body).getD .skip) (retF PP Tryz.f66.results.toList R) (nthV [v0]) w = F_impl_VecSigned PP v0 w R := by kernel_rfl
theorem c_impl_VecSigned {v0 : Value} {w : World} {R : Value → World → Prop} (h : F_impl_VecSigned PP v0 w R) : vcall PP n_impl_VecSigned #[v0] w R :=
  call_of_vc (T := A_impl_VecSigned) (c := (Tryz.f66.body).getD .skip) (n := 20) mixed Tryz.func66 rfl rfl (by kernel_rfl) (by kernel_rfl) rfl (by rw [k_impl_VecSigned]; exact h)

end Go.Proofs.YtbiabimalkkeiaaGreatDoor
