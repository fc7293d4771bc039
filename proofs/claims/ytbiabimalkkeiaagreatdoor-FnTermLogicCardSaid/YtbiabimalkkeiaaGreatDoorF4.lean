import Derived.Test.YtbiabimalkkeiaaGreatDoorNm
set_option linter.unusedVariables false
set_option linter.unusedSimpArgs false
set_option linter.unnecessarySimpa false
set_option linter.unusedSectionVars false
namespace Go.Proofs.YtbiabimalkkeiaaGreatDoor
open Go Go.Vc Go.Proofs
/-- impl.atom -/
def F_impl_atom (P : Program) (v0 : Value) (w : World) (R : Value → World → Prop) : Prop :=
  valloc P T_impl_Term w fun t2 w_1 =>
  vbin P .eql T_string true v0 (.string { data := #[116, 114, 117, 101] }) w_1 fun t6 w_2 =>
  vif t6 (
    vbuild P T_impl_Term [(0, (.int .i64 24))] w_2 fun t7 w_3 =>
    vstore P T_impl_Term t2 t7 w_3 fun _ w_4 =>
    vlv P T_impl_Term t2 w_4 fun r2 w_5 =>
    R r2 w_5) (
    vcall P n_impl_VecRead #[v0] w_2 fun t10 w_6 =>
    vextract P t10 0 w_6 fun t11 w_7 =>
    vextract P t10 1 w_7 fun t12 w_8 =>
    valloc P T_impl_Vec w_8 fun t3 w_9 =>
    vstore P T_impl_Vec t3 t11 w_9 fun _ w_10 =>
    vif t12 (
      vfaddr P T_impl_Vec t3 0 w_10 fun t14 w_11 =>
      vload P T_int t14 w_11 fun t15 w_12 =>
      vfaddr P T_impl_Vec t3 1 w_12 fun t16 w_13 =>
      vload P T_int t16 w_13 fun t17 w_14 =>
      vbuild P T_impl_Term [(0, (.int .i64 20)), (1, t15), (2, t17)] w_14 fun t18 w_15 =>
      vstore P T_impl_Term t2 t18 w_15 fun _ w_16 =>
      vlv P T_impl_Term t2 w_16 fun r2_1 w_17 =>
      R r2_1 w_17) (
      vbuild P T_impl_Term [(0, (.int .i64 21)), (3, v0)] w_10 fun t20 w_18 =>
      vstore P T_impl_Term t2 t20 w_18 fun _ w_19 =>
      vlv P T_impl_Term t2 w_19 fun r2_2 w_20 =>
      R r2_2 w_20))
def A_impl_atom : Ann := { ord := [], loops := [], cuts := [] }
theorem k_impl_atom (v0 : Value) (w : World) (R : Value → World → Prop) : vc PP A_impl_atom ((Tryz.f150.body).getD .skip) (retF PP Tryz.f150.results.toList R) (nthV [v0]) w = F_impl_atom PP v0 w R := by kernel_rfl
theorem c_impl_atom {v0 : Value} {w : World} {R : Value → World → Prop} (h : F_impl_atom PP v0 w R) : vcall PP n_impl_atom #[v0] w R :=
  call_of_vc (T := A_impl_atom) (c := (Tryz.f150.body).getD .skip) (n := 21) mixed Tryz.func150 rfl rfl (by kernel_rfl) (by kernel_rfl) rfl (by rw [k_impl_atom]; exact h)

/-- (*impl.parser).word -/
def F_impl_parser_word (P : Program) (v0 : Value) (w : World) (R : Value → World → Prop) : Prop :=
  vnil P v0 w fun t6 w_1 =>
  vfaddr P T_impl_parser t6 0 w_1 fun t7 w_2 =>
  vload P T_string t7 w_2 fun t8 w_3 =>
  vcall P n_strings_IndexAny #[t8, (.string { data := #[32, 40, 41] })] w_3 fun t9 w_4 =>
  vjoin (fun J =>
    vbin P .lss T_int true t9 (.int .i64 0) w_4 fun t11 w_6 =>
    vif t11 (
      vnil P v0 w_6 fun t13 w_7 =>
      vfaddr P T_impl_parser t13 0 w_7 fun t14 w_8 =>
      vload P T_string t14 w_8 fun t15 w_9 =>
      vbi P .len [T_string] T_int [t15] w_9 fun t16 w_10 =>
      J [t16] w_10) (
      J [t9] w_6)) (fun u _ w_5 =>
    vnil P v0 w_5 fun t18 w_11 =>
    vfaddr P T_impl_parser t18 0 w_11 fun t19 w_12 =>
    vload P T_string t19 w_12 fun t20 w_13 =>
    vslice P T_string t20 none (some (sl 0 u)) none w_13 fun t22 w_14 =>
    vnil P v0 w_14 fun t25 w_15 =>
    vfaddr P T_impl_parser t25 0 w_15 fun t26 w_16 =>
    vload P T_string t26 w_16 fun t27 w_17 =>
    vslice P T_string t27 (some (sl 0 u)) none none w_17 fun t29 w_18 =>
    vnil P v0 w_18 fun t30 w_19 =>
    vfaddr P T_impl_parser t30 0 w_19 fun t31 w_20 =>
    vstore P T_string t31 t29 w_20 fun _ w_21 =>
    R t22 w_21)
def A_impl_parser_word : Ann := { ord := [], loops := [], cuts := [(12292, [3])] }
theorem k_impl_parser_word (v0 : Value) (w : World) (R : Value → World → Prop) : vc PP A_impl_parser_word ((Tryz.f151.body).getD .skip) (retF PP Tryz.f151.results.toList R) (nthV [v0]) w = F_impl_parser_word PP v0 w R := by kernel_rfl
theorem c_impl_parser_word {v0 : Value} {w : World} {R : Value → World → Prop} (h : F_impl_parser_word PP v0 w R) : vcall PP n_impl_parser_word #[v0] w R :=
  call_of_vc (T := A_impl_parser_word) (c := (Tryz.f151.body).getD .skip) (n := 33) mixed Tryz.func151 rfl rfl (by kernel_rfl) (by kernel_rfl) rfl (by rw [k_impl_parser_word]; exact h)

/-- (*impl.parser).take -/
def F_impl_parser_take (P : Program) (v0 v1 : Value) (w : World) (R : Value → World → Prop) : Prop :=
  vnil P v0 w fun t8 w_1 =>
  vfaddr P T_impl_parser t8 0 w_1 fun t9 w_2 =>
  vload P T_string t9 w_2 fun t10 w_3 =>
  vcall P n_strings_CutPrefix #[t10, v1] w_3 fun t12 w_4 =>
  vextract P t12 0 w_4 fun t13 w_5 =>
  vextract P t12 1 w_5 fun t14 w_6 =>
  vun P .not t14 w_6 fun t16 w_7 =>
  vcall P n_impl_fail #[t16] w_7 fun _ w_8 =>
  vnil P v0 w_8 fun t20 w_9 =>
  vfaddr P T_impl_parser t20 0 w_9 fun t21 w_10 =>
  vstore P T_string t21 t13 w_10 fun _ w_11 =>
  R (.tuple #[]) w_11
def A_impl_parser_take : Ann := { ord := [], loops := [], cuts := [] }
theorem k_impl_parser_take (v0 v1 : Value) (w : World) (R : Value → World → Prop) : vc PP A_impl_parser_take ((Tryz.f152.body).getD .skip) (retF PP Tryz.f152.results.toList R) (nthV [v0, v1]) w = F_impl_parser_take PP v0 v1 w R := by kernel_rfl
theorem c_impl_parser_take {v0 v1 : Value} {w : World} {R : Value → World → Prop} (h : F_impl_parser_take PP v0 v1 w R) : vcall PP n_impl_parser_take #[v0, v1] w R :=
  call_of_vc (T := A_impl_parser_take) (c := (Tryz.f152.body).getD .skip) (n := 22) mixed Tryz.func152 rfl rfl (by kernel_rfl) (by kernel_rfl) rfl (by rw [k_impl_parser_take]; exact h)

/-- (*impl.parser).number -/
def F_impl_parser_number (P : Program) (v0 : Value) (w : World) (R : Value → World → Prop) : Prop :=
  vcall P n_impl_parser_take #[v0, (.string { data := #[32] })] w fun _ w_1 =>
  vcall P n_impl_parser_word #[v0] w_1 fun t9 w_2 =>
  vcall P n_strconv_Atoi #[t9] w_2 fun t10 w_3 =>
  vextract P t10 0 w_3 fun t11 w_4 =>
  vextract P t10 1 w_4 fun t12 w_5 =>
  vbin P .neq T_error true t12 .nilIface w_5 fun t14 w_6 =>
  vcall P n_impl_fail #[t14] w_6 fun _ w_7 =>
  R t11 w_7
def A_impl_parser_number : Ann := { ord := [], loops := [], cuts := [] }
theorem k_impl_parser_number (v0 : Value) (w : World) (R : Value → World → Prop) : vc PP A_impl_parser_number ((Tryz.f153.body).getD .skip) (retF PP Tryz.f153.results.toList R) (nthV [v0]) w = F_impl_parser_number PP v0 w R := by kernel_rfl
theorem c_impl_parser_number {v0 : Value} {w : World} {R : Value → World → Prop} (h : F_impl_parser_number PP v0 w R) : vcall PP n_impl_parser_number #[v0] w R :=
  call_of_vc (T := A_impl_parser_number) (c := (Tryz.f153.body).getD .skip) (n := 17) mixed Tryz.func153 rfl rfl (by kernel_rfl) (by kernel_rfl) rfl (by rw [k_impl_parser_number]; exact h)

/-- spec.l1Bit -/
def F_spec_l1Bit (P : Program) (v0 v1 : Value) (w : World) (R : Value → World → Prop) : Prop :=
  vcall P n_spec_l1Two #[v1] w fun t7 w_1 =>
  vbin P .quo T_int false v0 t7 w_1 fun t8 w_2 =>
  vbin P .rem T_int true t8 (.int .i64 2) w_2 fun t9 w_3 =>
  R t9 w_3
def A_spec_l1Bit : Ann := { ord := [], loops := [], cuts := [] }
theorem k_spec_l1Bit (v0 v1 : Value) (w : World) (R : Value → World → Prop) : vc PP A_spec_l1Bit ((Tryz.f158.body).getD .skip) (retF PP Tryz.f158.results.toList R) (nthV [v0, v1]) w = F_spec_l1Bit PP v0 v1 w R := by kernel_rfl
theorem c_spec_l1Bit {v0 v1 : Value} {w : World} {R : Value → World → Prop} (h : F_spec_l1Bit PP v0 v1 w R) : vcall PP n_spec_l1Bit #[v0, v1] w R :=
  call_of_vc (T := A_spec_l1Bit) (c := (Tryz.f158.body).getD .skip) (n := 10) mixed Tryz.func158 rfl rfl (by kernel_rfl) (by kernel_rfl) rfl (by rw [k_spec_l1Bit]; exact h)

/-- spec.l1Mod -/
def F_spec_l1Mod (P : Program) (v0 v1 : Value) (w : World) (R : Value → World → Prop) : Prop :=
  vcall P n_spec_l1Two #[v1] w fun t7 w_1 =>
  vbin P .rem T_int false v0 t7 w_1 fun t10 w_2 =>
  vbin P .lss T_int true t10 (.int .i64 0) w_2 fun t12 w_3 =>
  vif t12 (
    vbin P .add T_int false t10 t7 w_3 fun t15 w_4 =>
    R t15 w_4) (
    R t10 w_3)
def A_spec_l1Mod : Ann := { ord := [], loops := [], cuts := [] }
theorem k_spec_l1Mod (v0 v1 : Value) (w : World) (R : Value → World → Prop) : vc PP A_spec_l1Mod ((Tryz.f159.body).getD .skip) (retF PP Tryz.f159.results.toList R) (nthV [v0, v1]) w = F_spec_l1Mod PP v0 v1 w R := by kernel_rfl
theorem c_spec_l1Mod {v0 v1 : Value} {w : World} {R : Value → World → Prop} (h : F_spec_l1Mod PP v0 v1 w R) : vcall PP n_spec_l1Mod #[v0, v1] w R :=
  call_of_vc (T := A_spec_l1Mod) (c := (Tryz.f159.body).getD .skip) (n := 17) mixed Tryz.func159 rfl rfl (by kernel_rfl) (by kernel_rfl) rfl (by rw [k_spec_l1Mod]; exact h)

/-- spec.l1Signed -/
def F_spec_l1Signed (P : Program) (v0 : Value) (w : World) (R : Value → World → Prop) : Prop :=
  vbox P T_impl_Vec v0 w fun t1 w_1 =>
  vfaddr P T_impl_Vec t1 1 w_1 fun t3 w_2 =>
  vload P T_int t3 w_2 fun t4 w_3 =>
  vfaddr P T_impl_Vec t1 0 w_3 fun t5 w_4 =>
  vload P T_int t5 w_4 fun t6 w_5 =>
  vbin P .sub T_int true t6 (.int .i64 1) w_5 fun t7 w_6 =>
  vcall P n_spec_l1Bit #[t4, t7] w_6 fun t8 w_7 =>
  vbin P .eql T_int true t8 (.int .i64 1) w_7 fun t9 w_8 =>
  vif t9 (
    vdraw w_8 fun w_9 =>
    vfaddr P T_impl_Vec t1 1 w_9 fun t10 w_10 => w_10 = w_9 ∧
    vload P T_int t10 w_9 fun t11 w_11 => w_11 = w_9 ∧
    vfaddr P T_impl_Vec t1 0 w_9 fun t12 w_12 => w_12 = w_9 ∧
    vload P T_int t12 w_9 fun t13 w_13 => w_13 = w_9 ∧
    vcall P n_spec_l1Two #[t13] w_9 fun t14 w_14 => (vload P T_int t10 w_14 fun v x => v = t11 ∧ x = w_14) ∧ (vfaddr P T_impl_Vec t1 1 w_14 fun v x => v = t10 ∧ x = w_14) ∧
    vbin P .sub T_int false t11 t14 w_14 fun t15 w_15 => w_15 = w_14 ∧
    R t15 w_14) (
    vfaddr P T_impl_Vec t1 1 w_8 fun t16 w_16 =>
    vload P T_int t16 w_16 fun t17 w_17 =>
    R t17 w_17)
def A_spec_l1Signed : Ann := { ord := [(2, [0, 1, 2, 3, 4, 5, 6], [(0, [1, 5, 6]), (1, [5, 6]), (2, [3, 4, 5, 6]), (3, [4, 5, 6]), (4, [5, 6]), (5, [6])])], loops := [], cuts := [] }
theorem k_spec_l1Signed (v0 : Value) (w : World) (R : Value → World → Prop) : vc PP A_spec_l1Signed ((Tryz.f160.body).getD .skip) (retF PP Tryz.f160.results.toList R) (nthV [v0]) w = F_spec_l1Signed PP v0 w R := by kernel_rfl
theorem c_spec_l1Signed {v0 : Value} {w : World} {R : Value → World → Prop} (h : F_spec_l1Signed PP v0 w R) : vcall PP n_spec_l1Signed #[v0] w R :=
  call_of_vc (T := A_spec_l1Signed) (c := (Tryz.f160.body).getD .skip) (n := 18) mixed Tryz.func160 rfl rfl (by kernel_rfl) (by kernel_rfl) rfl (by rw [k_spec_l1Signed]; exact h)

/-- spec.l1Bin -/
def F_spec_l1Bin (P : Program) (v0 v1 v2 : Value) (w : World) (R : Value → World → Prop) : Prop :=
  vbox P T_impl_Vec v1 w fun t4 w_1 =>
  vbox P T_impl_Vec v2 w_1 fun t5 w_2 =>
  vjoin (fun J =>
    vbin P .eql T_int true v0 (.int .i64 3) w_2 fun t10 w_4 =>
    vif t10 (
      J [t10] w_4) (
      vbin P .eql T_int true v0 (.int .i64 4) w_4 fun t11 w_5 =>
      vif t11 (
        J [t11] w_5) (
        vbin P .eql T_int true v0 (.int .i64 5) w_5 fun t12 w_6 =>
        J [t12] w_6))) (fun u _ w_3 =>
    vif (sl 0 u) (
      vfaddr P T_impl_Vec t4 1 w_3 fun t14 w_7 =>
      vload P T_int t14 w_7 fun t15 w_8 =>
      vfaddr P T_impl_Vec t5 1 w_8 fun t16 w_9 =>
      vload P T_int t16 w_9 fun t17 w_10 =>
      vcall P n_spec_l1Bits #[v0, t15, t17] w_10 fun t18 w_11 =>
      R (.tuple #[t18, (.bool true)]) w_11) (
      vbin P .eql T_int true v0 (.int .i64 6) w_3 fun t20 w_12 =>
      vif t20 (
        vfaddr P T_impl_Vec t4 1 w_12 fun t21 w_13 =>
        vload P T_int t21 w_13 fun t22 w_14 =>
        vfaddr P T_impl_Vec t5 1 w_14 fun t23 w_15 =>
        vload P T_int t23 w_15 fun t24 w_16 =>
        vbin P .add T_int false t22 t24 w_16 fun t25 w_17 =>
        vfaddr P T_impl_Vec t4 0 w_17 fun t26 w_18 =>
        vload P T_int t26 w_18 fun t27 w_19 =>
        vcall P n_spec_l1Mod #[t25, t27] w_19 fun t28 w_20 =>
        R (.tuple #[t28, (.bool true)]) w_20) (
        vbin P .eql T_int true v0 (.int .i64 7) w_12 fun t30 w_21 =>
        vif t30 (
          vfaddr P T_impl_Vec t4 1 w_21 fun t31 w_22 =>
          vload P T_int t31 w_22 fun t32 w_23 =>
          vfaddr P T_impl_Vec t5 1 w_23 fun t33 w_24 =>
          vload P T_int t33 w_24 fun t34 w_25 =>
          vbin P .sub T_int false t32 t34 w_25 fun t35 w_26 =>
          vfaddr P T_impl_Vec t4 0 w_26 fun t36 w_27 =>
          vload P T_int t36 w_27 fun t37 w_28 =>
          vcall P n_spec_l1Mod #[t35, t37] w_28 fun t38 w_29 =>
          R (.tuple #[t38, (.bool true)]) w_29) (
          vbin P .eql T_int true v0 (.int .i64 8) w_21 fun t40 w_30 =>
          vif t40 (
            vfaddr P T_impl_Vec t4 1 w_30 fun t41 w_31 =>
            vload P T_int t41 w_31 fun t42 w_32 =>
            vfaddr P T_impl_Vec t5 1 w_32 fun t43 w_33 =>
            vload P T_int t43 w_33 fun t44 w_34 =>
            vbin P .mul T_int false t42 t44 w_34 fun t45 w_35 =>
            vfaddr P T_impl_Vec t4 0 w_35 fun t46 w_36 =>
            vload P T_int t46 w_36 fun t47 w_37 =>
            vcall P n_spec_l1Mod #[t45, t47] w_37 fun t48 w_38 =>
            R (.tuple #[t48, (.bool true)]) w_38) (
            vbin P .eql T_int true v0 (.int .i64 9) w_30 fun t50 w_39 =>
            vif t50 (
              vfaddr P T_impl_Vec t5 1 w_39 fun t51 w_40 =>
              vload P T_int t51 w_40 fun t52 w_41 =>
              vbin P .eql T_int true t52 (.int .i64 0) w_41 fun t53 w_42 =>
              vif t53 (
                vfaddr P T_impl_Vec t4 0 w_42 fun t54 w_43 =>
                vload P T_int t54 w_43 fun t55 w_44 =>
                vcall P n_spec_l1Two #[t55] w_44 fun t56 w_45 =>
                vbin P .sub T_int true t56 (.int .i64 1) w_45 fun t57 w_46 =>
                R (.tuple #[t57, (.bool true)]) w_46) (
                vfaddr P T_impl_Vec t4 1 w_42 fun t58 w_47 =>
                vload P T_int t58 w_47 fun t59 w_48 =>
                vfaddr P T_impl_Vec t5 1 w_48 fun t60 w_49 =>
                vload P T_int t60 w_49 fun t61 w_50 =>
                vbin P .quo T_int false t59 t61 w_50 fun t62 w_51 =>
                R (.tuple #[t62, (.bool true)]) w_51)) (
              vbin P .eql T_int true v0 (.int .i64 10) w_39 fun t64 w_52 =>
              vif t64 (
                vfaddr P T_impl_Vec t5 1 w_52 fun t65 w_53 =>
                vload P T_int t65 w_53 fun t66 w_54 =>
                vbin P .eql T_int true t66 (.int .i64 0) w_54 fun t67 w_55 =>
                vif t67 (
                  vfaddr P T_impl_Vec t4 1 w_55 fun t68 w_56 =>
                  vload P T_int t68 w_56 fun t69 w_57 =>
                  R (.tuple #[t69, (.bool true)]) w_57) (
                  vfaddr P T_impl_Vec t4 1 w_55 fun t70 w_58 =>
                  vload P T_int t70 w_58 fun t71 w_59 =>
                  vfaddr P T_impl_Vec t5 1 w_59 fun t72 w_60 =>
                  vload P T_int t72 w_60 fun t73 w_61 =>
                  vbin P .rem T_int false t71 t73 w_61 fun t74 w_62 =>
                  R (.tuple #[t74, (.bool true)]) w_62)) (
                vbin P .eql T_int true v0 (.int .i64 11) w_52 fun t76 w_63 =>
                vif t76 (
                  vif t76 (
                    vload P T_impl_Vec t4 w_63 fun t80 w_64 =>
                    vfaddr P T_impl_Vec t5 1 w_64 fun t81 w_65 =>
                    vload P T_int t81 w_65 fun t82 w_66 =>
                    vcall P n_spec_l1Shift #[v0, t80, t82] w_66 fun t83 w_67 =>
                    R (.tuple #[t83, (.bool true)]) w_67) (
                    R (.tuple #[(.int .i64 0), (.bool false)]) w_63)) (
                  vbin P .eql T_int true v0 (.int .i64 12) w_63 fun t77 w_68 =>
                  vif t77 (
                    vif t77 (
                      vload P T_impl_Vec t4 w_68 fun t80_1 w_69 =>
                      vfaddr P T_impl_Vec t5 1 w_69 fun t81_1 w_70 =>
                      vload P T_int t81_1 w_70 fun t82_1 w_71 =>
                      vcall P n_spec_l1Shift #[v0, t80_1, t82_1] w_71 fun t83_1 w_72 =>
                      R (.tuple #[t83_1, (.bool true)]) w_72) (
                      R (.tuple #[(.int .i64 0), (.bool false)]) w_68)) (
                    vbin P .eql T_int true v0 (.int .i64 13) w_68 fun t78 w_73 =>
                    vif t78 (
                      vload P T_impl_Vec t4 w_73 fun t80_2 w_74 =>
                      vfaddr P T_impl_Vec t5 1 w_74 fun t81_2 w_75 =>
                      vload P T_int t81_2 w_75 fun t82_2 w_76 =>
                      vcall P n_spec_l1Shift #[v0, t80_2, t82_2] w_76 fun t83_2 w_77 =>
                      R (.tuple #[t83_2, (.bool true)]) w_77) (
                      R (.tuple #[(.int .i64 0), (.bool false)]) w_73))))))))))
def A_spec_l1Bin : Ann := { ord := [], loops := [], cuts := [(12293, [9])] }
theorem k_spec_l1Bin (v0 v1 v2 : Value) (w : World) (R : Value → World → Prop) : vc PP A_spec_l1Bin ((Tryz.f161.body).getD .skip) (retF PP Tryz.f161.results.toList R) (nthV [v0, v1, v2]) w = F_spec_l1Bin PP v0 v1 v2 w R := by kernel_rfl
theorem c_spec_l1Bin {v0 v1 v2 : Value} {w : World} {R : Value → World → Prop} (h : F_spec_l1Bin PP v0 v1 v2 w R) : vcall PP n_spec_l1Bin #[v0, v1, v2] w R :=
  call_of_vc (T := A_spec_l1Bin) (c := (Tryz.f161.body).getD .skip) (n := 84) mixed Tryz.func161 rfl rfl (by kernel_rfl) (by kernel_rfl) rfl (by rw [k_spec_l1Bin]; exact h)

/-- spec.l2Asks -/
def F_spec_l2Asks (P : Program) (v0 v1 v2 : Value) (w : World) (R : Value → World → Prop) : Prop :=
  valloc P T_impl_Term w fun t6 w_1 =>
  vcall P n_spec_l12Rd_pick #[v0, (.int .i64 9)] w_1 fun t10 w_2 =>
  vbin P .eql T_int true t10 (.int .i64 0) w_2 fun t12 w_3 =>
  vif t12 (
    vbin P .sub T_int true v2 (.int .i64 1) w_3 fun t16 w_4 =>
    vcall P n_spec_l2Term #[v0, v1, (.int .i64 0), t16] w_4 fun t17 w_5 =>
    vbuildS P T_Limpl_Term 1 [(0, t17)] w_5 fun t18 w_6 =>
    vbuild P T_impl_Term [(0, (.int .i64 25)), (4, t18)] w_6 fun t19 w_7 =>
    vstore P T_impl_Term t6 t19 w_7 fun _ w_8 =>
    vlv P T_impl_Term t6 w_8 fun r6 w_9 =>
    R r6 w_9) (
    vbin P .eql T_int true t10 (.int .i64 1) w_3 fun t21 w_10 =>
    vif t21 (
      vbin P .sub T_int true v2 (.int .i64 1) w_10 fun t25 w_11 =>
      vcall P n_spec_l2Term #[v0, v1, (.int .i64 0), t25] w_11 fun t26 w_12 =>
      vbin P .sub T_int true v2 (.int .i64 1) w_12 fun t30 w_13 =>
      vcall P n_spec_l2Term #[v0, v1, (.int .i64 0), t30] w_13 fun t31 w_14 =>
      vbuildS P T_Limpl_Term 2 [(0, t26), (1, t31)] w_14 fun t32 w_15 =>
      vbuild P T_impl_Term [(0, (.int .i64 26)), (4, t32)] w_15 fun t33 w_16 =>
      vstore P T_impl_Term t6 t33 w_16 fun _ w_17 =>
      vlv P T_impl_Term t6 w_17 fun r6_1 w_18 =>
      R r6_1 w_18) (
      vbin P .eql T_int true t10 (.int .i64 2) w_10 fun t35 w_19 =>
      vif t35 (
        vbin P .sub T_int true v2 (.int .i64 1) w_19 fun t39 w_20 =>
        vcall P n_spec_l2Term #[v0, v1, (.int .i64 0), t39] w_20 fun t40 w_21 =>
        vbin P .sub T_int true v2 (.int .i64 1) w_21 fun t44 w_22 =>
        vcall P n_spec_l2Term #[v0, v1, (.int .i64 0), t44] w_22 fun t45 w_23 =>
        vbuildS P T_Limpl_Term 2 [(0, t40), (1, t45)] w_23 fun t46 w_24 =>
        vbuild P T_impl_Term [(0, (.int .i64 27)), (4, t46)] w_24 fun t47 w_25 =>
        vstore P T_impl_Term t6 t47 w_25 fun _ w_26 =>
        vlv P T_impl_Term t6 w_26 fun r6_2 w_27 =>
        R r6_2 w_27) (
        vcall P n_spec_l12Rd_pick #[v0, (.int .i64 4)] w_19 fun t49 w_28 =>
        vbin P .add T_int true (.int .i64 1) t49 w_28 fun t50 w_29 =>
        vjoin (fun J =>
          vbi P .len [T_Limpl_Decl] T_int [v1] w_29 fun t52 w_31 =>
          vbin P .gtr T_int true t52 (.int .i64 0) w_31 fun t53 w_32 =>
          vif t53 (
            vcall P n_spec_l12Rd_pick #[v0, (.int .i64 3)] w_32 fun t56 w_33 =>
            vbin P .gtr T_int true t56 (.int .i64 0) w_33 fun t57 w_34 =>
            vif t57 (
              vbi P .len [T_Limpl_Decl] T_int [v1] w_34 fun t62 w_35 =>
              vcall P n_spec_l12Rd_pick #[v0, t62] w_35 fun t63 w_36 =>
              viaddr P T_Limpl_Decl v1 t63 w_36 fun t64 w_37 =>
              vfaddr P T_impl_Decl t64 1 w_37 fun t65 w_38 =>
              vload P T_int t65 w_38 fun t66 w_39 =>
              J [t66] w_39) (
              J [t50] w_34)) (
            J [t50] w_32)) (fun u _ w_30 =>
          vbuildS P T_Lint 4 [(0, (.int .i64 15)), (1, (.int .i64 16)), (2, (.int .i64 17)), (3, (.int .i64 15))] w_30 fun t68 w_40 =>
          vcall P n_spec_l12Rd_num #[v0, t68] w_40 fun t69 w_41 =>
          vbin P .sub T_int true v2 (.int .i64 1) w_41 fun t75 w_42 =>
          vcall P n_spec_l2Term #[v0, v1, (sl 0 u), t75] w_42 fun t76 w_43 =>
          vbin P .sub T_int true v2 (.int .i64 1) w_43 fun t81 w_44 =>
          vcall P n_spec_l2Term #[v0, v1, (sl 0 u), t81] w_44 fun t82 w_45 =>
          vbuildS P T_Limpl_Term 2 [(0, t76), (1, t82)] w_45 fun t83 w_46 =>
          vbuild P T_impl_Term [(0, t69), (4, t83)] w_46 fun t84 w_47 =>
          vstore P T_impl_Term t6 t84 w_47 fun _ w_48 =>
          vlv P T_impl_Term t6 w_48 fun r6_3 w_49 =>
          R r6_3 w_49))))
def A_spec_l2Asks : Ann := { ord := [], loops := [], cuts := [(40971, [7])] }
theorem k_spec_l2Asks (v0 v1 v2 : Value) (w : World) (R : Value → World → Prop) : vc PP A_spec_l2Asks ((Tryz.f162.body).getD .skip) (retF PP Tryz.f162.results.toList R) (nthV [v0, v1, v2]) w = F_spec_l2Asks PP v0 v1 v2 w R := by kernel_rfl
theorem c_spec_l2Asks {v0 v1 v2 : Value} {w : World} {R : Value → World → Prop} (h : F_spec_l2Asks PP v0 v1 v2 w R) : vcall PP n_spec_l2Asks #[v0, v1, v2] w R :=
  call_of_vc (T := A_spec_l2Asks) (c := (Tryz.f162.body).getD .skip) (n := 85) mixed Tryz.func162 rfl rfl (by kernel_rfl) (by kernel_rfl) rfl (by rw [k_spec_l2Asks]; exact h)

/-- impl.VecRead -/
def F_impl_VecRead (P : Program) (v0 : Value) (w : World) (R : Value → World → Prop) : Prop :=
  valloc P T_impl_Vec w fun t2 w_1 =>
  valloc P T_impl_Vec w_1 fun t4 w_2 =>
  vrange P T_string v0 w_2 fun t8 w_3 =>
  vloop [] w_3 fun C _ _ w_4 =>
    vnext P t8 true T_T_ w_4 fun t9 w_5 =>
    vextract P t9 0 w_5 fun t10 w_6 =>
    vif t10 (
      vextract P t9 1 w_6 fun t11 w_7 =>
      vextract P t9 2 w_7 fun t12 w_8 =>
      vjoin (fun J =>
        vbin P .eql T_int true t11 (.int .i64 0) w_8 fun t16 w_10 =>
        vif t16 (
          vbin P .eql T_int32 true t12 (.int .i32 35) w_10 fun t19 w_11 =>
          J [t19] w_11) (
          J [(.bool false)] w_10)) (fun u_1 _ w_9 =>
        vif (sl 0 u_1) (
          C [] w_9) (
          vjoin (fun J_1 =>
            vbin P .gtr T_int true t11 (.int .i64 0) w_9 fun t23 w_13 =>
            vif t23 (
              vbin P .leq T_int true t11 (.int .i64 4) w_13 fun t26 w_14 =>
              vif t26 (
                vbin P .eql T_int32 true t12 (.int .i32 48) w_14 fun t30 w_15 =>
                vif t30 (
                  J_1 [(.bool true)] w_15) (
                  vbin P .eql T_int32 true t12 (.int .i32 49) w_15 fun t33 w_16 =>
                  J_1 [t33] w_16)) (
                J_1 [(.bool false)] w_14)) (
              J_1 [(.bool false)] w_13)) (fun u_2 _ w_12 =>
            vif (sl 0 u_2) (
              vfaddr P T_impl_Vec t4 0 w_12 fun t36 w_17 =>
              vload P T_int t36 w_17 fun t37 w_18 =>
              vbin P .add T_int true t37 (.int .i64 1) w_18 fun t38 w_19 =>
              vfaddr P T_impl_Vec t4 1 w_19 fun t39 w_20 =>
              vload P T_int t39 w_20 fun t40 w_21 =>
              vbin P .mul T_int true (.int .i64 2) t40 w_21 fun t41 w_22 =>
              vbin P .sub T_int32 true t12 (.int .i32 48) w_22 fun t43 w_23 =>
              vconv P T_int32 T_int t43 w_23 fun t44 w_24 =>
              vbin P .add T_int false t41 t44 w_24 fun t45 w_25 =>
              vbuild P T_impl_Vec [(0, t38), (1, t45)] w_25 fun t46 w_26 =>
              vstore P T_impl_Vec t4 t46 w_26 fun _ w_27 =>
              C [] w_27) (
              vbuild P T_impl_Vec [] w_12 fun t13 w_28 =>
              vstore P T_impl_Vec t2 t13 w_28 fun _ w_29 =>
              vlv P T_impl_Vec t2 w_29 fun r2 w_30 =>
              R (.tuple #[r2, (.bool false)]) w_30))))) (
      vload P T_impl_Vec t4 w_6 fun t47 w_31 =>
      vcall P n_impl_VecOk #[t47] w_31 fun t48 w_32 =>
      vun P .not t48 w_32 fun t49 w_33 =>
      vif t49 (
        vbuild P T_impl_Vec [] w_33 fun t50 w_34 =>
        vstore P T_impl_Vec t2 t50 w_34 fun _ w_35 =>
        vlv P T_impl_Vec t2 w_35 fun r2_1 w_36 =>
        R (.tuple #[r2_1, (.bool false)]) w_36) (
        vload P T_impl_Vec t4 w_33 fun t51 w_37 =>
        vstore P T_impl_Vec t2 t51 w_37 fun _ w_38 =>
        vlv P T_impl_Vec t2 w_38 fun r2_2 w_39 =>
        R (.tuple #[r2_2, (.bool true)]) w_39))
def A_impl_VecRead : Ann := { ord := [], loops := [(3, [])], cuts := [(28679, [14]), (32776, [21])] }
theorem k_impl_VecRead (v0 : Value) (w : World) (R : Value → World → Prop) : vc PP A_impl_VecRead ((Tryz.f168.body).getD .skip) (retF PP Tryz.f168.results.toList R) (nthV [v0]) w = F_impl_VecRead PP v0 w R := by kernel_rfl
theorem c_impl_VecRead {v0 : Value} {w : World} {R : Value → World → Prop} (h : F_impl_VecRead PP v0 w R) : vcall PP n_impl_VecRead #[v0] w R :=
  call_of_vc (T := A_impl_VecRead) (c := (Tryz.f168.body).getD .skip) (n := 52) mixed Tryz.func168 rfl rfl (by kernel_rfl) (by kernel_rfl) rfl (by rw [k_impl_VecRead]; exact h)

/-- spec.l1Bits -/
def F_spec_l1Bits (P : Program) (v0 v1 v2 : Value) (w : World) (R : Value → World → Prop) : Prop :=
  vloop [(.int .i64 0), (.int .i64 3)] w fun C u _ w_1 =>
    vbin P .geq T_int true (sl 1 u) (.int .i64 0) w_1 fun t13 w_2 =>
    vif t13 (
      vcall P n_spec_l1Bit #[v1, (sl 1 u)] w_2 fun t18 w_3 =>
      vcall P n_spec_l1Bit #[v2, (sl 1 u)] w_3 fun t21 w_4 =>
      vbin P .mul T_int false t18 t21 w_4 fun t24 w_5 =>
      vbin P .eql T_int true v0 (.int .i64 4) w_5 fun t27 w_6 =>
      vif t27 (
        vbin P .add T_int false t18 t21 w_6 fun t30 w_7 =>
        vbin P .mul T_int false t18 t21 w_7 fun t33 w_8 =>
        vbin P .sub T_int false t30 t33 w_8 fun t34 w_9 =>
        vbin P .mul T_int true (sl 0 u) (.int .i64 2) w_9 fun t42 w_10 =>
        vbin P .add T_int false t42 t34 w_10 fun t44 w_11 =>
        vbin P .sub T_int true (sl 1 u) (.int .i64 1) w_11 fun t15 w_12 =>
        C [t44, t15] w_12) (
        vbin P .eql T_int true v0 (.int .i64 5) w_6 fun t36 w_13 =>
        vif t36 (
          vbin P .add T_int false t18 t21 w_13 fun t39 w_14 =>
          vbin P .rem T_int true t39 (.int .i64 2) w_14 fun t40 w_15 =>
          vbin P .mul T_int true (sl 0 u) (.int .i64 2) w_15 fun t42_1 w_16 =>
          vbin P .add T_int false t42_1 t40 w_16 fun t44_1 w_17 =>
          vbin P .sub T_int true (sl 1 u) (.int .i64 1) w_17 fun t15_1 w_18 =>
          C [t44_1, t15_1] w_18) (
          vbin P .mul T_int true (sl 0 u) (.int .i64 2) w_13 fun t42_2 w_19 =>
          vbin P .add T_int false t42_2 t24 w_19 fun t44_2 w_20 =>
          vbin P .sub T_int true (sl 1 u) (.int .i64 1) w_20 fun t15_2 w_21 =>
          C [t44_2, t15_2] w_21))) (
      R (sl 0 u) w_2)
def A_spec_l1Bits : Ann := { ord := [], loops := [(3, [7, 8])], cuts := [] }
theorem k_spec_l1Bits (v0 v1 v2 : Value) (w : World) (R : Value → World → Prop) : vc PP A_spec_l1Bits ((Tryz.f175.body).getD .skip) (retF PP Tryz.f175.results.toList R) (nthV [v0, v1, v2]) w = F_spec_l1Bits PP v0 v1 v2 w R := by kernel_rfl
theorem c_spec_l1Bits {v0 v1 v2 : Value} {w : World} {R : Value → World → Prop} (h : F_spec_l1Bits PP v0 v1 v2 w R) : vcall PP n_spec_l1Bits #[v0, v1, v2] w R :=
  call_of_vc (T := A_spec_l1Bits) (c := (Tryz.f175.body).getD .skip) (n := 46) mixed Tryz.func175 rfl rfl (by kernel_rfl) (by kernel_rfl) rfl (by rw [k_spec_l1Bits]; exact h)

/-- spec.l1Shift -/
def F_spec_l1Shift (P : Program) (v0 v1 v2 : Value) (w : World) (R : Value → World → Prop) : Prop :=
  vbox P T_impl_Vec v1 w fun t4 w_1 =>
  vfaddr P T_impl_Vec t4 0 w_1 fun t9 w_2 =>
  vload P T_int t9 w_2 fun t10 w_3 =>
  vcall P n_spec_l1Min #[v2, t10] w_3 fun t11 w_4 =>
  vbin P .eql T_int true v0 (.int .i64 11) w_4 fun t14 w_5 =>
  vif t14 (
    vdraw w_5 fun w_6 =>
    vfaddr P T_impl_Vec t4 1 w_6 fun t15 w_7 => w_7 = w_6 ∧
    vload P T_int t15 w_6 fun t16 w_8 => w_8 = w_6 ∧
    vfaddr P T_impl_Vec t4 0 w_6 fun t20 w_9 => w_9 = w_6 ∧
    vload P T_int t20 w_6 fun t21 w_10 => w_10 = w_6 ∧
    vcall P n_spec_l1Two #[t11] w_6 fun t18 w_11 => (vload P T_int t20 w_11 fun v x => v = t21 ∧ x = w_11) ∧ (vfaddr P T_impl_Vec t4 0 w_11 fun v x => v = t20 ∧ x = w_11) ∧ (vload P T_int t15 w_11 fun v x => v = t16 ∧ x = w_11) ∧ (vfaddr P T_impl_Vec t4 1 w_11 fun v x => v = t15 ∧ x = w_11) ∧
    vbin P .mul T_int false t16 t18 w_11 fun t19 w_12 => w_12 = w_11 ∧
    vcall P n_spec_l1Mod #[t19, t21] w_11 fun t22 w_13 =>
    R t22 w_13) (
    vbin P .eql T_int true v0 (.int .i64 12) w_5 fun t24 w_14 =>
    vif t24 (
      vdraw w_14 fun w_15 =>
      vfaddr P T_impl_Vec t4 1 w_15 fun t25 w_16 => w_16 = w_15 ∧
      vload P T_int t25 w_15 fun t26 w_17 => w_17 = w_15 ∧
      vcall P n_spec_l1Two #[t11] w_15 fun t28 w_18 => (vload P T_int t25 w_18 fun v x => v = t26 ∧ x = w_18) ∧ (vfaddr P T_impl_Vec t4 1 w_18 fun v x => v = t25 ∧ x = w_18) ∧
      vbin P .quo T_int false t26 t28 w_18 fun t29 w_19 => w_19 = w_18 ∧
      R t29 w_18) (
      vfaddr P T_impl_Vec t4 1 w_14 fun t30 w_20 =>
      vload P T_int t30 w_20 fun t31 w_21 =>
      vfaddr P T_impl_Vec t4 0 w_21 fun t32 w_22 =>
      vload P T_int t32 w_22 fun t33 w_23 =>
      vbin P .sub T_int true t33 (.int .i64 1) w_23 fun t34 w_24 =>
      vcall P n_spec_l1Bit #[t31, t34] w_24 fun t35 w_25 =>
      vbin P .eql T_int true t35 (.int .i64 0) w_25 fun t36 w_26 =>
      vif t36 (
        vdraw w_26 fun w_27 =>
        vfaddr P T_impl_Vec t4 1 w_27 fun t37 w_28 => w_28 = w_27 ∧
        vload P T_int t37 w_27 fun t38 w_29 => w_29 = w_27 ∧
        vcall P n_spec_l1Two #[t11] w_27 fun t40 w_30 => (vload P T_int t37 w_30 fun v x => v = t38 ∧ x = w_30) ∧ (vfaddr P T_impl_Vec t4 1 w_30 fun v x => v = t37 ∧ x = w_30) ∧
        vbin P .quo T_int false t38 t40 w_30 fun t41 w_31 => w_31 = w_30 ∧
        R t41 w_30) (
        vfaddr P T_impl_Vec t4 0 w_26 fun t42 w_32 =>
        vload P T_int t42 w_32 fun t43 w_33 =>
        vcall P n_spec_l1Two #[t43] w_33 fun t44 w_34 =>
        vbin P .sub T_int true t44 (.int .i64 1) w_34 fun t45 w_35 =>
        vdraw w_35 fun w_36 =>
        vfaddr P T_impl_Vec t4 1 w_36 fun t48 w_37 => w_37 = w_36 ∧
        vload P T_int t48 w_36 fun t49 w_38 => w_38 = w_36 ∧
        vbin P .sub T_int false t45 t49 w_36 fun t50 w_39 => w_39 = w_36 ∧
        vcall P n_spec_l1Two #[t11] w_36 fun t52 w_40 => (vbin P .sub T_int false t45 t49 w_40 fun v x => v = t50 ∧ x = w_40) ∧ (vload P T_int t48 w_40 fun v x => v = t49 ∧ x = w_40) ∧ (vfaddr P T_impl_Vec t4 1 w_40 fun v x => v = t48 ∧ x = w_40) ∧
        vbin P .quo T_int false t50 t52 w_40 fun t53 w_41 => w_41 = w_40 ∧
        vbin P .sub T_int false t45 t53 w_40 fun t54 w_42 => w_42 = w_40 ∧
        R t54 w_40)))
def A_spec_l1Shift : Ann := { ord := [(4, [0, 1, 2, 5, 6, 3, 4, 7, 8], [(0, [1, 4, 7, 8]), (1, [4, 7, 8]), (2, [3, 4, 7, 8]), (5, [6, 7, 8]), (6, [7, 8]), (3, [4, 7, 8]), (4, [7, 8]), (7, [8])]), (6, [0, 1, 2, 3, 4, 5], [(0, [1, 4, 5]), (1, [4, 5]), (2, [3, 4, 5]), (3, [4, 5]), (4, [5])]), (8, [0, 1, 2, 3, 4, 5], [(0, [1, 4, 5]), (1, [4, 5]), (2, [3, 4, 5]), (3, [4, 5]), (4, [5])]), (10, [0, 1, 2, 3, 4, 5, 6, 7, 8, 9], [(0, [8, 9]), (1, [4, 7, 8, 9]), (2, [3, 4, 7, 8, 9]), (3, [4, 7, 8, 9]), (4, [7, 8, 9]), (5, [6, 7, 8, 9]), (6, [7, 8, 9]), (7, [8, 9]), (8, [9])])], loops := [], cuts := [] }
theorem k_spec_l1Shift (v0 v1 v2 : Value) (w : World) (R : Value → World → Prop) : vc PP A_spec_l1Shift ((Tryz.f176.body).getD .skip) (retF PP Tryz.f176.results.toList R) (nthV [v0, v1, v2]) w = F_spec_l1Shift PP v0 v1 v2 w R := by kernel_rfl
theorem c_spec_l1Shift {v0 v1 v2 : Value} {w : World} {R : Value → World → Prop} (h : F_spec_l1Shift PP v0 v1 v2 w R) : vcall PP n_spec_l1Shift #[v0, v1, v2] w R :=
  call_of_vc (T := A_spec_l1Shift) (c := (Tryz.f176.body).getD .skip) (n := 55) mixed Tryz.func176 rfl rfl (by kernel_rfl) (by kernel_rfl) rfl (by rw [k_spec_l1Shift]; exact h)

/-- (impl.named).kids -/
def F_impl_named_kids (P : Program) (v0 : Value) (w : World) (R : Value → World → Prop) : Prop :=
  vbox P T_impl_named v0 w fun t1 w_1 =>
  vfaddr P T_impl_named t1 1 w_1 fun t3 w_2 =>
  vload P T_int t3 w_2 fun t4 w_3 =>
  R t4 w_3
def A_impl_named_kids : Ann := { ord := [], loops := [], cuts := [] }
theorem k_impl_named_kids (v0 : Value) (w : World) (R : Value → World → Prop) : vc PP A_impl_named_kids ((Tryz.f229.body).getD .skip) (retF PP Tryz.f229.results.toList R) (nthV [v0]) w = F_impl_named_kids PP v0 w R := by kernel_rfl
theorem c_impl_named_kids {v0 : Value} {w : World} {R : Value → World → Prop} (h : F_impl_named_kids PP v0 w R) : vcall PP n_impl_named_kids #[v0] w R :=
  call_of_vc (T := A_impl_named_kids) (c := (Tryz.f229.body).getD .skip) (n := 5) mixed Tryz.func229 rfl rfl (by kernel_rfl) (by kernel_rfl) rfl (by rw [k_impl_named_kids]; exact h)

/-- (impl.named).word -/
def F_impl_named_word (P : Program) (v0 : Value) (w : World) (R : Value → World → Prop) : Prop :=
  vbox P T_impl_named v0 w fun t1 w_1 =>
  vfaddr P T_impl_named t1 0 w_1 fun t3 w_2 =>
  vload P T_string t3 w_2 fun t4 w_3 =>
  R t4 w_3
def A_impl_named_word : Ann := { ord := [], loops := [], cuts := [] }
theorem k_impl_named_word (v0 : Value) (w : World) (R : Value → World → Prop) : vc PP A_impl_named_word ((Tryz.f230.body).getD .skip) (retF PP Tryz.f230.results.toList R) (nthV [v0]) w = F_impl_named_word PP v0 w R := by kernel_rfl
theorem c_impl_named_word {v0 : Value} {w : World} {R : Value → World → Prop} (h : F_impl_named_word PP v0 w R) : vcall PP n_impl_named_word #[v0] w R :=
  call_of_vc (T := A_impl_named_word) (c := (Tryz.f230.body).getD .skip) (n := 5) mixed Tryz.func230 rfl rfl (by kernel_rfl) (by kernel_rfl) rfl (by rw [k_impl_named_word]; exact h)

/-- (impl.unKind).sort -/
def F_impl_unKind_sort (P : Program) (v0 v1 v2 v3 : Value) (w : World) (R : Value → World → Prop) : Prop :=
  vbox P T_impl_unKind v0 w fun _ w_1 =>
  vbox P T_impl_Term v2 w_1 fun _ w_2 =>
  vdraw w_2 fun w_3 =>
  viaddr P T_Lint v3 (.int .i64 0) w_3 fun t10 w_4 => w_4 = w_3 ∧
  vload P T_int t10 w_3 fun t11 w_5 => w_5 = w_3 ∧
  vbin P .gtr T_int true t11 (.int .i64 0) w_3 fun t12 w_6 => w_6 = w_3 ∧
  viaddr P T_Lint v3 (.int .i64 0) w_3 fun t14 w_7 => w_7 = w_3 ∧
  vload P T_int t14 w_3 fun t15 w_8 => w_8 = w_3 ∧
  vcall P n_impl_sorted #[t12, t15] w_3 fun t16 w_9 =>
  R t16 w_9
def A_impl_unKind_sort : Ann := { ord := [(1, [0, 1, 2, 3, 4, 5, 6, 7, 8], [(0, [1, 2, 3, 7, 8]), (1, [2, 3, 7, 8]), (2, [3, 7, 8]), (3, [7, 8]), (4, [5, 6, 7, 8]), (5, [6, 7, 8]), (6, [7, 8]), (7, [8])])], loops := [], cuts := [] }
theorem k_impl_unKind_sort (v0 v1 v2 v3 : Value) (w : World) (R : Value → World → Prop) : vc PP A_impl_unKind_sort ((Tryz.f231.body).getD .skip) (retF PP Tryz.f231.results.toList R) (nthV [v0, v1, v2, v3]) w = F_impl_unKind_sort PP v0 v1 v2 v3 w R := by kernel_rfl
theorem c_impl_unKind_sort {v0 v1 v2 v3 : Value} {w : World} {R : Value → World → Prop} (h : F_impl_unKind_sort PP v0 v1 v2 v3 w R) : vcall PP n_impl_unKind_sort #[v0, v1, v2, v3] w R :=
  call_of_vc (T := A_impl_unKind_sort) (c := (Tryz.f231.body).getD .skip) (n := 17) mixed Tryz.func231 rfl rfl (by kernel_rfl) (by kernel_rfl) rfl (by rw [k_impl_unKind_sort]; exact h)

/-- (impl.unKind).value -/
def F_impl_unKind_value (P : Program) (v0 v1 v2 v3 : Value) (w : World) (R : Value → World → Prop) : Prop :=
  vbox P T_impl_unKind v0 w fun _ w_1 =>
  vbox P T_impl_Term v2 w_1 fun t6 w_2 =>
  vjoin (fun J =>
    vdraw w_2 fun w_4 =>
    vfaddr P T_impl_Term t6 0 w_4 fun t12 w_5 => w_5 = w_4 ∧
    vload P T_int t12 w_4 fun t13 w_6 => w_6 = w_4 ∧
    viaddr P T_Limpl_Vec v3 (.int .i64 0) w_4 fun t15 w_7 => w_7 = w_4 ∧
    vload P T_impl_Vec t15 w_4 fun t16 w_8 => w_8 = w_4 ∧
    (vcall P n_impl_VecUn #[t13, t16] w_4 fun t17 w_9 =>
      vextract P t17 0 w_9 fun t18 w_10 => w_10 = w_9 ∧
      vextract P t17 1 w_9 fun t19 w_11 => w_11 = w_9 ∧
      (valloc P T_impl_Vec w_9 fun t9 w_12 => (vextract P t17 1 w_12 fun v x => v = t19 ∧ x = w_12) ∧ (vextract P t17 0 w_12 fun v x => v = t18 ∧ x = w_12) ∧
        (vstore P T_impl_Vec t9 t18 w_12 fun _ w_13 => (vextract P t17 1 w_13 fun v x => v = t19 ∧ x = w_13) ∧
          J [t9] w_13) ∧
        True) ∧
      True) ∧
    (valloc P T_impl_Vec w_4 fun t9_1 w_14 => (vload P T_impl_Vec t15 w_14 fun v x => v = t16 ∧ x = w_14) ∧ (viaddr P T_Limpl_Vec v3 (.int .i64 0) w_14 fun v x => v = t15 ∧ x = w_14) ∧ (vload P T_int t12 w_14 fun v x => v = t13 ∧ x = w_14) ∧ (vfaddr P T_impl_Term t6 0 w_14 fun v x => v = t12 ∧ x = w_14) ∧
      (vcall P n_impl_VecUn #[t13, t16] w_14 fun t17_1 w_15 =>
        vextract P t17_1 0 w_15 fun t18_1 w_16 => w_16 = w_15 ∧
        vextract P t17_1 1 w_15 fun t19_1 w_17 => w_17 = w_15 ∧
        (vstore P T_impl_Vec t9_1 t18_1 w_15 fun _ w_18 => (vextract P t17_1 1 w_18 fun v x => v = t19_1 ∧ x = w_18) ∧
          J [t9_1] w_18) ∧
        True) ∧
      True) ∧
    True) (fun u _ w_3 =>
    vfaddr P T_impl_Vec (sl 0 u) 1 w_3 fun t20 w_19 =>
    vload P T_int t20 w_19 fun t21 w_20 =>
    R t21 w_20)
def A_impl_unKind_value : Ann := { ord := [], loops := [], cuts := [(8194, [9])], trees := [(1, (.st 0 (.st 1 (.st 2 (.st 3 (.st 4 (.alt 5 (.st 6 (.st 7 (.st 8 (.alt 9 (.alt 10 (.st 11 .nil) .no) .no)))) (.alt 9 (.alt 5 (.st 6 (.st 7 (.st 8 (.alt 10 (.st 11 .nil) .no)))) .no) .no))))))), [(0, [1, 5, 6, 7, 8, 10, 11]), (1, [5, 6, 7, 8, 10, 11]), (2, [3, 4, 5, 6, 7, 8, 10, 11]), (3, [4, 5, 6, 7, 8, 10, 11]), (4, [5, 6, 7, 8, 10, 11]), (5, [6, 7, 8, 10, 11]), (6, [7, 8, 10, 11]), (7, [10, 11]), (8, [11]), (9, [10, 11]), (10, [11])])] }
theorem k_impl_unKind_value (v0 v1 v2 v3 : Value) (w : World) (R : Value → World → Prop) : vc PP A_impl_unKind_value ((Tryz.f232.body).getD .skip) (retF PP Tryz.f232.results.toList R) (nthV [v0, v1, v2, v3]) w = F_impl_unKind_value PP v0 v1 v2 v3 w R := by kernel_rfl
theorem c_impl_unKind_value {v0 v1 v2 v3 : Value} {w : World} {R : Value → World → Prop} (h : F_impl_unKind_value PP v0 v1 v2 v3 w R) : vcall PP n_impl_unKind_value #[v0, v1, v2, v3] w R :=
  call_of_vc (T := A_impl_unKind_value) (c := (Tryz.f232.body).getD .skip) (n := 22) mixed Tryz.func232 rfl rfl (by kernel_rfl) (by kernel_rfl) rfl (by rw [k_impl_unKind_value]; exact h)

/-- impl.sorted -/
def F_impl_sorted (P : Program) (v0 v1 : Value) (w : World) (R : Value → World → Prop) : Prop :=
  vif v0 (
    R v1 w) (
    R (.int .i64 (-1)) w)
def A_impl_sorted : Ann := { ord := [], loops := [], cuts := [] }
theorem k_impl_sorted (v0 v1 : Value) (w : World) (R : Value → World → Prop) : vc PP A_impl_sorted ((Tryz.f233.body).getD .skip) (retF PP Tryz.f233.results.toList R) (nthV [v0, v1]) w = F_impl_sorted PP v0 v1 w R := by kernel_rfl
theorem c_impl_sorted {v0 v1 : Value} {w : World} {R : Value → World → Prop} (h : F_impl_sorted PP v0 v1 w R) : vcall PP n_impl_sorted #[v0, v1] w R :=
  call_of_vc (T := A_impl_sorted) (c := (Tryz.f233.body).getD .skip) (n := 7) mixed Tryz.func233 rfl rfl (by kernel_rfl) (by kernel_rfl) rfl (by rw [k_impl_sorted]; exact h)

/-- (impl.catKind).sort -/
def F_impl_catKind_sort (P : Program) (v0 v1 v2 v3 : Value) (w : World) (R : Value → World → Prop) : Prop :=
  vbox P T_impl_catKind v0 w fun _ w_1 =>
  vbox P T_impl_Term v2 w_1 fun _ w_2 =>
  vdraw w_2 fun w_3 =>
  viaddr P T_Lint v3 (.int .i64 0) w_3 fun t10 w_4 => w_4 = w_3 ∧
  vload P T_int t10 w_3 fun t11 w_5 => w_5 = w_3 ∧
  vbin P .gtr T_int true t11 (.int .i64 0) w_3 fun t12 w_6 => w_6 = w_3 ∧
  vif t12 (
    viaddr P T_Lint v3 (.int .i64 1) w_3 fun t15 w_7 => w_7 = w_3 ∧
    vload P T_int t15 w_3 fun t16 w_8 => w_8 = w_3 ∧
    vbin P .gtr T_int true t16 (.int .i64 0) w_3 fun t17 w_9 => w_9 = w_3 ∧
    vif t17 (
      viaddr P T_Lint v3 (.int .i64 0) w_3 fun t21 w_10 => w_10 = w_3 ∧
      vload P T_int t21 w_3 fun t22 w_11 => w_11 = w_3 ∧
      viaddr P T_Lint v3 (.int .i64 1) w_3 fun t24 w_12 => w_12 = w_3 ∧
      vload P T_int t24 w_3 fun t25 w_13 => w_13 = w_3 ∧
      vbin P .add T_int false t22 t25 w_3 fun t26 w_14 => w_14 = w_3 ∧
      vbin P .leq T_int true t26 (.int .i64 4) w_3 fun t27 w_15 => w_15 = w_3 ∧
      viaddr P T_Lint v3 (.int .i64 0) w_3 fun t30 w_16 => w_16 = w_3 ∧
      vload P T_int t30 w_3 fun t31 w_17 => w_17 = w_3 ∧
      viaddr P T_Lint v3 (.int .i64 1) w_3 fun t33 w_18 => w_18 = w_3 ∧
      vload P T_int t33 w_3 fun t34 w_19 => w_19 = w_3 ∧
      vbin P .add T_int false t31 t34 w_3 fun t35 w_20 => w_20 = w_3 ∧
      vcall P n_impl_sorted #[t27, t35] w_3 fun t36 w_21 =>
      R t36 w_21) (
      viaddr P T_Lint v3 (.int .i64 0) w_3 fun t30_1 w_22 => w_22 = w_3 ∧
      vload P T_int t30_1 w_3 fun t31_1 w_23 => w_23 = w_3 ∧
      viaddr P T_Lint v3 (.int .i64 1) w_3 fun t33_1 w_24 => w_24 = w_3 ∧
      vload P T_int t33_1 w_3 fun t34_1 w_25 => w_25 = w_3 ∧
      vbin P .add T_int false t31_1 t34_1 w_3 fun t35_1 w_26 => w_26 = w_3 ∧
      vcall P n_impl_sorted #[(.bool false), t35_1] w_3 fun t36_1 w_27 =>
      R t36_1 w_27)) (
    viaddr P T_Lint v3 (.int .i64 0) w_3 fun t30_2 w_28 => w_28 = w_3 ∧
    vload P T_int t30_2 w_3 fun t31_2 w_29 => w_29 = w_3 ∧
    viaddr P T_Lint v3 (.int .i64 1) w_3 fun t33_2 w_30 => w_30 = w_3 ∧
    vload P T_int t33_2 w_3 fun t34_2 w_31 => w_31 = w_3 ∧
    vbin P .add T_int false t31_2 t34_2 w_3 fun t35_2 w_32 => w_32 = w_3 ∧
    vcall P n_impl_sorted #[(.bool false), t35_2] w_3 fun t36_2 w_33 =>
    R t36_2 w_33)
def A_impl_catKind_sort : Ann := { ord := [(1, [0, 1, 2, 3, 4, 5, 6, 7, 8, 9, 10, 11, 12, 13, 14, 15, 16, 17, 18, 19, 20, 21, 22, 23, 24, 25, 26, 27, 28], [(0, [1, 2, 3, 4, 5, 6, 7, 8, 9, 10, 11, 12, 13, 14, 15, 16, 17, 18, 19, 27, 28]), (1, [2, 3, 4, 5, 6, 7, 8, 9, 10, 11, 12, 13, 14, 15, 16, 17, 18, 19, 27, 28]), (2, [3, 4, 5, 6, 7, 8, 9, 10, 11, 12, 13, 14, 15, 16, 17, 18, 19, 27, 28]), (3, [4, 5, 6, 7, 8, 9, 10, 11, 12, 13, 14, 15, 16, 17, 18, 19, 27, 28]), (4, [5, 6, 7, 8, 9, 10, 11, 12, 13, 14, 15, 16, 17, 18, 19, 27, 28]), (5, [6, 7, 8, 9, 10, 11, 12, 13, 14, 15, 16, 17, 18, 19, 27, 28]), (6, [7, 8, 9, 10, 11, 12, 13, 14, 15, 16, 17, 18, 19, 27, 28]), (7, [8, 9, 10, 11, 12, 13, 14, 15, 16, 17, 18, 19, 27, 28]), (8, [9, 10, 11, 12, 13, 14, 15, 16, 17, 18, 19, 27, 28]), (9, [10, 11, 12, 13, 14, 15, 16, 17, 18, 19, 27, 28]), (10, [11, 12, 13, 14, 15, 16, 17, 18, 19, 27, 28]), (11, [12, 13, 17, 18, 19, 27, 28]), (12, [13, 17, 18, 19, 27, 28]), (13, [17, 18, 19, 27, 28]), (14, [15, 16, 17, 18, 19, 27, 28]), (15, [16, 17, 18, 19, 27, 28]), (16, [17, 18, 19, 27, 28]), (17, [18, 19, 27, 28]), (18, [19, 27, 28]), (19, [27, 28]), (20, [21, 22, 26, 27, 28]), (21, [22, 26, 27, 28]), (22, [26, 27, 28]), (23, [24, 25, 26, 27, 28]), (24, [25, 26, 27, 28]), (25, [26, 27, 28]), (26, [27, 28]), (27, [28])])], loops := [], cuts := [] }
theorem k_impl_catKind_sort (v0 v1 v2 v3 : Value) (w : World) (R : Value → World → Prop) : vc PP A_impl_catKind_sort ((Tryz.f234.body).getD .skip) (retF PP Tryz.f234.results.toList R) (nthV [v0, v1, v2, v3]) w = F_impl_catKind_sort PP v0 v1 v2 v3 w R := by kernel_rfl
theorem c_impl_catKind_sort {v0 v1 v2 v3 : Value} {w : World} {R : Value → World → Prop} (h : F_impl_catKind_sort PP v0 v1 v2 v3 w R) : vcall PP n_impl_catKind_sort #[v0, v1, v2, v3] w R :=
  call_of_vc (T := A_impl_catKind_sort) (c := (Tryz.f234.body).getD .skip) (n := 37) mixed Tryz.func234 rfl rfl (by kernel_rfl) (by kernel_rfl) rfl (by rw [k_impl_catKind_sort]; exact h)

/-- (impl.catKind).value -/
def F_impl_catKind_value (P : Program) (v0 v1 v2 v3 : Value) (w : World) (R : Value → World → Prop) : Prop :=
  vbox P T_impl_catKind v0 w fun _ w_1 =>
  vbox P T_impl_Term v2 w_1 fun t6 w_2 =>
  vjoin (fun J =>
    vdraw w_2 fun w_4 =>
    vfaddr P T_impl_Term t6 0 w_4 fun t12 w_5 => w_5 = w_4 ∧
    vload P T_int t12 w_4 fun t13 w_6 => w_6 = w_4 ∧
    viaddr P T_Limpl_Vec v3 (.int .i64 0) w_4 fun t15 w_7 => w_7 = w_4 ∧
    vload P T_impl_Vec t15 w_4 fun t16 w_8 => w_8 = w_4 ∧
    viaddr P T_Limpl_Vec v3 (.int .i64 1) w_4 fun t18 w_9 => w_9 = w_4 ∧
    vload P T_impl_Vec t18 w_4 fun t19 w_10 => w_10 = w_4 ∧
    (vcall P n_impl_VecBin #[t13, t16, t19] w_4 fun t20 w_11 =>
      vextract P t20 0 w_11 fun t21 w_12 => w_12 = w_11 ∧
      vextract P t20 1 w_11 fun t22 w_13 => w_13 = w_11 ∧
      (valloc P T_impl_Vec w_11 fun t9 w_14 => (vextract P t20 1 w_14 fun v x => v = t22 ∧ x = w_14) ∧ (vextract P t20 0 w_14 fun v x => v = t21 ∧ x = w_14) ∧
        (vstore P T_impl_Vec t9 t21 w_14 fun _ w_15 => (vextract P t20 1 w_15 fun v x => v = t22 ∧ x = w_15) ∧
          J [t9] w_15) ∧
        True) ∧
      True) ∧
    (valloc P T_impl_Vec w_4 fun t9_1 w_16 => (vload P T_impl_Vec t18 w_16 fun v x => v = t19 ∧ x = w_16) ∧ (viaddr P T_Limpl_Vec v3 (.int .i64 1) w_16 fun v x => v = t18 ∧ x = w_16) ∧ (vload P T_impl_Vec t15 w_16 fun v x => v = t16 ∧ x = w_16) ∧ (viaddr P T_Limpl_Vec v3 (.int .i64 0) w_16 fun v x => v = t15 ∧ x = w_16) ∧ (vload P T_int t12 w_16 fun v x => v = t13 ∧ x = w_16) ∧ (vfaddr P T_impl_Term t6 0 w_16 fun v x => v = t12 ∧ x = w_16) ∧
      (vcall P n_impl_VecBin #[t13, t16, t19] w_16 fun t20_1 w_17 =>
        vextract P t20_1 0 w_17 fun t21_1 w_18 => w_18 = w_17 ∧
        vextract P t20_1 1 w_17 fun t22_1 w_19 => w_19 = w_17 ∧
        (vstore P T_impl_Vec t9_1 t21_1 w_17 fun _ w_20 => (vextract P t20_1 1 w_20 fun v x => v = t22_1 ∧ x = w_20) ∧
          J [t9_1] w_20) ∧
        True) ∧
      True) ∧
    True) (fun u _ w_3 =>
    vfaddr P T_impl_Vec (sl 0 u) 1 w_3 fun t23 w_21 =>
    vload P T_int t23 w_21 fun t24 w_22 =>
    R t24 w_22)
def A_impl_catKind_value : Ann := { ord := [], loops := [], cuts := [(8194, [9])], trees := [(1, (.st 0 (.st 1 (.st 2 (.st 3 (.st 4 (.st 5 (.st 6 (.st 7 (.alt 8 (.st 9 (.st 10 (.st 11 (.alt 12 (.alt 13 (.st 14 .nil) .no) .no)))) (.alt 12 (.alt 8 (.st 9 (.st 10 (.st 11 (.alt 13 (.st 14 .nil) .no)))) .no) .no)))))))))), [(0, [1, 8, 9, 10, 11, 13, 14]), (1, [8, 9, 10, 11, 13, 14]), (2, [3, 4, 8, 9, 10, 11, 13, 14]), (3, [4, 8, 9, 10, 11, 13, 14]), (4, [8, 9, 10, 11, 13, 14]), (5, [6, 7, 8, 9, 10, 11, 13, 14]), (6, [7, 8, 9, 10, 11, 13, 14]), (7, [8, 9, 10, 11, 13, 14]), (8, [9, 10, 11, 13, 14]), (9, [10, 11, 13, 14]), (10, [13, 14]), (11, [14]), (12, [13, 14]), (13, [14])])] }
theorem k_impl_catKind_value (v0 v1 v2 v3 : Value) (w : World) (R : Value → World → Prop) : vc PP A_impl_catKind_value ((Tryz.f235.body).getD .skip) (retF PP Tryz.f235.results.toList R) (nthV [v0, v1, v2, v3]) w = F_impl_catKind_value PP v0 v1 v2 v3 w R := by kernel_rfl
theorem c_impl_catKind_value {v0 v1 v2 v3 : Value} {w : World} {R : Value → World → Prop} (h : F_impl_catKind_value PP v0 v1 v2 v3 w R) : vcall PP n_impl_catKind_value #[v0, v1, v2, v3] w R :=
  call_of_vc (T := A_impl_catKind_value) (c := (Tryz.f235.body).getD .skip) (n := 25) mixed Tryz.func235 rfl rfl (by kernel_rfl) (by kernel_rfl) rfl (by rw [k_impl_catKind_value]; exact h)

/-- (impl.cmpKind).sort -/
def F_impl_cmpKind_sort (P : Program) (v0 v1 v2 v3 : Value) (w : World) (R : Value → World → Prop) : Prop :=
  vbox P T_impl_cmpKind v0 w fun _ w_1 =>
  vbox P T_impl_Term v2 w_1 fun _ w_2 =>
  vdraw w_2 fun w_3 =>
  viaddr P T_Lint v3 (.int .i64 0) w_3 fun t10 w_4 => w_4 = w_3 ∧
  vload P T_int t10 w_3 fun t11 w_5 => w_5 = w_3 ∧
  vbin P .gtr T_int true t11 (.int .i64 0) w_3 fun t12 w_6 => w_6 = w_3 ∧
  vif t12 (
    viaddr P T_Lint v3 (.int .i64 0) w_3 fun t15 w_7 => w_7 = w_3 ∧
    vload P T_int t15 w_3 fun t16 w_8 => w_8 = w_3 ∧
    viaddr P T_Lint v3 (.int .i64 1) w_3 fun t18 w_9 => w_9 = w_3 ∧
    vload P T_int t18 w_3 fun t19 w_10 => w_10 = w_3 ∧
    vbin P .eql T_int false t16 t19 w_3 fun t20 w_11 => w_11 = w_3 ∧
    vcall P n_impl_sorted #[t20, (.int .i64 0)] w_3 fun t22 w_12 =>
    R t22 w_12) (
    vcall P n_impl_sorted #[(.bool false), (.int .i64 0)] w_3 fun t22_1 w_13 =>
    R t22_1 w_13)
def A_impl_cmpKind_sort : Ann := { ord := [(1, [0, 1, 2, 3, 4, 5, 6, 7, 8, 9, 10, 11, 12, 13, 14], [(0, [1, 2, 3, 4, 5, 6, 7, 8, 9, 10, 11, 12, 13, 14]), (1, [2, 3, 4, 5, 6, 7, 8, 9, 10, 11, 12, 13, 14]), (2, [3, 4, 5, 6, 7, 8, 9, 10, 11, 12, 13, 14]), (3, [4, 5, 6, 7, 8, 9, 10, 11, 12, 13, 14]), (4, [5, 6, 7, 8, 9, 10, 11, 12, 13, 14]), (5, [6, 7, 11, 12, 13, 14]), (6, [7, 11, 12, 13, 14]), (7, [11, 12, 13, 14]), (8, [9, 10, 11, 12, 13, 14]), (9, [10, 11, 12, 13, 14]), (10, [11, 12, 13, 14]), (11, [12, 13, 14]), (12, [13, 14]), (13, [14])])], loops := [], cuts := [] }
theorem k_impl_cmpKind_sort (v0 v1 v2 v3 : Value) (w : World) (R : Value → World → Prop) : vc PP A_impl_cmpKind_sort ((Tryz.f236.body).getD .skip) (retF PP Tryz.f236.results.toList R) (nthV [v0, v1, v2, v3]) w = F_impl_cmpKind_sort PP v0 v1 v2 v3 w R := by kernel_rfl
theorem c_impl_cmpKind_sort {v0 v1 v2 v3 : Value} {w : World} {R : Value → World → Prop} (h : F_impl_cmpKind_sort PP v0 v1 v2 v3 w R) : vcall PP n_impl_cmpKind_sort #[v0, v1, v2, v3] w R :=
  call_of_vc (T := A_impl_cmpKind_sort) (c := (Tryz.f236.body).getD .skip) (n := 23) mixed Tryz.func236 rfl rfl (by kernel_rfl) (by kernel_rfl) rfl (by rw [k_impl_cmpKind_sort]; exact h)

/-- (impl.cmpKind).value -/
def F_impl_cmpKind_value (P : Program) (v0 v1 v2 v3 : Value) (w : World) (R : Value → World → Prop) : Prop :=
  vbox P T_impl_cmpKind v0 w fun _ w_1 =>
  vbox P T_impl_Term v2 w_1 fun t6 w_2 =>
  vdraw w_2 fun w_3 =>
  vfaddr P T_impl_Term t6 0 w_3 fun t12 w_4 => w_4 = w_3 ∧
  vload P T_int t12 w_3 fun t13 w_5 => w_5 = w_3 ∧
  viaddr P T_Limpl_Vec v3 (.int .i64 0) w_3 fun t15 w_6 => w_6 = w_3 ∧
  vload P T_impl_Vec t15 w_3 fun t16 w_7 => w_7 = w_3 ∧
  viaddr P T_Limpl_Vec v3 (.int .i64 1) w_3 fun t18 w_8 => w_8 = w_3 ∧
  vload P T_impl_Vec t18 w_3 fun t19 w_9 => w_9 = w_3 ∧
  vcall P n_impl_VecCmp #[t13, t16, t19] w_3 fun t20 w_10 =>
  vextract P t20 0 w_10 fun t21 w_11 => w_11 = w_10 ∧
  vextract P t20 1 w_10 fun _ w_12 => w_12 = w_10 ∧
  vcall P n_impl_number #[t21] w_10 fun t24 w_13 =>
  R t24 w_13
def A_impl_cmpKind_value : Ann := { ord := [(1, [0, 1, 2, 3, 4, 5, 6, 7, 8, 9, 10, 11, 12, 13], [(0, [1, 8, 9, 10, 11, 12, 13]), (1, [8, 9, 10, 11, 12, 13]), (2, [3, 4, 8, 9, 10, 11, 12, 13]), (3, [4, 8, 9, 10, 11, 12, 13]), (4, [8, 9, 10, 11, 12, 13]), (5, [6, 7, 8, 9, 10, 11, 12, 13]), (6, [7, 8, 9, 10, 11, 12, 13]), (7, [8, 9, 10, 11, 12, 13]), (8, [9, 10, 11, 12, 13]), (9, [10, 11, 12, 13]), (10, [12, 13]), (11, [13]), (12, [13])])], loops := [], cuts := [] }
theorem k_impl_cmpKind_value (v0 v1 v2 v3 : Value) (w : World) (R : Value → World → Prop) : vc PP A_impl_cmpKind_value ((Tryz.f237.body).getD .skip) (retF PP Tryz.f237.results.toList R) (nthV [v0, v1, v2, v3]) w = F_impl_cmpKind_value PP v0 v1 v2 v3 w R := by kernel_rfl
theorem c_impl_cmpKind_value {v0 v1 v2 v3 : Value} {w : World} {R : Value → World → Prop} (h : F_impl_cmpKind_value PP v0 v1 v2 v3 w R) : vcall PP n_impl_cmpKind_value #[v0, v1, v2, v3] w R :=
  call_of_vc (T := A_impl_cmpKind_value) (c := (Tryz.f237.body).getD .skip) (n := 25) mixed Tryz.func237 rfl rfl (by kernel_rfl) (by kernel_rfl) rfl (by rw [k_impl_cmpKind_value]; exact h)

/-- impl.number -/
def F_impl_number (P : Program) (v0 : Value) (w : World) (R : Value → World → Prop) : Prop :=
  vif v0 (
    R (.int .i64 1) w) (
    R (.int .i64 0) w)
def A_impl_number : Ann := { ord := [], loops := [], cuts := [] }
theorem k_impl_number (v0 : Value) (w : World) (R : Value → World → Prop) : vc PP A_impl_number ((Tryz.f238.body).getD .skip) (retF PP Tryz.f238.results.toList R) (nthV [v0]) w = F_impl_number PP v0 w R := by kernel_rfl
theorem c_impl_number {v0 : Value} {w : World} {R : Value → World → Prop} (h : F_impl_number PP v0 w R) : vcall PP n_impl_number #[v0] w R :=
  call_of_vc (T := A_impl_number) (c := (Tryz.f238.body).getD .skip) (n := 4) mixed Tryz.func238 rfl rfl (by kernel_rfl) (by kernel_rfl) rfl (by rw [k_impl_number]; exact h)

/-- (impl.vecKind).sort -/
def F_impl_vecKind_sort (P : Program) (v0 v1 v2 v3 : Value) (w : World) (R : Value → World → Prop) : Prop :=
  vbox P T_impl_vecKind v0 w fun _ w_1 =>
  vbox P T_impl_Term v2 w_1 fun t6 w_2 =>
  vdraw w_2 fun w_3 =>
  vfaddr P T_impl_Term t6 1 w_3 fun t9 w_4 => w_4 = w_3 ∧
  vload P T_int t9 w_3 fun t10 w_5 => w_5 = w_3 ∧
  vfaddr P T_impl_Term t6 2 w_3 fun t11 w_6 => w_6 = w_3 ∧
  vload P T_int t11 w_3 fun t12 w_7 => w_7 = w_3 ∧
  vbuild P T_impl_Vec [(0, t10), (1, t12)] w_3 fun t13 w_8 => w_8 = w_3 ∧
  vfaddr P T_impl_Term t6 1 w_3 fun t15 w_9 => w_9 = w_3 ∧
  vload P T_int t15 w_3 fun t16 w_10 => w_10 = w_3 ∧
  vcall P n_impl_VecOk #[t13] w_3 fun t14 w_11 => (vload P T_int t15 w_11 fun v x => v = t16 ∧ x = w_11) ∧ (vfaddr P T_impl_Term t6 1 w_11 fun v x => v = t15 ∧ x = w_11) ∧
  vcall P n_impl_sorted #[t14, t16] w_11 fun t17 w_12 =>
  R t17 w_12
def A_impl_vecKind_sort : Ann := { ord := [(1, [0, 1, 2, 3, 4, 6, 7, 5, 8, 9], [(0, [1, 4, 5, 8, 9]), (1, [4, 5, 8, 9]), (2, [3, 4, 5, 8, 9]), (3, [4, 5, 8, 9]), (4, [5, 8, 9]), (6, [7, 8, 9]), (7, [8, 9]), (5, [8, 9]), (8, [9])])], loops := [], cuts := [] }
theorem k_impl_vecKind_sort (v0 v1 v2 v3 : Value) (w : World) (R : Value → World → Prop) : vc PP A_impl_vecKind_sort ((Tryz.f239.body).getD .skip) (retF PP Tryz.f239.results.toList R) (nthV [v0, v1, v2, v3]) w = F_impl_vecKind_sort PP v0 v1 v2 v3 w R := by kernel_rfl
theorem c_impl_vecKind_sort {v0 v1 v2 v3 : Value} {w : World} {R : Value → World → Prop} (h : F_impl_vecKind_sort PP v0 v1 v2 v3 w R) : vcall PP n_impl_vecKind_sort #[v0, v1, v2, v3] w R :=
  call_of_vc (T := A_impl_vecKind_sort) (c := (Tryz.f239.body).getD .skip) (n := 18) mixed Tryz.func239 rfl rfl (by kernel_rfl) (by kernel_rfl) rfl (by rw [k_impl_vecKind_sort]; exact h)

/-- (impl.vecKind).value -/
def F_impl_vecKind_value (P : Program) (v0 v1 v2 v3 : Value) (w : World) (R : Value → World → Prop) : Prop :=
  vbox P T_impl_vecKind v0 w fun _ w_1 =>
  vbox P T_impl_Term v2 w_1 fun t6 w_2 =>
  vfaddr P T_impl_Term t6 2 w_2 fun t9 w_3 =>
  vload P T_int t9 w_3 fun t10 w_4 =>
  R t10 w_4
def A_impl_vecKind_value : Ann := { ord := [], loops := [], cuts := [] }
theorem k_impl_vecKind_value (v0 v1 v2 v3 : Value) (w : World) (R : Value → World → Prop) : vc PP A_impl_vecKind_value ((Tryz.f240.body).getD .skip) (retF PP Tryz.f240.results.toList R) (nthV [v0, v1, v2, v3]) w = F_impl_vecKind_value PP v0 v1 v2 v3 w R := by kernel_rfl
theorem c_impl_vecKind_value {v0 v1 v2 v3 : Value} {w : World} {R : Value → World → Prop} (h : F_impl_vecKind_value PP v0 v1 v2 v3 w R) : vcall PP n_impl_vecKind_value #[v0, v1, v2, v3] w R :=
  call_of_vc (T := A_impl_vecKind_value) (c := (Tryz.f240.body).getD .skip) (n := 11) mixed Tryz.func240 rfl rfl (by kernel_rfl) (by kernel_rfl) rfl (by rw [k_impl_vecKind_value]; exact h)

/-- (impl.nameKind).sort -/
def F_impl_nameKind_sort (P : Program) (v0 v1 v2 v3 : Value) (w : World) (R : Value → World → Prop) : Prop :=
  vbox P T_impl_nameKind v0 w fun _ w_1 =>
  vbox P T_impl_Term v2 w_1 fun t6 w_2 =>
  vmkF P (.func n_impl_nameKind_sort_1) [] [t6] w_2 fun t11 w_3 =>
  vcall P n_slices_IndexFunc_Limpl_Decl_impl_Decl #[v1, t11] w_3 fun t12 w_4 =>
  vbin P .lss T_int true t12 (.int .i64 0) w_4 fun t14 w_5 =>
  vif t14 (
    R (.int .i64 (-1)) w_5) (
    viaddr P T_Limpl_Decl v1 t12 w_5 fun t17 w_6 =>
    vfaddr P T_impl_Decl t17 1 w_6 fun t18 w_7 =>
    vload P T_int t18 w_7 fun t19 w_8 =>
    R t19 w_8)
def A_impl_nameKind_sort : Ann := { ord := [], loops := [], cuts := [] }
theorem k_impl_nameKind_sort (v0 v1 v2 v3 : Value) (w : World) (R : Value → World → Prop) : vc PP A_impl_nameKind_sort ((Tryz.f241.body).getD .skip) (retF PP Tryz.f241.results.toList R) (nthV [v0, v1, v2, v3]) w = F_impl_nameKind_sort PP v0 v1 v2 v3 w R := by kernel_rfl
theorem c_impl_nameKind_sort {v0 v1 v2 v3 : Value} {w : World} {R : Value → World → Prop} (h : F_impl_nameKind_sort PP v0 v1 v2 v3 w R) : vcall PP n_impl_nameKind_sort #[v0, v1, v2, v3] w R :=
  call_of_vc (T := A_impl_nameKind_sort) (c := (Tryz.f241.body).getD .skip) (n := 20) mixed Tryz.func241 rfl rfl (by kernel_rfl) (by kernel_rfl) rfl (by rw [k_impl_nameKind_sort]; exact h)

/-- (impl.nameKind).value -/
def F_impl_nameKind_value (P : Program) (v0 v1 v2 v3 : Value) (w : World) (R : Value → World → Prop) : Prop :=
  vbox P T_impl_nameKind v0 w fun _ w_1 =>
  vbox P T_impl_Term v2 w_1 fun t6 w_2 =>
  vfaddr P T_impl_Term t6 3 w_2 fun t10 w_3 =>
  vload P T_string t10 w_3 fun t11 w_4 =>
  vlook P T_M_map_string_int v1 t11 false w_4 fun t12 w_5 =>
  R t12 w_5
def A_impl_nameKind_value : Ann := { ord := [], loops := [], cuts := [] }
theorem k_impl_nameKind_value (v0 v1 v2 v3 : Value) (w : World) (R : Value → World → Prop) : vc PP A_impl_nameKind_value ((Tryz.f242.body).getD .skip) (retF PP Tryz.f242.results.toList R) (nthV [v0, v1, v2, v3]) w = F_impl_nameKind_value PP v0 v1 v2 v3 w R := by kernel_rfl
theorem c_impl_nameKind_value {v0 v1 v2 v3 : Value} {w : World} {R : Value → World → Prop} (h : F_impl_nameKind_value PP v0 v1 v2 v3 w R) : vcall PP n_impl_nameKind_value #[v0, v1, v2, v3] w R :=
  call_of_vc (T := A_impl_nameKind_value) (c := (Tryz.f242.body).getD .skip) (n := 13) mixed Tryz.func242 rfl rfl (by kernel_rfl) (by kernel_rfl) rfl (by rw [k_impl_nameKind_value]; exact h)

/-- (impl.nameKind).sort$1 -/
def F_impl_nameKind_sort_1 (P : Program) (v0 v1 : Value) (w : World) (R : Value → World → Prop) : Prop :=
  vbox P T_impl_Decl v0 w fun t2 w_1 =>
  vfaddr P T_impl_Decl t2 0 w_1 fun t4 w_2 =>
  vload P T_string t4 w_2 fun t5 w_3 =>
  vfaddr P T_impl_Term v1 3 w_3 fun t6 w_4 =>
  vload P T_string t6 w_4 fun t7 w_5 =>
  vbin P .eql T_string false t5 t7 w_5 fun t8 w_6 =>
  R t8 w_6
def A_impl_nameKind_sort_1 : Ann := { ord := [], loops := [], cuts := [] }
theorem k_impl_nameKind_sort_1 (v0 v1 : Value) (w : World) (R : Value → World → Prop) : vc PP A_impl_nameKind_sort_1 ((Tryz.f243.body).getD .skip) (retF PP Tryz.f243.results.toList R) (nthV [v0, v1]) w = F_impl_nameKind_sort_1 PP v0 v1 w R := by kernel_rfl
theorem c_impl_nameKind_sort_1 {v0 v1 : Value} {w : World} {R : Value → World → Prop} (h : F_impl_nameKind_sort_1 PP v0 v1 w R) : vcall PP n_impl_nameKind_sort_1 #[v0, v1] w R :=
  call_of_vc (T := A_impl_nameKind_sort_1) (c := (Tryz.f243.body).getD .skip) (n := 9) mixed Tryz.func243 rfl rfl (by kernel_rfl) (by kernel_rfl) rfl (by rw [k_impl_nameKind_sort_1]; exact h)

/-- (impl.cutKind).sort -/
def F_impl_cutKind_sort (P : Program) (v0 v1 v2 v3 : Value) (w : World) (R : Value → World → Prop) : Prop :=
  vbox P T_impl_cutKind v0 w fun _ w_1 =>
  vbox P T_impl_Term v2 w_1 fun t6 w_2 =>
  vdraw w_2 fun w_3 =>
  vfaddr P T_impl_Term t6 2 w_3 fun t9 w_4 => w_4 = w_3 ∧
  vload P T_int t9 w_3 fun t10 w_5 => w_5 = w_3 ∧
  vbin P .geq T_int true t10 (.int .i64 0) w_3 fun t11 w_6 => w_6 = w_3 ∧
  vif t11 (
    vfaddr P T_impl_Term t6 1 w_3 fun t13 w_7 => w_7 = w_3 ∧
    vload P T_int t13 w_3 fun t14 w_8 => w_8 = w_3 ∧
    vfaddr P T_impl_Term t6 2 w_3 fun t15 w_9 => w_9 = w_3 ∧
    vload P T_int t15 w_3 fun t16 w_10 => w_10 = w_3 ∧
    vbin P .geq T_int false t14 t16 w_3 fun t17 w_11 => w_11 = w_3 ∧
    vif t17 (
      vfaddr P T_impl_Term t6 1 w_3 fun t20 w_12 => w_12 = w_3 ∧
      vload P T_int t20 w_3 fun t21 w_13 => w_13 = w_3 ∧
      viaddr P T_Lint v3 (.int .i64 0) w_3 fun t23 w_14 => w_14 = w_3 ∧
      vload P T_int t23 w_3 fun t24 w_15 => w_15 = w_3 ∧
      vbin P .lss T_int false t21 t24 w_3 fun t25 w_16 => w_16 = w_3 ∧
      vfaddr P T_impl_Term t6 1 w_3 fun t27 w_17 => w_17 = w_3 ∧
      vload P T_int t27 w_3 fun t28 w_18 => w_18 = w_3 ∧
      vfaddr P T_impl_Term t6 2 w_3 fun t29 w_19 => w_19 = w_3 ∧
      vload P T_int t29 w_3 fun t30 w_20 => w_20 = w_3 ∧
      vbin P .sub T_int false t28 t30 w_3 fun t31 w_21 => w_21 = w_3 ∧
      vbin P .add T_int true t31 (.int .i64 1) w_3 fun t32 w_22 => w_22 = w_3 ∧
      vcall P n_impl_sorted #[t25, t32] w_3 fun t33 w_23 =>
      R t33 w_23) (
      vfaddr P T_impl_Term t6 1 w_3 fun t27_1 w_24 => w_24 = w_3 ∧
      vload P T_int t27_1 w_3 fun t28_1 w_25 => w_25 = w_3 ∧
      vfaddr P T_impl_Term t6 2 w_3 fun t29_1 w_26 => w_26 = w_3 ∧
      vload P T_int t29_1 w_3 fun t30_1 w_27 => w_27 = w_3 ∧
      vbin P .sub T_int false t28_1 t30_1 w_3 fun t31_1 w_28 => w_28 = w_3 ∧
      vbin P .add T_int true t31_1 (.int .i64 1) w_3 fun t32_1 w_29 => w_29 = w_3 ∧
      vcall P n_impl_sorted #[(.bool false), t32_1] w_3 fun t33_1 w_30 =>
      R t33_1 w_30)) (
    vfaddr P T_impl_Term t6 1 w_3 fun t27_2 w_31 => w_31 = w_3 ∧
    vload P T_int t27_2 w_3 fun t28_2 w_32 => w_32 = w_3 ∧
    vfaddr P T_impl_Term t6 2 w_3 fun t29_2 w_33 => w_33 = w_3 ∧
    vload P T_int t29_2 w_3 fun t30_2 w_34 => w_34 = w_3 ∧
    vbin P .sub T_int false t28_2 t30_2 w_3 fun t31_2 w_35 => w_35 = w_3 ∧
    vbin P .add T_int true t31_2 (.int .i64 1) w_3 fun t32_2 w_36 => w_36 = w_3 ∧
    vcall P n_impl_sorted #[(.bool false), t32_2] w_3 fun t33_2 w_37 =>
    R t33_2 w_37)
def A_impl_cutKind_sort : Ann := { ord := [(1, [0, 1, 2, 3, 4, 5, 6, 7, 8, 9, 10, 11, 12, 13, 14, 15, 16, 17, 18, 19, 20, 21, 22, 23, 24, 25], [(0, [1, 2, 3, 4, 5, 6, 7, 8, 9, 10, 11, 12, 13, 14, 15, 16, 17, 24, 25]), (1, [2, 3, 4, 5, 6, 7, 8, 9, 10, 11, 12, 13, 14, 15, 16, 17, 24, 25]), (2, [3, 4, 5, 6, 7, 8, 9, 10, 11, 12, 13, 14, 15, 16, 17, 24, 25]), (3, [4, 5, 6, 7, 8, 9, 10, 11, 12, 13, 14, 15, 16, 17, 24, 25]), (4, [5, 8, 9, 10, 11, 12, 13, 14, 15, 16, 17, 24, 25]), (5, [8, 9, 10, 11, 12, 13, 14, 15, 16, 17, 24, 25]), (6, [7, 8, 9, 10, 11, 12, 13, 14, 15, 16, 17, 24, 25]), (7, [8, 9, 10, 11, 12, 13, 14, 15, 16, 17, 24, 25]), (8, [9, 10, 11, 12, 13, 14, 15, 16, 17, 24, 25]), (9, [10, 11, 12, 13, 14, 15, 16, 17, 24, 25]), (10, [11, 12, 13, 14, 15, 16, 17, 24, 25]), (11, [12, 16, 17, 24, 25]), (12, [16, 17, 24, 25]), (13, [14, 15, 16, 17, 24, 25]), (14, [15, 16, 17, 24, 25]), (15, [16, 17, 24, 25]), (16, [17, 24, 25]), (17, [24, 25]), (18, [19, 22, 23, 24, 25]), (19, [22, 23, 24, 25]), (20, [21, 22, 23, 24, 25]), (21, [22, 23, 24, 25]), (22, [23, 24, 25]), (23, [24, 25]), (24, [25])])], loops := [], cuts := [] }
theorem k_impl_cutKind_sort (v0 v1 v2 v3 : Value) (w : World) (R : Value → World → Prop) : vc PP A_impl_cutKind_sort ((Tryz.f244.body).getD .skip) (retF PP Tryz.f244.results.toList R) (nthV [v0, v1, v2, v3]) w = F_impl_cutKind_sort PP v0 v1 v2 v3 w R := by kernel_rfl
theorem c_impl_cutKind_sort {v0 v1 v2 v3 : Value} {w : World} {R : Value → World → Prop} (h : F_impl_cutKind_sort PP v0 v1 v2 v3 w R) : vcall PP n_impl_cutKind_sort #[v0, v1, v2, v3] w R :=
  call_of_vc (T := A_impl_cutKind_sort) (c := (Tryz.f244.body).getD .skip) (n := 34) mixed Tryz.func244 rfl rfl (by kernel_rfl) (by kernel_rfl) rfl (by rw [k_impl_cutKind_sort]; exact h)

/-- (impl.cutKind).value -/
def F_impl_cutKind_value (P : Program) (v0 v1 v2 v3 : Value) (w : World) (R : Value → World → Prop) : Prop :=
  vbox P T_impl_cutKind v0 w fun _ w_1 =>
  vbox P T_impl_Term v2 w_1 fun t6 w_2 =>
  vjoin (fun J =>
    vdraw w_2 fun w_4 =>
    viaddr P T_Limpl_Vec v3 (.int .i64 0) w_4 fun t13 w_5 => w_5 = w_4 ∧
    vload P T_impl_Vec t13 w_4 fun t14 w_6 => w_6 = w_4 ∧
    vfaddr P T_impl_Term t6 1 w_4 fun t15 w_7 => w_7 = w_4 ∧
    vload P T_int t15 w_4 fun t16 w_8 => w_8 = w_4 ∧
    vfaddr P T_impl_Term t6 2 w_4 fun t17 w_9 => w_9 = w_4 ∧
    vload P T_int t17 w_4 fun t18 w_10 => w_10 = w_4 ∧
    (vcall P n_impl_VecCut #[t14, t16, t18] w_4 fun t19 w_11 =>
      vextract P t19 0 w_11 fun t20 w_12 => w_12 = w_11 ∧
      vextract P t19 1 w_11 fun t21 w_13 => w_13 = w_11 ∧
      (valloc P T_impl_Vec w_11 fun t9 w_14 => (vextract P t19 1 w_14 fun v x => v = t21 ∧ x = w_14) ∧ (vextract P t19 0 w_14 fun v x => v = t20 ∧ x = w_14) ∧
        (vstore P T_impl_Vec t9 t20 w_14 fun _ w_15 => (vextract P t19 1 w_15 fun v x => v = t21 ∧ x = w_15) ∧
          J [t9] w_15) ∧
        True) ∧
      True) ∧
    (valloc P T_impl_Vec w_4 fun t9_1 w_16 => (vload P T_int t17 w_16 fun v x => v = t18 ∧ x = w_16) ∧ (vfaddr P T_impl_Term t6 2 w_16 fun v x => v = t17 ∧ x = w_16) ∧ (vload P T_int t15 w_16 fun v x => v = t16 ∧ x = w_16) ∧ (vfaddr P T_impl_Term t6 1 w_16 fun v x => v = t15 ∧ x = w_16) ∧ (vload P T_impl_Vec t13 w_16 fun v x => v = t14 ∧ x = w_16) ∧ (viaddr P T_Limpl_Vec v3 (.int .i64 0) w_16 fun v x => v = t13 ∧ x = w_16) ∧
      (vcall P n_impl_VecCut #[t14, t16, t18] w_16 fun t19_1 w_17 =>
        vextract P t19_1 0 w_17 fun t20_1 w_18 => w_18 = w_17 ∧
        vextract P t19_1 1 w_17 fun t21_1 w_19 => w_19 = w_17 ∧
        (vstore P T_impl_Vec t9_1 t20_1 w_17 fun _ w_20 => (vextract P t19_1 1 w_20 fun v x => v = t21_1 ∧ x = w_20) ∧
          J [t9_1] w_20) ∧
        True) ∧
      True) ∧
    True) (fun u _ w_3 =>
    vfaddr P T_impl_Vec (sl 0 u) 1 w_3 fun t22 w_21 =>
    vload P T_int t22 w_21 fun t23 w_22 =>
    R t23 w_22)
def A_impl_cutKind_value : Ann := { ord := [], loops := [], cuts := [(8194, [9])], trees := [(1, (.st 0 (.st 1 (.st 2 (.st 3 (.st 4 (.st 5 (.st 6 (.alt 7 (.st 8 (.st 9 (.st 10 (.alt 11 (.alt 12 (.st 13 .nil) .no) .no)))) (.alt 11 (.alt 7 (.st 8 (.st 9 (.st 10 (.alt 12 (.st 13 .nil) .no)))) .no) .no))))))))), [(0, [1, 2, 7, 8, 9, 10, 12, 13]), (1, [2, 7, 8, 9, 10, 12, 13]), (2, [7, 8, 9, 10, 12, 13]), (3, [4, 7, 8, 9, 10, 12, 13]), (4, [7, 8, 9, 10, 12, 13]), (5, [6, 7, 8, 9, 10, 12, 13]), (6, [7, 8, 9, 10, 12, 13]), (7, [8, 9, 10, 12, 13]), (8, [9, 10, 12, 13]), (9, [12, 13]), (10, [13]), (11, [12, 13]), (12, [13])])] }
theorem k_impl_cutKind_value (v0 v1 v2 v3 : Value) (w : World) (R : Value → World → Prop) : vc PP A_impl_cutKind_value ((Tryz.f245.body).getD .skip) (retF PP Tryz.f245.results.toList R) (nthV [v0, v1, v2, v3]) w = F_impl_cutKind_value PP v0 v1 v2 v3 w R := by kernel_rfl
theorem c_impl_cutKind_value {v0 v1 v2 v3 : Value} {w : World} {R : Value → World → Prop} (h : F_impl_cutKind_value PP v0 v1 v2 v3 w R) : vcall PP n_impl_cutKind_value #[v0, v1, v2, v3] w R :=
  call_of_vc (T := A_impl_cutKind_value) (c := (Tryz.f245.body).getD .skip) (n := 24) mixed Tryz.func245 rfl rfl (by kernel_rfl) (by kernel_rfl) rfl (by rw [k_impl_cutKind_value]; exact h)

/-- (impl.ifKind).sort -/
def F_impl_ifKind_sort (P : Program) (v0 v1 v2 v3 : Value) (w : World) (R : Value → World → Prop) : Prop :=
  vbox P T_impl_ifKind v0 w fun _ w_1 =>
  vbox P T_impl_Term v2 w_1 fun _ w_2 =>
  vdraw w_2 fun w_3 =>
  viaddr P T_Lint v3 (.int .i64 0) w_3 fun t10 w_4 => w_4 = w_3 ∧
  vload P T_int t10 w_3 fun t11 w_5 => w_5 = w_3 ∧
  vbin P .eql T_int true t11 (.int .i64 0) w_3 fun t12 w_6 => w_6 = w_3 ∧
  vif t12 (
    viaddr P T_Lint v3 (.int .i64 1) w_3 fun t15 w_7 => w_7 = w_3 ∧
    vload P T_int t15 w_3 fun t16 w_8 => w_8 = w_3 ∧
    viaddr P T_Lint v3 (.int .i64 2) w_3 fun t18 w_9 => w_9 = w_3 ∧
    vload P T_int t18 w_3 fun t19 w_10 => w_10 = w_3 ∧
    vbin P .eql T_int false t16 t19 w_3 fun t20 w_11 => w_11 = w_3 ∧
    viaddr P T_Lint v3 (.int .i64 1) w_3 fun t23 w_12 => w_12 = w_3 ∧
    vload P T_int t23 w_3 fun t24 w_13 => w_13 = w_3 ∧
    vcall P n_impl_sorted #[t20, t24] w_3 fun t25 w_14 =>
    R t25 w_14) (
    viaddr P T_Lint v3 (.int .i64 1) w_3 fun t23_1 w_15 => w_15 = w_3 ∧
    vload P T_int t23_1 w_3 fun t24_1 w_16 => w_16 = w_3 ∧
    vcall P n_impl_sorted #[(.bool false), t24_1] w_3 fun t25_1 w_17 =>
    R t25_1 w_17)
def A_impl_ifKind_sort : Ann := { ord := [(1, [0, 1, 2, 3, 4, 5, 6, 7, 8, 9, 10, 11, 12, 13, 14, 15, 16, 17], [(0, [1, 2, 3, 4, 5, 6, 7, 8, 9, 10, 11, 12, 16, 17]), (1, [2, 3, 4, 5, 6, 7, 8, 9, 10, 11, 12, 16, 17]), (2, [3, 4, 5, 6, 7, 8, 9, 10, 11, 12, 16, 17]), (3, [4, 5, 6, 7, 8, 9, 10, 11, 12, 16, 17]), (4, [5, 6, 7, 8, 9, 10, 11, 12, 16, 17]), (5, [6, 7, 11, 12, 16, 17]), (6, [7, 11, 12, 16, 17]), (7, [11, 12, 16, 17]), (8, [9, 10, 11, 12, 16, 17]), (9, [10, 11, 12, 16, 17]), (10, [11, 12, 16, 17]), (11, [12, 16, 17]), (12, [16, 17]), (13, [14, 15, 16, 17]), (14, [15, 16, 17]), (15, [16, 17]), (16, [17])])], loops := [], cuts := [] }
theorem k_impl_ifKind_sort (v0 v1 v2 v3 : Value) (w : World) (R : Value → World → Prop) : vc PP A_impl_ifKind_sort ((Tryz.f246.body).getD .skip) (retF PP Tryz.f246.results.toList R) (nthV [v0, v1, v2, v3]) w = F_impl_ifKind_sort PP v0 v1 v2 v3 w R := by kernel_rfl
theorem c_impl_ifKind_sort {v0 v1 v2 v3 : Value} {w : World} {R : Value → World → Prop} (h : F_impl_ifKind_sort PP v0 v1 v2 v3 w R) : vcall PP n_impl_ifKind_sort #[v0, v1, v2, v3] w R :=
  call_of_vc (T := A_impl_ifKind_sort) (c := (Tryz.f246.body).getD .skip) (n := 26) mixed Tryz.func246 rfl rfl (by kernel_rfl) (by kernel_rfl) rfl (by rw [k_impl_ifKind_sort]; exact h)

/-- (impl.ifKind).value -/
def F_impl_ifKind_value (P : Program) (v0 v1 v2 v3 : Value) (w : World) (R : Value → World → Prop) : Prop :=
  vbox P T_impl_ifKind v0 w fun _ w_1 =>
  vbox P T_impl_Term v2 w_1 fun _ w_2 =>
  viaddr P T_Limpl_Vec v3 (.int .i64 0) w_2 fun t10 w_3 =>
  vfaddr P T_impl_Vec t10 1 w_3 fun t11 w_4 =>
  vload P T_int t11 w_4 fun t12 w_5 =>
  vbin P .eql T_int true t12 (.int .i64 1) w_5 fun t13 w_6 =>
  vif t13 (
    viaddr P T_Limpl_Vec v3 (.int .i64 1) w_6 fun t15 w_7 =>
    vfaddr P T_impl_Vec t15 1 w_7 fun t16 w_8 =>
    vload P T_int t16 w_8 fun t17 w_9 =>
    R t17 w_9) (
    viaddr P T_Limpl_Vec v3 (.int .i64 2) w_6 fun t19 w_10 =>
    vfaddr P T_impl_Vec t19 1 w_10 fun t20 w_11 =>
    vload P T_int t20 w_11 fun t21 w_12 =>
    R t21 w_12)
def A_impl_ifKind_value : Ann := { ord := [], loops := [], cuts := [] }
theorem k_impl_ifKind_value (v0 v1 v2 v3 : Value) (w : World) (R : Value → World → Prop) : vc PP A_impl_ifKind_value ((Tryz.f247.body).getD .skip) (retF PP Tryz.f247.results.toList R) (nthV [v0, v1, v2, v3]) w = F_impl_ifKind_value PP v0 v1 v2 v3 w R := by kernel_rfl
theorem c_impl_ifKind_value {v0 v1 v2 v3 : Value} {w : World} {R : Value → World → Prop} (h : F_impl_ifKind_value PP v0 v1 v2 v3 w R) : vcall PP n_impl_ifKind_value #[v0, v1, v2, v3] w R :=
  call_of_vc (T := A_impl_ifKind_value) (c := (Tryz.f247.body).getD .skip) (n := 22) mixed Tryz.func247 rfl rfl (by kernel_rfl) (by kernel_rfl) rfl (by rw [k_impl_ifKind_value]; exact h)

/-- (impl.boolKind).sort -/
def F_impl_boolKind_sort (P : Program) (v0 v1 v2 v3 : Value) (w : World) (R : Value → World → Prop) : Prop :=
  vbox P T_impl_boolKind v0 w fun _ w_1 =>
  vbox P T_impl_Term v2 w_1 fun _ w_2 =>
  vcall P n_slices_ContainsFunc_Lint_int #[v3, (.func (.func n_impl_boolKind_sort_1) #[] #[])] w_2 fun t10 w_3 =>
  vun P .not t10 w_3 fun t11 w_4 =>
  vcall P n_impl_sorted #[t11, (.int .i64 0)] w_4 fun t12 w_5 =>
  R t12 w_5
def A_impl_boolKind_sort : Ann := { ord := [], loops := [], cuts := [] }
theorem k_impl_boolKind_sort (v0 v1 v2 v3 : Value) (w : World) (R : Value → World → Prop) : vc PP A_impl_boolKind_sort ((Tryz.f248.body).getD .skip) (retF PP Tryz.f248.results.toList R) (nthV [v0, v1, v2, v3]) w = F_impl_boolKind_sort PP v0 v1 v2 v3 w R := by kernel_rfl
theorem c_impl_boolKind_sort {v0 v1 v2 v3 : Value} {w : World} {R : Value → World → Prop} (h : F_impl_boolKind_sort PP v0 v1 v2 v3 w R) : vcall PP n_impl_boolKind_sort #[v0, v1, v2, v3] w R :=
  call_of_vc (T := A_impl_boolKind_sort) (c := (Tryz.f248.body).getD .skip) (n := 13) mixed Tryz.func248 rfl rfl (by kernel_rfl) (by kernel_rfl) rfl (by rw [k_impl_boolKind_sort]; exact h)

/-- (impl.boolKind).value -/
def F_impl_boolKind_value (P : Program) (v0 v1 v2 v3 : Value) (w : World) (R : Value → World → Prop) : Prop :=
  vbox P T_impl_boolKind v0 w fun t4 w_1 =>
  vbox P T_impl_Term v2 w_1 fun _ w_2 =>
  vfaddr P T_impl_boolKind t4 1 w_2 fun t9 w_3 =>
  vload P T_F_func_Limpl_Vec_bool t9 w_3 fun t10 w_4 =>
  vcallv P t10 #[v3] w_4 fun t12 w_5 =>
  vcall P n_impl_number #[t12] w_5 fun t13 w_6 =>
  R t13 w_6
def A_impl_boolKind_value : Ann := { ord := [], loops := [], cuts := [] }
theorem k_impl_boolKind_value (v0 v1 v2 v3 : Value) (w : World) (R : Value → World → Prop) : vc PP A_impl_boolKind_value ((Tryz.f249.body).getD .skip) (retF PP Tryz.f249.results.toList R) (nthV [v0, v1, v2, v3]) w = F_impl_boolKind_value PP v0 v1 v2 v3 w R := by kernel_rfl
theorem c_impl_boolKind_value {v0 v1 v2 v3 : Value} {w : World} {R : Value → World → Prop} (h : F_impl_boolKind_value PP v0 v1 v2 v3 w R) : vcall PP n_impl_boolKind_value #[v0, v1, v2, v3] w R :=
  call_of_vc (T := A_impl_boolKind_value) (c := (Tryz.f249.body).getD .skip) (n := 14) mixed Tryz.func249 rfl rfl (by kernel_rfl) (by kernel_rfl) rfl (by rw [k_impl_boolKind_value]; exact h)

/-- slices.ContainsFunc[[]int,int] -/
def F_slices_ContainsFunc_Lint_int (P : Program) (v0 v1 : Value) (w : World) (R : Value → World → Prop) : Prop :=
  vcall P n_slices_IndexFunc_Lint_int #[v0, v1] w fun t7 w_1 =>
  vbin P .geq T_int true t7 (.int .i64 0) w_1 fun t8 w_2 =>
  R t8 w_2
def A_slices_ContainsFunc_Lint_int : Ann := { ord := [], loops := [], cuts := [] }
theorem k_slices_ContainsFunc_Lint_int (v0 v1 : Value) (w : World) (R : Value → World → Prop) : vc PP A_slices_ContainsFunc_Lint_int ((Tryz.f250.body).getD .skip) (retF PP Tryz.f250.results.toList R) (nthV [v0, v1]) w = F_slices_ContainsFunc_Lint_int PP v0 v1 w R := by kernel_rfl
theorem c_slices_ContainsFunc_Lint_int {v0 v1 : Value} {w : World} {R : Value → World → Prop} (h : F_slices_ContainsFunc_Lint_int PP v0 v1 w R) : vcall PP n_slices_ContainsFunc_Lint_int #[v0, v1] w R :=
  call_of_vc (T := A_slices_ContainsFunc_Lint_int) (c := (Tryz.f250.body).getD .skip) (n := 9) mixed Tryz.func250 rfl rfl (by kernel_rfl) (by kernel_rfl) rfl (by rw [k_slices_ContainsFunc_Lint_int]; exact h)

/-- (impl.boolKind).sort$1 -/
def F_impl_boolKind_sort_1 (P : Program) (v0 : Value) (w : World) (R : Value → World → Prop) : Prop :=
  vbin P .neq T_int true v0 (.int .i64 0) w fun t4 w_1 =>
  R t4 w_1
def A_impl_boolKind_sort_1 : Ann := { ord := [], loops := [], cuts := [] }
theorem k_impl_boolKind_sort_1 (v0 : Value) (w : World) (R : Value → World → Prop) : vc PP A_impl_boolKind_sort_1 ((Tryz.f251.body).getD .skip) (retF PP Tryz.f251.results.toList R) (nthV [v0]) w = F_impl_boolKind_sort_1 PP v0 w R := by kernel_rfl
theorem c_impl_boolKind_sort_1 {v0 : Value} {w : World} {R : Value → World → Prop} (h : F_impl_boolKind_sort_1 PP v0 w R) : vcall PP n_impl_boolKind_sort_1 #[v0] w R :=
  call_of_vc (T := A_impl_boolKind_sort_1) (c := (Tryz.f251.body).getD .skip) (n := 5) mixed Tryz.func251 rfl rfl (by kernel_rfl) (by kernel_rfl) rfl (by rw [k_impl_boolKind_sort_1]; exact h)

/-- slices.IndexFunc[[]int,int] -/
def F_slices_IndexFunc_Lint_int (P : Program) (v0 v1 : Value) (w : World) (R : Value → World → Prop) : Prop :=
  vbi P .len [T_Lint] T_int [v0] w fun t7 w_1 =>
  vloop [(.int .i64 0)] w_1 fun C u _ w_2 =>
    vbin P .lss T_int false (sl 0 u) t7 w_2 fun t9 w_3 =>
    vif t9 (
      viaddr P T_Lint v0 (sl 0 u) w_3 fun t14 w_4 =>
      vload P T_int t14 w_4 fun t15 w_5 =>
      vcallv P v1 #[t15] w_5 fun t16 w_6 =>
      vif t16 (
        R (sl 0 u) w_6) (
        vbin P .add T_int true (sl 0 u) (.int .i64 1) w_6 fun t18 w_7 =>
        C [t18] w_7)) (
      R (.int .i64 (-1)) w_3)
def A_slices_IndexFunc_Lint_int : Ann := { ord := [], loops := [(2, [8])], cuts := [] }
theorem k_slices_IndexFunc_Lint_int (v0 v1 : Value) (w : World) (R : Value → World → Prop) : vc PP A_slices_IndexFunc_Lint_int ((Tryz.f252.body).getD .skip) (retF PP Tryz.f252.results.toList R) (nthV [v0, v1]) w = F_slices_IndexFunc_Lint_int PP v0 v1 w R := by kernel_rfl
theorem c_slices_IndexFunc_Lint_int {v0 v1 : Value} {w : World} {R : Value → World → Prop} (h : F_slices_IndexFunc_Lint_int PP v0 v1 w R) : vcall PP n_slices_IndexFunc_Lint_int #[v0, v1] w R :=
  call_of_vc (T := A_slices_IndexFunc_Lint_int) (c := (Tryz.f252.body).getD .skip) (n := 19) mixed Tryz.func252 rfl rfl (by kernel_rfl) (by kernel_rfl) rfl (by rw [k_slices_IndexFunc_Lint_int]; exact h)

/-- (impl.binKind).sort -/
def F_impl_binKind_sort (P : Program) (v0 v1 v2 v3 : Value) (w : World) (R : Value → World → Prop) : Prop :=
  vbox P T_impl_binKind v0 w fun _ w_1 =>
  vbox P T_impl_Term v2 w_1 fun _ w_2 =>
  vdraw w_2 fun w_3 =>
  viaddr P T_Lint v3 (.int .i64 0) w_3 fun t10 w_4 => w_4 = w_3 ∧
  vload P T_int t10 w_3 fun t11 w_5 => w_5 = w_3 ∧
  vbin P .gtr T_int true t11 (.int .i64 0) w_3 fun t12 w_6 => w_6 = w_3 ∧
  vif t12 (
    viaddr P T_Lint v3 (.int .i64 0) w_3 fun t15 w_7 => w_7 = w_3 ∧
    vload P T_int t15 w_3 fun t16 w_8 => w_8 = w_3 ∧
    viaddr P T_Lint v3 (.int .i64 1) w_3 fun t18 w_9 => w_9 = w_3 ∧
    vload P T_int t18 w_3 fun t19 w_10 => w_10 = w_3 ∧
    vbin P .eql T_int false t16 t19 w_3 fun t20 w_11 => w_11 = w_3 ∧
    viaddr P T_Lint v3 (.int .i64 0) w_3 fun t23 w_12 => w_12 = w_3 ∧
    vload P T_int t23 w_3 fun t24 w_13 => w_13 = w_3 ∧
    vcall P n_impl_sorted #[t20, t24] w_3 fun t25 w_14 =>
    R t25 w_14) (
    viaddr P T_Lint v3 (.int .i64 0) w_3 fun t23_1 w_15 => w_15 = w_3 ∧
    vload P T_int t23_1 w_3 fun t24_1 w_16 => w_16 = w_3 ∧
    vcall P n_impl_sorted #[(.bool false), t24_1] w_3 fun t25_1 w_17 =>
    R t25_1 w_17)
def A_impl_binKind_sort : Ann := { ord := [(1, [0, 1, 2, 3, 4, 5, 6, 7, 8, 9, 10, 11, 12, 13, 14, 15, 16, 17], [(0, [1, 2, 3, 4, 5, 6, 7, 8, 9, 10, 11, 12, 16, 17]), (1, [2, 3, 4, 5, 6, 7, 8, 9, 10, 11, 12, 16, 17]), (2, [3, 4, 5, 6, 7, 8, 9, 10, 11, 12, 16, 17]), (3, [4, 5, 6, 7, 8, 9, 10, 11, 12, 16, 17]), (4, [5, 6, 7, 8, 9, 10, 11, 12, 16, 17]), (5, [6, 7, 11, 12, 16, 17]), (6, [7, 11, 12, 16, 17]), (7, [11, 12, 16, 17]), (8, [9, 10, 11, 12, 16, 17]), (9, [10, 11, 12, 16, 17]), (10, [11, 12, 16, 17]), (11, [12, 16, 17]), (12, [16, 17]), (13, [14, 15, 16, 17]), (14, [15, 16, 17]), (15, [16, 17]), (16, [17])])], loops := [], cuts := [] }
theorem k_impl_binKind_sort (v0 v1 v2 v3 : Value) (w : World) (R : Value → World → Prop) : vc PP A_impl_binKind_sort ((Tryz.f253.body).getD .skip) (retF PP Tryz.f253.results.toList R) (nthV [v0, v1, v2, v3]) w = F_impl_binKind_sort PP v0 v1 v2 v3 w R := by kernel_rfl
theorem c_impl_binKind_sort {v0 v1 v2 v3 : Value} {w : World} {R : Value → World → Prop} (h : F_impl_binKind_sort PP v0 v1 v2 v3 w R) : vcall PP n_impl_binKind_sort #[v0, v1, v2, v3] w R :=
  call_of_vc (T := A_impl_binKind_sort) (c := (Tryz.f253.body).getD .skip) (n := 26) mixed Tryz.func253 rfl rfl (by kernel_rfl) (by kernel_rfl) rfl (by rw [k_impl_binKind_sort]; exact h)

/-- (impl.binKind).value -/
def F_impl_binKind_value (P : Program) (v0 v1 v2 v3 : Value) (w : World) (R : Value → World → Prop) : Prop :=
  vbox P T_impl_binKind v0 w fun _ w_1 =>
  vbox P T_impl_Term v2 w_1 fun t6 w_2 =>
  vjoin (fun J =>
    vdraw w_2 fun w_4 =>
    vfaddr P T_impl_Term t6 0 w_4 fun t12 w_5 => w_5 = w_4 ∧
    vload P T_int t12 w_4 fun t13 w_6 => w_6 = w_4 ∧
    viaddr P T_Limpl_Vec v3 (.int .i64 0) w_4 fun t15 w_7 => w_7 = w_4 ∧
    vload P T_impl_Vec t15 w_4 fun t16 w_8 => w_8 = w_4 ∧
    viaddr P T_Limpl_Vec v3 (.int .i64 1) w_4 fun t18 w_9 => w_9 = w_4 ∧
    vload P T_impl_Vec t18 w_4 fun t19 w_10 => w_10 = w_4 ∧
    (vcall P n_impl_VecBin #[t13, t16, t19] w_4 fun t20 w_11 =>
      vextract P t20 0 w_11 fun t21 w_12 => w_12 = w_11 ∧
      vextract P t20 1 w_11 fun t22 w_13 => w_13 = w_11 ∧
      (valloc P T_impl_Vec w_11 fun t9 w_14 => (vextract P t20 1 w_14 fun v x => v = t22 ∧ x = w_14) ∧ (vextract P t20 0 w_14 fun v x => v = t21 ∧ x = w_14) ∧
        (vstore P T_impl_Vec t9 t21 w_14 fun _ w_15 => (vextract P t20 1 w_15 fun v x => v = t22 ∧ x = w_15) ∧
          J [t9] w_15) ∧
        True) ∧
      True) ∧
    (valloc P T_impl_Vec w_4 fun t9_1 w_16 => (vload P T_impl_Vec t18 w_16 fun v x => v = t19 ∧ x = w_16) ∧ (viaddr P T_Limpl_Vec v3 (.int .i64 1) w_16 fun v x => v = t18 ∧ x = w_16) ∧ (vload P T_impl_Vec t15 w_16 fun v x => v = t16 ∧ x = w_16) ∧ (viaddr P T_Limpl_Vec v3 (.int .i64 0) w_16 fun v x => v = t15 ∧ x = w_16) ∧ (vload P T_int t12 w_16 fun v x => v = t13 ∧ x = w_16) ∧ (vfaddr P T_impl_Term t6 0 w_16 fun v x => v = t12 ∧ x = w_16) ∧
      (vcall P n_impl_VecBin #[t13, t16, t19] w_16 fun t20_1 w_17 =>
        vextract P t20_1 0 w_17 fun t21_1 w_18 => w_18 = w_17 ∧
        vextract P t20_1 1 w_17 fun t22_1 w_19 => w_19 = w_17 ∧
        (vstore P T_impl_Vec t9_1 t21_1 w_17 fun _ w_20 => (vextract P t20_1 1 w_20 fun v x => v = t22_1 ∧ x = w_20) ∧
          J [t9_1] w_20) ∧
        True) ∧
      True) ∧
    True) (fun u _ w_3 =>
    vfaddr P T_impl_Vec (sl 0 u) 1 w_3 fun t23 w_21 =>
    vload P T_int t23 w_21 fun t24 w_22 =>
    R t24 w_22)
def A_impl_binKind_value : Ann := { ord := [], loops := [], cuts := [(8194, [9])], trees := [(1, (.st 0 (.st 1 (.st 2 (.st 3 (.st 4 (.st 5 (.st 6 (.st 7 (.alt 8 (.st 9 (.st 10 (.st 11 (.alt 12 (.alt 13 (.st 14 .nil) .no) .no)))) (.alt 12 (.alt 8 (.st 9 (.st 10 (.st 11 (.alt 13 (.st 14 .nil) .no)))) .no) .no)))))))))), [(0, [1, 8, 9, 10, 11, 13, 14]), (1, [8, 9, 10, 11, 13, 14]), (2, [3, 4, 8, 9, 10, 11, 13, 14]), (3, [4, 8, 9, 10, 11, 13, 14]), (4, [8, 9, 10, 11, 13, 14]), (5, [6, 7, 8, 9, 10, 11, 13, 14]), (6, [7, 8, 9, 10, 11, 13, 14]), (7, [8, 9, 10, 11, 13, 14]), (8, [9, 10, 11, 13, 14]), (9, [10, 11, 13, 14]), (10, [13, 14]), (11, [14]), (12, [13, 14]), (13, [14])])] }
theorem k_impl_binKind_value (v0 v1 v2 v3 : Value) (w : World) (R : Value → World → Prop) : vc PP A_impl_binKind_value ((Tryz.f254.body).getD .skip) (retF PP Tryz.f254.results.toList R) (nthV [v0, v1, v2, v3]) w = F_impl_binKind_value PP v0 v1 v2 v3 w R := by kernel_rfl
theorem c_impl_binKind_value {v0 v1 v2 v3 : Value} {w : World} {R : Value → World → Prop} (h : F_impl_binKind_value PP v0 v1 v2 v3 w R) : vcall PP n_impl_binKind_value #[v0, v1, v2, v3] w R :=
  call_of_vc (T := A_impl_binKind_value) (c := (Tryz.f254.body).getD .skip) (n := 25) mixed Tryz.func254 rfl rfl (by kernel_rfl) (by kernel_rfl) rfl (by rw [k_impl_binKind_value]; exact h)

end Go.Proofs.YtbiabimalkkeiaaGreatDoor
