import Derived.Test.YtpihgpfebhegmaaGreatNm
set_option linter.unusedVariables false
set_option linter.unusedSimpArgs false
set_option linter.unnecessarySimpa false
set_option linter.unusedSectionVars false
namespace Go.Proofs.YtpihgpfebhegmaaGreat
open Go Go.Vc Go.Proofs
/-- laws.FnSatLeast -/
def F_laws_FnSatLeast (P : Program) (v0 : Value) (w : World) (R : Value → World → Prop) : Prop :=
  vbi P .len [T_Luint8] T_int [v0] w fun t9 w_1 =>
  vbin P .gtr T_int true t9 (.int .i64 1048576) w_1 fun t10 w_2 =>
  vif t10 (
    R (.bool true) w_2) (
    vcall P n_spec_DrawSatRun #[v0] w_2 fun t13 w_3 =>
    vextract P t13 0 w_3 fun t14 w_4 =>
    vextract P t13 1 w_4 fun t15 w_5 =>
    valloc P T_impl_Cnf w_5 fun t3 w_6 =>
    vstore P T_impl_Cnf t3 t14 w_6 fun _ w_7 =>
    vload P T_impl_Cnf t3 w_7 fun t16 w_8 =>
    vcall P n_impl_SatRun #[t16, t15] w_8 fun t18 w_9 =>
    valloc P T_impl_Sat w_9 fun t5 w_10 =>
    vstore P T_impl_Sat t5 t18 w_10 fun _ w_11 =>
    vjoin (fun J =>
      vdraw w_11 fun w_13 =>
      vload P T_impl_Sat t5 w_13 fun t19 w_14 => w_14 = w_13 ∧
      vload P T_impl_Cnf t3 w_13 fun t20 w_15 => w_15 = w_13 ∧
      vcall P n_spec_SatRun #[t20, t15] w_13 fun t22 w_16 => (vload P T_impl_Sat t5 w_16 fun v x => v = t19 ∧ x = w_16) ∧
      vcall P n_impl_SatSame #[t19, t22] w_16 fun t23 w_17 =>
      vun P .not t23 w_17 fun t24 w_18 => w_18 = w_17 ∧
      vif t24 (
        vdraw w_17 fun w_19 =>
        vload P T_impl_Sat t5 w_19 fun t35 w_20 => w_20 = w_19 ∧
        vload P T_impl_Cnf t3 w_19 fun t36 w_21 => w_21 = w_19 ∧
        vcall P n_spec_SatRun #[t36, t15] w_19 fun t38 w_22 => (vload P T_impl_Sat t5 w_22 fun v x => v = t35 ∧ x = w_22) ∧
        vcall P n_impl_SatSame #[t35, t38] w_22 fun t39 w_23 =>
        R t39 w_23) (
        vfaddr P T_impl_Cnf t3 0 w_17 fun t26 w_24 => w_24 = w_17 ∧
        vload P T_int t26 w_17 fun t27 w_25 => w_25 = w_17 ∧
        vbin P .gtr T_int true t27 (.int .i64 10) w_17 fun t28 w_26 => w_26 = w_17 ∧
        vif t28 (
          vdraw w_17 fun w_27 =>
          vload P T_impl_Sat t5 w_27 fun t35_1 w_28 => w_28 = w_27 ∧
          vload P T_impl_Cnf t3 w_27 fun t36_1 w_29 => w_29 = w_27 ∧
          vcall P n_spec_SatRun #[t36_1, t15] w_27 fun t38_1 w_30 => (vload P T_impl_Sat t5 w_30 fun v x => v = t35_1 ∧ x = w_30) ∧
          vcall P n_impl_SatSame #[t35_1, t38_1] w_30 fun t39_1 w_31 =>
          R t39_1 w_31) (
          vfaddr P T_impl_Sat t5 3 w_17 fun t31 w_32 => w_32 = w_17 ∧
          vload P T_int t31 w_17 fun t32 w_33 => w_33 = w_17 ∧
          vbin P .eql T_int true t32 (.int .i64 4) w_17 fun t33 w_34 => w_34 = w_17 ∧
          vif t33 (
            vdraw w_17 fun w_35 =>
            vload P T_impl_Sat t5 w_35 fun t35_2 w_36 => w_36 = w_35 ∧
            vload P T_impl_Cnf t3 w_35 fun t36_2 w_37 => w_37 = w_35 ∧
            vcall P n_spec_SatRun #[t36_2, t15] w_35 fun t38_2 w_38 => (vload P T_impl_Sat t5 w_38 fun v x => v = t35_2 ∧ x = w_38) ∧
            vcall P n_impl_SatSame #[t35_2, t38_2] w_38 fun t39_2 w_39 =>
            R t39_2 w_39) (
            J [] w_17)))) (fun _ _ w_12 =>
      vload P T_impl_Cnf t3 w_12 fun t41 w_40 =>
      vcall P n_impl_CnfLeast #[t41] w_40 fun t42 w_41 =>
      vextract P t42 0 w_41 fun t43 w_42 =>
      vextract P t42 1 w_42 fun t44 w_43 =>
      vfaddr P T_impl_Sat t5 3 w_43 fun t45 w_44 =>
      vload P T_int t45 w_44 fun t46 w_45 =>
      vbin P .eql T_int true t46 (.int .i64 1) w_45 fun t48 w_46 =>
      vif t48 (
        vif t44 (
          vload P T_impl_Cnf t3 w_46 fun t51 w_47 =>
          vload P T_impl_Sat t5 w_47 fun t52 w_48 =>
          vcall P n_impl_SatVals #[t51, t52] w_48 fun t53 w_49 =>
          vcall P n_laws_wpBools #[t53, t43] w_49 fun t55 w_50 =>
          R t55 w_50) (
          R (.bool false) w_46)) (
        vbin P .eql T_int true t46 (.int .i64 2) w_46 fun t58 w_51 =>
        vif t58 (
          vun P .not t44 w_51 fun t60 w_52 =>
          R t60 w_52) (
          vbin P .eql T_int true t46 (.int .i64 3) w_51 fun t62 w_53 =>
          vif t62 (
            vfaddr P T_impl_Sat t5 2 w_53 fun t63 w_54 =>
            vload P T_LLint t63 w_54 fun t64 w_55 =>
            vbi P .len [T_LLint] T_int [t64] w_55 fun t65 w_56 =>
            vbin P .eql T_int true t65 (.int .i64 300) w_56 fun t66 w_57 =>
            vif t66 (
              vfaddr P T_impl_Cnf t3 0 w_57 fun t68 w_58 =>
              vload P T_int t68 w_58 fun t69 w_59 =>
              vbin P .gtr T_int true t69 (.int .i64 7) w_59 fun t70 w_60 =>
              R t70 w_60) (
              R (.bool false) w_57)) (
            vfaddr P T_impl_Sat t5 3 w_53 fun t72 w_61 =>
            vload P T_int t72 w_61 fun t73 w_62 =>
            vbin P .eql T_int true t73 (.int .i64 0) w_62 fun t74 w_63 =>
            vif t74 (
              vbin P .lss T_int true t15 (.int .i64 4000) w_63 fun t77 w_64 =>
              R t77 w_64) (
              R (.bool false) w_63))))))
def A_laws_FnSatLeast : Ann := { ord := [(5, [0, 1, 2, 3, 4, 5, 6, 7, 8, 9, 10, 11, 12, 13, 14, 15], [(0, [4, 5, 6, 7, 8, 9, 10, 11, 12, 13, 14, 15]), (1, [3, 4, 5, 6, 7, 8, 9, 10, 11, 12, 13, 14, 15]), (2, [3, 4, 5, 6, 7, 8, 9, 10, 11, 12, 13, 14, 15]), (3, [4, 5, 6, 7, 8, 9, 10, 11, 12, 13, 14, 15]), (4, [5, 6, 7, 8, 9, 10, 11, 12, 13, 14, 15]), (5, [6, 7, 8, 9, 10, 11, 12, 13, 14, 15]), (6, [7, 8, 9, 10, 11, 12, 13, 14, 15]), (7, [8, 9, 10, 11, 12, 13, 14, 15]), (8, [9, 10, 11, 12, 13, 14, 15]), (9, [10, 11, 12, 13, 14, 15]), (10, [11, 12, 13, 14, 15]), (11, [12, 13, 14, 15]), (12, [13, 14, 15]), (13, [14, 15]), (14, [15])]), (6, [0, 1, 2, 3, 4, 5], [(0, [4, 5]), (1, [3, 4, 5]), (2, [3, 4, 5]), (3, [4, 5]), (4, [5])])], loops := [], cuts := [(24583, [])] }
theorem k_laws_FnSatLeast (v0 : Value) (w : World) (R : Value → World → Prop) : vc PP A_laws_FnSatLeast ((Tryz.f3.body).getD .skip) (retF PP Tryz.f3.results.toList R) (nthV [v0]) w = F_laws_FnSatLeast PP v0 w R := by kernel_rfl
theorem c_laws_FnSatLeast {v0 : Value} {w : World} {R : Value → World → Prop} (h : F_laws_FnSatLeast PP v0 w R) : vcall PP n_laws_FnSatLeast #[v0] w R :=
  call_of_vc (T := A_laws_FnSatLeast) (c := (Tryz.f3.body).getD .skip) (n := 79) mixed Tryz.func3 rfl rfl (by kernel_rfl) (by kernel_rfl) rfl (by rw [k_laws_FnSatLeast]; exact h)

/-- laws.FnSatOne -/
def F_laws_FnSatOne (P : Program) (v0 : Value) (w : World) (R : Value → World → Prop) : Prop :=
  vbi P .len [T_Luint8] T_int [v0] w fun t12 w_1 =>
  vbin P .gtr T_int true t12 (.int .i64 1048576) w_1 fun t13 w_2 =>
  vif t13 (
    R (.bool true) w_2) (
    vcall P n_spec_DrawSatStep #[v0] w_2 fun t16 w_3 =>
    vextract P t16 0 w_3 fun t17 w_4 =>
    vextract P t16 1 w_4 fun t18 w_5 =>
    valloc P T_impl_Cnf w_5 fun t3 w_6 =>
    valloc P T_impl_Sat w_6 fun t4 w_7 =>
    vstore P T_impl_Cnf t3 t17 w_7 fun _ w_8 =>
    vstore P T_impl_Sat t4 t18 w_8 fun _ w_9 =>
    vload P T_impl_Cnf t3 w_9 fun t19 w_10 =>
    vload P T_impl_Sat t4 w_10 fun t20 w_11 =>
    vcall P n_impl_SatStep #[t19, t20] w_11 fun t21 w_12 =>
    valloc P T_impl_Sat w_12 fun t5 w_13 =>
    vstore P T_impl_Sat t5 t21 w_13 fun _ w_14 =>
    vjoin (fun J =>
      vdraw w_14 fun w_16 =>
      vload P T_impl_Sat t5 w_16 fun t22 w_17 => w_17 = w_16 ∧
      vload P T_impl_Cnf t3 w_16 fun t23 w_18 => w_18 = w_16 ∧
      vload P T_impl_Sat t4 w_16 fun t24 w_19 => w_19 = w_16 ∧
      vcall P n_spec_SatStep #[t23, t24] w_16 fun t25 w_20 => (vload P T_impl_Sat t5 w_20 fun v x => v = t22 ∧ x = w_20) ∧
      vcall P n_impl_SatSame #[t22, t25] w_20 fun t26 w_21 =>
      vun P .not t26 w_21 fun t27 w_22 => w_22 = w_21 ∧
      vif t27 (
        vdraw w_21 fun w_23 =>
        vload P T_impl_Sat t5 w_23 fun t43 w_24 => w_24 = w_23 ∧
        vload P T_impl_Cnf t3 w_23 fun t44 w_25 => w_25 = w_23 ∧
        vload P T_impl_Sat t4 w_23 fun t45 w_26 => w_26 = w_23 ∧
        vcall P n_spec_SatStep #[t44, t45] w_23 fun t46 w_27 => (vload P T_impl_Sat t5 w_27 fun v x => v = t43 ∧ x = w_27) ∧
        vcall P n_impl_SatSame #[t43, t46] w_27 fun t47 w_28 =>
        R t47 w_28) (
        vload P T_impl_Cnf t3 w_21 fun t29 w_29 => w_29 = w_21 ∧
        vload P T_impl_Sat t4 w_21 fun t30 w_30 => w_30 = w_21 ∧
        vcall P n_spec_SatOk #[t29, t30] w_21 fun t31 w_31 =>
        vun P .not t31 w_31 fun t32 w_32 => w_32 = w_31 ∧
        vif t32 (
          vdraw w_31 fun w_33 =>
          vload P T_impl_Sat t5 w_33 fun t43_1 w_34 => w_34 = w_33 ∧
          vload P T_impl_Cnf t3 w_33 fun t44_1 w_35 => w_35 = w_33 ∧
          vload P T_impl_Sat t4 w_33 fun t45_1 w_36 => w_36 = w_33 ∧
          vcall P n_spec_SatStep #[t44_1, t45_1] w_33 fun t46_1 w_37 => (vload P T_impl_Sat t5 w_37 fun v x => v = t43_1 ∧ x = w_37) ∧
          vcall P n_impl_SatSame #[t43_1, t46_1] w_37 fun t47_1 w_38 =>
          R t47_1 w_38) (
          vfaddr P T_impl_Sat t5 2 w_31 fun t35 w_39 => w_39 = w_31 ∧
          vload P T_LLint t35 w_31 fun t36 w_40 => w_40 = w_31 ∧
          vbi P .len [T_LLint] T_int [t36] w_31 fun t37 w_41 => w_41 = w_31 ∧
          vfaddr P T_impl_Sat t4 2 w_31 fun t38 w_42 => w_42 = w_31 ∧
          vload P T_LLint t38 w_31 fun t39 w_43 => w_43 = w_31 ∧
          vbi P .len [T_LLint] T_int [t39] w_31 fun t40 w_44 => w_44 = w_31 ∧
          vbin P .eql T_int false t37 t40 w_31 fun t41 w_45 => w_45 = w_31 ∧
          vif t41 (
            vdraw w_31 fun w_46 =>
            vload P T_impl_Sat t5 w_46 fun t43_2 w_47 => w_47 = w_46 ∧
            vload P T_impl_Cnf t3 w_46 fun t44_2 w_48 => w_48 = w_46 ∧
            vload P T_impl_Sat t4 w_46 fun t45_2 w_49 => w_49 = w_46 ∧
            vcall P n_spec_SatStep #[t44_2, t45_2] w_46 fun t46_2 w_50 => (vload P T_impl_Sat t5 w_50 fun v x => v = t43_2 ∧ x = w_50) ∧
            vcall P n_impl_SatSame #[t43_2, t46_2] w_50 fun t47_2 w_51 =>
            R t47_2 w_51) (
            J [] w_31)))) (fun _ _ w_15 =>
      vfaddr P T_impl_Sat t5 2 w_15 fun t48 w_52 =>
      vload P T_LLint t48 w_52 fun t49 w_53 =>
      vfaddr P T_impl_Sat t5 2 w_53 fun t50 w_54 =>
      vload P T_LLint t50 w_54 fun t51 w_55 =>
      vbi P .len [T_LLint] T_int [t51] w_55 fun t52 w_56 =>
      vbin P .sub T_int true t52 (.int .i64 1) w_56 fun t53 w_57 =>
      viaddr P T_LLint t49 t53 w_57 fun t54 w_58 =>
      vload P T_Lint t54 w_58 fun t55 w_59 =>
      vloop [(.int .i64 0), (.int .i64 0)] w_59 fun C u_1 _ w_60 =>
        vbi P .len [T_Lint] T_int [t55] w_60 fun t58 w_61 =>
        vbin P .lss T_int false (sl 1 u_1) t58 w_61 fun t59 w_62 =>
        vif t59 (
          vloop [(.bool false), (.int .i64 0)] w_62 fun C_1 u_2 _ w_63 =>
            vfaddr P T_impl_Sat t5 0 w_63 fun t63 w_64 =>
            vload P T_Lint t63 w_64 fun t64 w_65 =>
            vbi P .len [T_Lint] T_int [t64] w_65 fun t65 w_66 =>
            vbin P .lss T_int false (sl 1 u_2) t65 w_66 fun t66 w_67 =>
            vif t66 (
              vdraw w_67 fun w_68 =>
              vfaddr P T_impl_Sat t5 0 w_68 fun t69 w_69 => w_69 = w_68 ∧
              vload P T_Lint t69 w_68 fun t70 w_70 => w_70 = w_68 ∧
              viaddr P T_Lint t70 (sl 1 u_2) w_68 fun t72 w_71 => w_71 = w_68 ∧
              vload P T_int t72 w_68 fun t73 w_72 => w_72 = w_68 ∧
              viaddr P T_Lint t55 (sl 1 u_1) w_68 fun t76 w_73 => w_73 = w_68 ∧
              vload P T_int t76 w_68 fun t77 w_74 => w_74 = w_68 ∧
              vbin P .eql T_int false t73 t77 w_68 fun t78 w_75 => w_75 = w_68 ∧
              vif t78 (
                R (.bool false) w_68) (
                vdraw w_68 fun w_76 =>
                vif (sl 0 u_2) (
                  vbin P .add T_int true (sl 1 u_2) (.int .i64 1) w_76 fun t68 w_77 =>
                  C_1 [(.bool true), t68] w_77) (
                  vfaddr P T_impl_Sat t5 0 w_76 fun t81 w_78 => w_78 = w_76 ∧
                  vload P T_Lint t81 w_76 fun t82 w_79 => w_79 = w_76 ∧
                  viaddr P T_Lint t82 (sl 1 u_2) w_76 fun t84 w_80 => w_80 = w_76 ∧
                  vload P T_int t84 w_76 fun t85 w_81 => w_81 = w_76 ∧
                  viaddr P T_Lint t55 (sl 1 u_1) w_76 fun t88 w_82 => w_82 = w_76 ∧
                  vload P T_int t88 w_76 fun t89 w_83 => w_83 = w_76 ∧
                  vun P .neg t89 w_76 fun t90 w_84 => w_84 = w_76 ∧
                  vbin P .eql T_int false t85 t90 w_76 fun t91 w_85 => w_85 = w_76 ∧
                  vbin P .add T_int true (sl 1 u_2) (.int .i64 1) w_76 fun t68_1 w_86 =>
                  C_1 [t91, t68_1] w_86))) (
              vun P .not (sl 0 u_2) w_67 fun t94 w_87 =>
              vif t94 (
                vbin P .add T_int true (sl 0 u_1) (.int .i64 1) w_87 fun t96 w_88 =>
                vbin P .add T_int true (sl 1 u_1) (.int .i64 1) w_88 fun t61 w_89 =>
                C [t96, t61] w_89) (
                vbin P .add T_int true (sl 1 u_1) (.int .i64 1) w_87 fun t61_1 w_90 =>
                C [(sl 0 u_1), t61_1] w_90))) (
          vdraw w_62 fun w_91 =>
          vbin P .eql T_int true (sl 0 u_1) (.int .i64 1) w_91 fun t98 w_92 => w_92 = w_91 ∧
          vif t98 (
            vfaddr P T_impl_Sat t5 0 w_91 fun t100 w_93 => w_93 = w_91 ∧
            vload P T_Lint t100 w_91 fun t101 w_94 => w_94 = w_91 ∧
            vbi P .len [T_Lint] T_int [t101] w_91 fun t102 w_95 => w_95 = w_91 ∧
            vfaddr P T_impl_Sat t4 0 w_91 fun t103 w_96 => w_96 = w_91 ∧
            vload P T_Lint t103 w_91 fun t104 w_97 => w_97 = w_91 ∧
            vbi P .len [T_Lint] T_int [t104] w_91 fun t105 w_98 => w_98 = w_91 ∧
            vbin P .lss T_int false t102 t105 w_91 fun t106 w_99 => w_99 = w_91 ∧
            vif t106 (
              vfaddr P T_impl_Sat t5 0 w_91 fun t109 w_100 => w_100 = w_91 ∧
              vload P T_Lint t109 w_91 fun t110 w_101 => w_101 = w_91 ∧
              vfaddr P T_impl_Sat t4 0 w_91 fun t111 w_102 => w_102 = w_91 ∧
              vload P T_Lint t111 w_91 fun t112 w_103 => w_103 = w_91 ∧
              vfaddr P T_impl_Sat t5 0 w_91 fun t113 w_104 => w_104 = w_91 ∧
              vload P T_Lint t113 w_91 fun t114 w_105 => w_105 = w_91 ∧
              vbi P .len [T_Lint] T_int [t114] w_91 fun t115 w_106 => w_106 = w_91 ∧
              vslice P T_Lint t112 none (some t115) none w_91 fun t116 w_107 => w_107 = w_91 ∧
              vcall P n_laws_wpInts #[t110, t116] w_91 fun t117 w_108 =>
              R t117 w_108) (
              R (.bool false) w_91)) (
            R (.bool false) w_91))))
def A_laws_FnSatOne : Ann := { ord := [(5, [0, 1, 2, 3, 4, 5, 6, 7, 8, 9, 10, 11, 12, 13, 14, 15, 16, 17, 18, 19, 20], [(0, [4, 5, 6, 7, 8, 9, 10, 11, 12, 13, 14, 15, 16, 17, 18, 19, 20]), (1, [3, 4, 5, 6, 7, 8, 9, 10, 11, 12, 13, 14, 15, 16, 17, 18, 19, 20]), (2, [3, 4, 5, 6, 7, 8, 9, 10, 11, 12, 13, 14, 15, 16, 17, 18, 19, 20]), (3, [4, 5, 6, 7, 8, 9, 10, 11, 12, 13, 14, 15, 16, 17, 18, 19, 20]), (4, [5, 6, 7, 8, 9, 10, 11, 12, 13, 14, 15, 16, 17, 18, 19, 20]), (5, [6, 7, 8, 9, 10, 11, 12, 13, 14, 15, 16, 17, 18, 19, 20]), (6, [7, 8, 9, 10, 11, 12, 13, 14, 15, 16, 17, 18, 19, 20]), (7, [9, 10, 11, 12, 13, 14, 15, 16, 17, 18, 19, 20]), (8, [9, 10, 11, 12, 13, 14, 15, 16, 17, 18, 19, 20]), (9, [10, 11, 12, 13, 14, 15, 16, 17, 18, 19, 20]), (10, [11, 12, 13, 14, 15, 16, 17, 18, 19, 20]), (11, [12, 13, 14, 15, 16, 17, 18, 19, 20]), (12, [13, 14, 15, 16, 17, 18, 19, 20]), (13, [14, 15, 19, 20]), (14, [15, 19, 20]), (15, [19, 20]), (16, [17, 18, 19, 20]), (17, [18, 19, 20]), (18, [19, 20]), (19, [20])]), (6, [0, 1, 2, 3, 4, 5], [(0, [4, 5]), (1, [3, 4, 5]), (2, [3, 4, 5]), (3, [4, 5]), (4, [5])]), (16, [0, 1, 2, 3, 4, 5, 6, 7, 8, 9], [(0, [1, 3, 4, 9]), (1, [3, 4, 9]), (2, [3, 4, 9]), (3, [4, 9]), (4, [9]), (5, [7, 8, 9]), (6, [7, 8, 9]), (7, [8, 9]), (8, [9])]), (18, [0, 1, 2, 3, 4, 5, 6, 7, 8, 9, 10, 11, 12, 13, 14], [(0, [1, 2, 3, 4, 5, 6, 7, 8, 9, 10, 11, 12, 13, 14]), (1, [2, 3, 4, 5, 6, 7, 8, 9, 10, 11, 12, 13, 14]), (2, [3, 5, 6, 12, 13, 14]), (3, [5, 6, 12, 13, 14]), (4, [5, 6, 12, 13, 14]), (5, [6, 12, 13, 14]), (6, [12, 13, 14]), (7, [9, 10, 11, 12, 13, 14]), (8, [9, 10, 11, 12, 13, 14]), (9, [10, 11, 12, 13, 14]), (10, [11, 12, 13, 14]), (11, [12, 13, 14]), (12, [13, 14]), (13, [14])]), (21, [0, 1, 2, 3, 4, 5, 6, 7, 8, 9, 10, 11, 12, 13, 14, 15, 16, 17, 18, 19, 20, 21, 22], [(0, [1, 2, 3, 4, 5, 6, 7, 8, 9, 10, 11, 12, 13, 14, 15, 16, 17, 18, 19, 20, 21, 22]), (1, [2, 3, 4, 5, 6, 7, 8, 9, 10, 11, 12, 13, 14, 15, 16, 17, 18, 19, 20, 21, 22]), (2, [3, 4, 5, 6, 7, 8, 9, 10, 11, 12, 13, 14, 15, 16, 17, 18, 19, 20, 21, 22]), (3, [4, 5, 9, 10, 11, 12, 13, 14, 15, 16, 17, 18, 19, 20, 21, 22]), (4, [5, 9, 10, 11, 12, 13, 14, 15, 16, 17, 18, 19, 20, 21, 22]), (5, [9, 10, 11, 12, 13, 14, 15, 16, 17, 18, 19, 20, 21, 22]), (6, [7, 8, 9, 10, 11, 12, 13, 14, 15, 16, 17, 18, 19, 20, 21, 22]), (7, [8, 9, 10, 11, 12, 13, 14, 15, 16, 17, 18, 19, 20, 21, 22]), (8, [9, 10, 11, 12, 13, 14, 15, 16, 17, 18, 19, 20, 21, 22]), (9, [10, 11, 12, 13, 14, 15, 16, 17, 18, 19, 20, 21, 22]), (10, [11, 12, 13, 14, 15, 16, 17, 18, 19, 20, 21, 22]), (11, [12, 13, 14, 15, 16, 17, 18, 19, 20, 21, 22]), (12, [13, 20, 21, 22]), (13, [20, 21, 22]), (14, [15, 19, 20, 21, 22]), (15, [19, 20, 21, 22]), (16, [17, 18, 19, 20, 21, 22]), (17, [18, 19, 20, 21, 22]), (18, [19, 20, 21, 22]), (19, [20, 21, 22]), (20, [21, 22]), (21, [22])])], loops := [(10, [7, 8]), (14, [9, 10])], cuts := [(24583, [])] }
theorem k_laws_FnSatOne (v0 : Value) (w : World) (R : Value → World → Prop) : vc PP A_laws_FnSatOne ((Tryz.f4.body).getD .skip) (retF PP Tryz.f4.results.toList R) (nthV [v0]) w = F_laws_FnSatOne PP v0 w R := by kernel_rfl
theorem c_laws_FnSatOne {v0 : Value} {w : World} {R : Value → World → Prop} (h : F_laws_FnSatOne PP v0 w R) : vcall PP n_laws_FnSatOne #[v0] w R :=
  call_of_vc (T := A_laws_FnSatOne) (c := (Tryz.f4.body).getD .skip) (n := 119) mixed Tryz.func4 rfl rfl (by kernel_rfl) (by kernel_rfl) rfl (by rw [k_laws_FnSatOne]; exact h)

/-- laws.FnSatOk -/
def F_laws_FnSatOk (P : Program) (v0 : Value) (w : World) (R : Value → World → Prop) : Prop :=
  vbi P .len [T_Luint8] T_int [v0] w fun t8 w_1 =>
  vbin P .gtr T_int true t8 (.int .i64 1048576) w_1 fun t9 w_2 =>
  vif t9 (
    R (.bool true) w_2) (
    vcall P n_spec_DrawSatStep #[v0] w_2 fun t12 w_3 =>
    vextract P t12 0 w_3 fun t13 w_4 =>
    vextract P t12 1 w_4 fun t14 w_5 =>
    valloc P T_impl_Cnf w_5 fun t3 w_6 =>
    valloc P T_impl_Sat w_6 fun t4 w_7 =>
    vstore P T_impl_Cnf t3 t13 w_7 fun _ w_8 =>
    vstore P T_impl_Sat t4 t14 w_8 fun _ w_9 =>
    vload P T_impl_Cnf t3 w_9 fun t15 w_10 =>
    vload P T_impl_Sat t4 w_10 fun t16 w_11 =>
    vcall P n_impl_SatStep #[t15, t16] w_11 fun t17 w_12 =>
    valloc P T_impl_Sat w_12 fun t5 w_13 =>
    vstore P T_impl_Sat t5 t17 w_13 fun _ w_14 =>
    vjoin (fun J =>
      vdraw w_14 fun w_16 =>
      vload P T_impl_Sat t5 w_16 fun t18 w_17 => w_17 = w_16 ∧
      vload P T_impl_Cnf t3 w_16 fun t19 w_18 => w_18 = w_16 ∧
      vload P T_impl_Sat t4 w_16 fun t20 w_19 => w_19 = w_16 ∧
      vcall P n_spec_SatStep #[t19, t20] w_16 fun t21 w_20 => (vload P T_impl_Sat t5 w_20 fun v x => v = t18 ∧ x = w_20) ∧
      vcall P n_impl_SatSame #[t18, t21] w_20 fun t22 w_21 =>
      vun P .not t22 w_21 fun t23 w_22 => w_22 = w_21 ∧
      vif t23 (
        R (.bool false) w_21) (
        vload P T_impl_Cnf t3 w_21 fun t25 w_23 => w_23 = w_21 ∧
        vload P T_impl_Sat t4 w_21 fun t26 w_24 => w_24 = w_21 ∧
        vload P T_impl_Cnf t3 w_21 fun t28 w_25 => w_25 = w_21 ∧
        vload P T_impl_Sat t4 w_21 fun t29 w_26 => w_26 = w_21 ∧
        vcall P n_impl_SatOk #[t25, t26] w_21 fun t27 w_27 => (vload P T_impl_Sat t4 w_27 fun v x => v = t29 ∧ x = w_27) ∧ (vload P T_impl_Cnf t3 w_27 fun v x => v = t28 ∧ x = w_27) ∧
        vcall P n_spec_SatOk #[t28, t29] w_27 fun t30 w_28 =>
        vbin P .neq T_bool false t27 t30 w_28 fun t31 w_29 => w_29 = w_28 ∧
        vif t31 (
          R (.bool false) w_28) (
          J [] w_28))) (fun _ _ w_15 =>
      vload P T_impl_Cnf t3 w_15 fun t33 w_30 =>
      vload P T_impl_Sat t4 w_30 fun t34 w_31 =>
      vcall P n_spec_SatOk #[t33, t34] w_31 fun t35 w_32 =>
      vun P .not t35 w_32 fun t36 w_33 =>
      vif t36 (
        vload P T_impl_Sat t5 w_33 fun t37 w_34 =>
        vbuild P T_impl_Sat [(3, (.int .i64 4))] w_34 fun t38 w_35 =>
        vcall P n_impl_SatSame #[t37, t38] w_35 fun t39 w_36 =>
        R t39 w_36) (
        vfaddr P T_impl_Sat t4 3 w_33 fun t40 w_37 =>
        vload P T_int t40 w_37 fun t41 w_38 =>
        vbin P .neq T_int true t41 (.int .i64 0) w_38 fun t42 w_39 =>
        vif t42 (
          vload P T_impl_Sat t5 w_39 fun t43 w_40 =>
          vload P T_impl_Sat t4 w_40 fun t44 w_41 =>
          vcall P n_impl_SatSame #[t43, t44] w_41 fun t45 w_42 =>
          R t45 w_42) (
          vloop [(.int .i64 0)] w_39 fun C u_1 _ w_43 =>
            vfaddr P T_impl_Sat t4 2 w_43 fun t47 w_44 =>
            vload P T_LLint t47 w_44 fun t48 w_45 =>
            vbi P .len [T_LLint] T_int [t48] w_45 fun t49 w_46 =>
            vbin P .lss T_int false (sl 0 u_1) t49 w_46 fun t50 w_47 =>
            vif t50 (
              vdraw w_47 fun w_48 =>
              vfaddr P T_impl_Sat t4 2 w_48 fun t53 w_49 => w_49 = w_48 ∧
              vload P T_LLint t53 w_48 fun t54 w_50 => w_50 = w_48 ∧
              viaddr P T_LLint t54 (sl 0 u_1) w_48 fun t56 w_51 => w_51 = w_48 ∧
              vload P T_Lint t56 w_48 fun t57 w_52 => w_52 = w_48 ∧
              vfaddr P T_impl_Sat t5 2 w_48 fun t58 w_53 => w_53 = w_48 ∧
              vload P T_LLint t58 w_48 fun t59 w_54 => w_54 = w_48 ∧
              viaddr P T_LLint t59 (sl 0 u_1) w_48 fun t61 w_55 => w_55 = w_48 ∧
              vload P T_Lint t61 w_48 fun t62 w_56 => w_56 = w_48 ∧
              vcall P n_laws_wpInts #[t57, t62] w_48 fun t63 w_57 =>
              vun P .not t63 w_57 fun t64 w_58 => w_58 = w_57 ∧
              vif t64 (
                R (.bool false) w_57) (
                vbin P .add T_int true (sl 0 u_1) (.int .i64 1) w_57 fun t52 w_59 =>
                C [t52] w_59)) (
              vload P T_impl_Cnf t3 w_47 fun t65 w_60 =>
              vload P T_impl_Sat t5 w_60 fun t66 w_61 =>
              vcall P n_impl_SatOk #[t65, t66] w_61 fun t67 w_62 =>
              vif t67 (
                vfaddr P T_impl_Sat t5 2 w_62 fun t69 w_63 =>
                vload P T_LLint t69 w_63 fun t70 w_64 =>
                vbi P .len [T_LLint] T_int [t70] w_64 fun t71 w_65 =>
                vfaddr P T_impl_Sat t4 2 w_65 fun t72 w_66 =>
                vload P T_LLint t72 w_66 fun t73 w_67 =>
                vbi P .len [T_LLint] T_int [t73] w_67 fun t74 w_68 =>
                vbin P .add T_int true t74 (.int .i64 1) w_68 fun t75 w_69 =>
                vbin P .leq T_int false t71 t75 w_69 fun t76 w_70 =>
                vif t76 (
                  vfaddr P T_impl_Sat t5 0 w_70 fun t79 w_71 =>
                  vload P T_Lint t79 w_71 fun t80 w_72 =>
                  vbi P .len [T_Lint] T_int [t80] w_72 fun t81 w_73 =>
                  vfaddr P T_impl_Sat t4 0 w_73 fun t82 w_74 =>
                  vload P T_Lint t82 w_74 fun t83 w_75 =>
                  vbi P .len [T_Lint] T_int [t83] w_75 fun t84 w_76 =>
                  vbin P .add T_int true t84 (.int .i64 1) w_76 fun t85 w_77 =>
                  vbin P .leq T_int false t81 t85 w_77 fun t86 w_78 =>
                  R t86 w_78) (
                  R (.bool false) w_70)) (
                R (.bool false) w_62))))))
def A_laws_FnSatOk : Ann := { ord := [(5, [0, 1, 2, 3, 4, 5, 6, 7, 8, 10, 11, 9, 12, 13, 14], [(0, [4, 5, 6, 7, 8, 10, 11, 9, 12, 13, 14]), (1, [3, 4, 5, 6, 7, 8, 10, 11, 9, 12, 13, 14]), (2, [3, 4, 5, 6, 7, 8, 10, 11, 9, 12, 13, 14]), (3, [4, 5, 6, 7, 8, 10, 11, 9, 12, 13, 14]), (4, [5, 6, 7, 8, 10, 11, 9, 12, 13, 14]), (5, [6, 7, 8, 10, 11, 9, 12, 13, 14]), (6, [7, 8, 10, 11, 9, 12, 13, 14]), (7, [9, 12, 13, 14]), (8, [9, 12, 13, 14]), (10, [12, 13, 14]), (11, [12, 13, 14]), (9, [12, 13, 14]), (12, [13, 14]), (13, [14])]), (14, [0, 1, 2, 3, 4, 5, 6, 7, 8, 9, 10, 11], [(0, [1, 3, 4, 10, 11]), (1, [3, 4, 10, 11]), (2, [3, 4, 10, 11]), (3, [4, 10, 11]), (4, [10, 11]), (5, [6, 8, 9, 10, 11]), (6, [8, 9, 10, 11]), (7, [8, 9, 10, 11]), (8, [9, 10, 11]), (9, [10, 11]), (10, [11])])], loops := [(12, [6])], cuts := [(24583, [])] }
theorem k_laws_FnSatOk (v0 : Value) (w : World) (R : Value → World → Prop) : vc PP A_laws_FnSatOk ((Tryz.f5.body).getD .skip) (retF PP Tryz.f5.results.toList R) (nthV [v0]) w = F_laws_FnSatOk PP v0 w R := by kernel_rfl
theorem c_laws_FnSatOk {v0 : Value} {w : World} {R : Value → World → Prop} (h : F_laws_FnSatOk PP v0 w R) : vcall PP n_laws_FnSatOk #[v0] w R :=
  call_of_vc (T := A_laws_FnSatOk) (c := (Tryz.f5.body).getD .skip) (n := 88) mixed Tryz.func5 rfl rfl (by kernel_rfl) (by kernel_rfl) rfl (by rw [k_laws_FnSatOk]; exact h)

/-- laws.FnExactSatStep -/
def F_laws_FnExactSatStep (P : Program) (v0 v1 : Value) (w : World) (R : Value → World → Prop) : Prop :=
  vbox P T_laws_Cnf v0 w fun t2 w_1 =>
  vbox P T_laws_Sat v1 w_1 fun t3 w_2 =>
  vload P T_laws_Cnf t2 w_2 fun t14 w_3 =>
  vcall P n_laws_szCnf #[t14, (.int .i64 1048576)] w_3 fun t16 w_4 =>
  vbin P .lss T_int true t16 (.int .i64 0) w_4 fun t18 w_5 =>
  vif t18 (
    R (.bool true) w_5) (
    vload P T_laws_Sat t3 w_5 fun t19 w_6 =>
    vcall P n_laws_szSat #[t19, t16] w_6 fun t21 w_7 =>
    vbin P .lss T_int true t21 (.int .i64 0) w_7 fun t23 w_8 =>
    vif t23 (
      R (.bool true) w_8) (
      vjoin (fun J =>
        vdraw w_8 fun w_10 =>
        vload P T_laws_Cnf t2 w_10 fun t24 w_11 => w_11 = w_10 ∧
        vload P T_laws_Sat t3 w_10 fun t26 w_12 => w_12 = w_10 ∧
        (vcall P n_laws_toCnf #[t24] w_10 fun t25 w_13 => (vload P T_laws_Sat t3 w_13 fun v x => v = t26 ∧ x = w_13) ∧
          (vcall P n_laws_toSat #[t26] w_13 fun t27 w_14 =>
            (vcall P n_spec_SatStep #[t25, t27] w_14 fun t28 w_15 =>
              (valloc P T_impl_Sat w_15 fun t6 w_16 =>
                (vstore P T_impl_Sat t6 t28 w_16 fun _ w_17 =>
                  J [t6] w_17) ∧
                True) ∧
              True) ∧
            (valloc P T_impl_Sat w_14 fun t6_1 w_18 =>
              (vcall P n_spec_SatStep #[t25, t27] w_18 fun t28_1 w_19 =>
                (vstore P T_impl_Sat t6_1 t28_1 w_19 fun _ w_20 =>
                  J [t6_1] w_20) ∧
                True) ∧
              True) ∧
            True) ∧
          (valloc P T_impl_Sat w_13 fun t6_2 w_21 => (vload P T_laws_Sat t3 w_21 fun v x => v = t26 ∧ x = w_21) ∧
            (vcall P n_laws_toSat #[t26] w_21 fun t27_1 w_22 =>
              (vcall P n_spec_SatStep #[t25, t27_1] w_22 fun t28_2 w_23 =>
                (vstore P T_impl_Sat t6_2 t28_2 w_23 fun _ w_24 =>
                  J [t6_2] w_24) ∧
                True) ∧
              True) ∧
            True) ∧
          True) ∧
        (valloc P T_impl_Sat w_10 fun t6_3 w_25 => (vload P T_laws_Sat t3 w_25 fun v x => v = t26 ∧ x = w_25) ∧ (vload P T_laws_Cnf t2 w_25 fun v x => v = t24 ∧ x = w_25) ∧
          (vcall P n_laws_toCnf #[t24] w_25 fun t25_1 w_26 => (vload P T_laws_Sat t3 w_26 fun v x => v = t26 ∧ x = w_26) ∧
            (vcall P n_laws_toSat #[t26] w_26 fun t27_2 w_27 =>
              (vcall P n_spec_SatStep #[t25_1, t27_2] w_27 fun t28_3 w_28 =>
                (vstore P T_impl_Sat t6_3 t28_3 w_28 fun _ w_29 =>
                  J [t6_3] w_29) ∧
                True) ∧
              True) ∧
            True) ∧
          True) ∧
        True) (fun u _ w_9 =>
        vload P T_laws_Cnf t2 w_9 fun t29 w_30 =>
        vcall P n_laws_toCnf #[t29] w_30 fun t30 w_31 =>
        valloc P T_impl_Cnf w_31 fun t7 w_32 =>
        vstore P T_impl_Cnf t7 t30 w_32 fun _ w_33 =>
        vload P T_laws_Sat t3 w_33 fun t31 w_34 =>
        vcall P n_laws_toSat #[t31] w_34 fun t32 w_35 =>
        valloc P T_impl_Sat w_35 fun t8 w_36 =>
        vstore P T_impl_Sat t8 t32 w_36 fun _ w_37 =>
        vload P T_impl_Cnf t7 w_37 fun t33 w_38 =>
        vload P T_impl_Sat t8 w_38 fun t34 w_39 =>
        vcall P n_impl_SatStep #[t33, t34] w_39 fun t35 w_40 =>
        valloc P T_impl_Sat w_40 fun t9 w_41 =>
        vstore P T_impl_Sat t9 t35 w_41 fun _ w_42 =>
        vload P T_impl_Sat t9 w_42 fun t36 w_43 =>
        vload P T_impl_Sat (sl 0 u) w_43 fun t37 w_44 =>
        vcall P n_laws_eqSat #[t36, t37] w_44 fun t38 w_45 =>
        vun P .not t38 w_45 fun t39 w_46 =>
        vif t39 (
          R (.bool false) w_46) (
          vdraw w_46 fun w_47 =>
          vload P T_impl_Cnf t7 w_47 fun t40 w_48 => w_48 = w_47 ∧
          vload P T_laws_Cnf t2 w_47 fun t41 w_49 => w_49 = w_47 ∧
          vcall P n_laws_toCnf #[t41] w_47 fun t42 w_50 => (vload P T_impl_Cnf t7 w_50 fun v x => v = t40 ∧ x = w_50) ∧
          vcall P n_laws_eqCnf #[t40, t42] w_50 fun t43 w_51 =>
          vun P .not t43 w_51 fun t44 w_52 => w_52 = w_51 ∧
          vif t44 (
            R (.bool false) w_51) (
            vdraw w_51 fun w_53 =>
            vload P T_impl_Sat t8 w_53 fun t45 w_54 => w_54 = w_53 ∧
            vload P T_laws_Sat t3 w_53 fun t46 w_55 => w_55 = w_53 ∧
            vcall P n_laws_toSat #[t46] w_53 fun t47 w_56 => (vload P T_impl_Sat t8 w_56 fun v x => v = t45 ∧ x = w_56) ∧
            vcall P n_laws_eqSat #[t45, t47] w_56 fun t48 w_57 =>
            vun P .not t48 w_57 fun t49 w_58 => w_58 = w_57 ∧
            vif t49 (
              R (.bool false) w_57) (
              vload P T_impl_Cnf t7 w_57 fun t50 w_59 =>
              vcall P n_laws_markCnf #[t50, (.int .i64 1)] w_59 fun t52 w_60 =>
              vload P T_impl_Sat t8 w_60 fun t53 w_61 =>
              vcall P n_laws_markSat #[t53, t52] w_61 fun t55 w_62 =>
              vjoin (fun J_1 =>
                vbin P .lss T_int true t55 (.int .i64 0) w_62 fun t57 w_64 =>
                vif t57 (
                  R (.bool false) w_64) (
                  vload P T_impl_Sat t9 w_64 fun t59 w_65 =>
                  vload P T_impl_Sat (sl 0 u) w_65 fun t60 w_66 =>
                  vcall P n_laws_eqSat #[t59, t60] w_66 fun t61 w_67 =>
                  vun P .not t61 w_67 fun t62 w_68 =>
                  vif t62 (
                    R (.bool false) w_68) (
                    J_1 [] w_68))) (fun _ _ w_63 =>
                vload P T_impl_Sat t9 w_63 fun t64 w_69 =>
                vcall P n_laws_markSat #[t64, (.int .i64 1)] w_69 fun t66 w_70 =>
                vload P T_impl_Sat t9 w_70 fun t67 w_71 =>
                vcall P n_laws_heldSat #[t67, (.int .i64 1)] w_71 fun t69 w_72 =>
                vbin P .lss T_int true t69 (.int .i64 0) w_72 fun t71 w_73 =>
                vif t71 (
                  R (.bool false) w_73) (
                  vbin P .neq T_int false t69 t66 w_73 fun t74 w_74 =>
                  vif t74 (
                    R (.bool false) w_74) (
                    vjoin (fun J_2 =>
                      vdraw w_74 fun w_76 =>
                      vload P T_laws_Cnf t2 w_76 fun t75 w_77 => w_77 = w_76 ∧
                      vload P T_laws_Sat t3 w_76 fun t77 w_78 => w_78 = w_76 ∧
                      (vcall P n_laws_toCnf #[t75] w_76 fun t76 w_79 => (vload P T_laws_Sat t3 w_79 fun v x => v = t77 ∧ x = w_79) ∧
                        (vcall P n_laws_toSat #[t77] w_79 fun t78 w_80 =>
                          (vcall P n_impl_SatStep #[t76, t78] w_80 fun t79 w_81 =>
                            (valloc P T_impl_Sat w_81 fun t13 w_82 =>
                              (vstore P T_impl_Sat t13 t79 w_82 fun _ w_83 =>
                                J_2 [t13] w_83) ∧
                              True) ∧
                            True) ∧
                          (valloc P T_impl_Sat w_80 fun t13_1 w_84 =>
                            (vcall P n_impl_SatStep #[t76, t78] w_84 fun t79_1 w_85 =>
                              (vstore P T_impl_Sat t13_1 t79_1 w_85 fun _ w_86 =>
                                J_2 [t13_1] w_86) ∧
                              True) ∧
                            True) ∧
                          True) ∧
                        (valloc P T_impl_Sat w_79 fun t13_2 w_87 => (vload P T_laws_Sat t3 w_87 fun v x => v = t77 ∧ x = w_87) ∧
                          (vcall P n_laws_toSat #[t77] w_87 fun t78_1 w_88 =>
                            (vcall P n_impl_SatStep #[t76, t78_1] w_88 fun t79_2 w_89 =>
                              (vstore P T_impl_Sat t13_2 t79_2 w_89 fun _ w_90 =>
                                J_2 [t13_2] w_90) ∧
                              True) ∧
                            True) ∧
                          True) ∧
                        True) ∧
                      (valloc P T_impl_Sat w_76 fun t13_3 w_91 => (vload P T_laws_Sat t3 w_91 fun v x => v = t77 ∧ x = w_91) ∧ (vload P T_laws_Cnf t2 w_91 fun v x => v = t75 ∧ x = w_91) ∧
                        (vcall P n_laws_toCnf #[t75] w_91 fun t76_1 w_92 => (vload P T_laws_Sat t3 w_92 fun v x => v = t77 ∧ x = w_92) ∧
                          (vcall P n_laws_toSat #[t77] w_92 fun t78_2 w_93 =>
                            (vcall P n_impl_SatStep #[t76_1, t78_2] w_93 fun t79_3 w_94 =>
                              (vstore P T_impl_Sat t13_3 t79_3 w_94 fun _ w_95 =>
                                J_2 [t13_3] w_95) ∧
                              True) ∧
                            True) ∧
                          True) ∧
                        True) ∧
                      True) (fun u_2 _ w_75 =>
                      vload P T_impl_Sat (sl 0 u_2) w_75 fun t80 w_96 =>
                      vload P T_impl_Sat (sl 0 u) w_96 fun t81 w_97 =>
                      vcall P n_laws_eqSat #[t80, t81] w_97 fun t82 w_98 =>
                      vun P .not t82 w_98 fun t83 w_99 =>
                      vif t83 (
                        R (.bool false) w_99) (
                        vload P T_impl_Sat t9 w_99 fun t84 w_100 =>
                        vcall P n_laws_heldSat #[t84, (.int .i64 1)] w_100 fun t86 w_101 =>
                        vbin P .lss T_int true t86 (.int .i64 0) w_101 fun t88 w_102 =>
                        vif t88 (
                          R (.bool false) w_102) (
                          vbin P .neq T_int false t86 t66 w_102 fun t91 w_103 =>
                          vif t91 (
                            R (.bool false) w_103) (
                            R (.bool true) w_103)))))))))))))
def A_laws_FnExactSatStep : Ann := { ord := [(14, [0, 1, 2, 3, 4], [(0, [3, 4]), (1, [2, 3, 4]), (2, [3, 4]), (3, [4])]), (16, [0, 1, 2, 3, 4], [(0, [3, 4]), (1, [2, 3, 4]), (2, [3, 4]), (3, [4])])], loops := [], cuts := [(36873, [6]), (90135, []), (131104, [13])], trees := [(8, (.st 0 (.st 2 (.alt 1 (.alt 3 (.alt 4 (.alt 5 (.alt 6 .nil .no) .no) (.alt 5 (.alt 4 (.alt 6 .nil .no) .no) .no)) (.alt 5 (.alt 3 (.alt 4 (.alt 6 .nil .no) .no) .no) .no)) (.alt 5 (.alt 1 (.alt 3 (.alt 4 (.alt 6 .nil .no) .no) .no) .no) .no)))), [(0, [1, 3, 4, 6]), (1, [3, 4, 6]), (2, [3, 4, 6]), (3, [4, 6]), (4, [6]), (5, [6])]), (31, (.st 0 (.st 2 (.alt 1 (.alt 3 (.alt 4 (.alt 5 (.alt 6 .nil .no) .no) (.alt 5 (.alt 4 (.alt 6 .nil .no) .no) .no)) (.alt 5 (.alt 3 (.alt 4 (.alt 6 .nil .no) .no) .no) .no)) (.alt 5 (.alt 1 (.alt 3 (.alt 4 (.alt 6 .nil .no) .no) .no) .no) .no)))), [(0, [1, 3, 4, 6]), (1, [3, 4, 6]), (2, [3, 4, 6]), (3, [4, 6]), (4, [6]), (5, [6])])] }
theorem k_laws_FnExactSatStep (v0 v1 : Value) (w : World) (R : Value → World → Prop) : vc PP A_laws_FnExactSatStep ((Tryz.f6.body).getD .skip) (retF PP Tryz.f6.results.toList R) (nthV [v0, v1]) w = F_laws_FnExactSatStep PP v0 v1 w R := by kernel_rfl
theorem c_laws_FnExactSatStep {v0 v1 : Value} {w : World} {R : Value → World → Prop} (h : F_laws_FnExactSatStep PP v0 v1 w R) : vcall PP n_laws_FnExactSatStep #[v0, v1] w R :=
  call_of_vc (T := A_laws_FnExactSatStep) (c := (Tryz.f6.body).getD .skip) (n := 92) mixed Tryz.func6 rfl rfl (by kernel_rfl) (by kernel_rfl) rfl (by rw [k_laws_FnExactSatStep]; exact h)

/-- spec.DrawSatRun -/
def F_spec_DrawSatRun (P : Program) (v0 : Value) (w : World) (R : Value → World → Prop) : Prop :=
  valloc P T_impl_Cnf w fun t2 w_1 =>
  vcall P n_spec_l12Open #[v0] w_1 fun t7 w_2 =>
  vcall P n_spec_l4Cnf #[t7] w_2 fun t10 w_3 =>
  vcall P n_spec_l4Bent #[t7, t10] w_3 fun t11 w_4 =>
  valloc P T_impl_Cnf w_4 fun t5 w_5 =>
  vstore P T_impl_Cnf t5 t11 w_5 fun _ w_6 =>
  vdraw w_6 fun w_7 =>
  vload P T_impl_Cnf t5 w_7 fun t12 w_8 => w_8 = w_7 ∧
  vbuildS P T_Lint 10 [(0, (.int .i64 4000)), (1, (.int .i64 100)), (2, (.int .i64 40)), (3, (.int .i64 20)), (4, (.int .i64 8)), (5, (.int .i64 1)), (6, (.int .i64 0)), (7, (.int .i64 (-1))), (8, (.int .i64 4001)), (9, (.int .i64 300))] w_7 fun t14 w_9 => (vload P T_impl_Cnf t5 w_9 fun v x => v = t12 ∧ x = w_9) ∧
  vcall P n_spec_l12Rd_num #[t7, t14] w_9 fun t15 w_10 => (vload P T_impl_Cnf t5 w_10 fun v x => v = t12 ∧ x = w_10) ∧
  vstore P T_impl_Cnf t2 t12 w_10 fun _ w_11 =>
  vlv P T_impl_Cnf t2 w_11 fun r2 w_12 =>
  R (.tuple #[r2, t15]) w_12
def A_spec_DrawSatRun : Ann := { ord := [(3, [0, 1, 2, 3, 4, 5], [(0, [4, 5]), (1, [3, 4, 5]), (2, [3, 4, 5]), (3, [4, 5]), (4, [5])])], loops := [], cuts := [] }
theorem k_spec_DrawSatRun (v0 : Value) (w : World) (R : Value → World → Prop) : vc PP A_spec_DrawSatRun ((Tryz.f7.body).getD .skip) (retF PP Tryz.f7.results.toList R) (nthV [v0]) w = F_spec_DrawSatRun PP v0 w R := by kernel_rfl
theorem c_spec_DrawSatRun {v0 : Value} {w : World} {R : Value → World → Prop} (h : F_spec_DrawSatRun PP v0 w R) : vcall PP n_spec_DrawSatRun #[v0] w R :=
  call_of_vc (T := A_spec_DrawSatRun) (c := (Tryz.f7.body).getD .skip) (n := 16) mixed Tryz.func7 rfl rfl (by kernel_rfl) (by kernel_rfl) rfl (by rw [k_spec_DrawSatRun]; exact h)

/-- impl.SatRun -/
def F_impl_SatRun (P : Program) (v0 v1 : Value) (w : World) (R : Value → World → Prop) : Prop :=
  vbox P T_impl_Cnf v0 w fun t2 w_1 =>
  valloc P T_impl_Sat w_1 fun t4 w_2 =>
  vload P T_impl_Cnf t2 w_2 fun t5 w_3 =>
  vcall P n_impl_CnfOk #[t5] w_3 fun t6 w_4 =>
  vun P .not t6 w_4 fun t7 w_5 =>
  vif t7 (
    vbuild P T_impl_Sat [(3, (.int .i64 4))] w_5 fun t16 w_6 =>
    vstore P T_impl_Sat t4 t16 w_6 fun _ w_7 =>
    vlv P T_impl_Sat t4 w_7 fun r4 w_8 =>
    R r4 w_8) (
    vbin P .lss T_int true v1 (.int .i64 0) w_5 fun t10 w_9 =>
    vif t10 (
      vbuild P T_impl_Sat [(3, (.int .i64 4))] w_9 fun t16_1 w_10 =>
      vstore P T_impl_Sat t4 t16_1 w_10 fun _ w_11 =>
      vlv P T_impl_Sat t4 w_11 fun r4_1 w_12 =>
      R r4_1 w_12) (
      vbin P .gtr T_int true v1 (.int .i64 4000) w_9 fun t14 w_13 =>
      vif t14 (
        vbuild P T_impl_Sat [(3, (.int .i64 4))] w_13 fun t16_2 w_14 =>
        vstore P T_impl_Sat t4 t16_2 w_14 fun _ w_15 =>
        vlv P T_impl_Sat t4 w_15 fun r4_2 w_16 =>
        R r4_2 w_16) (
        vload P T_impl_Cnf t2 w_13 fun t17 w_17 =>
        vcall P n_impl_run #[t17, v1] w_17 fun t19 w_18 =>
        vcall P n_impl_search_sat #[t19] w_18 fun t20 w_19 =>
        vstore P T_impl_Sat t4 t20 w_19 fun _ w_20 =>
        vlv P T_impl_Sat t4 w_20 fun r4_3 w_21 =>
        R r4_3 w_21)))
def A_impl_SatRun : Ann := { ord := [], loops := [], cuts := [] }
theorem k_impl_SatRun (v0 v1 : Value) (w : World) (R : Value → World → Prop) : vc PP A_impl_SatRun ((Tryz.f8.body).getD .skip) (retF PP Tryz.f8.results.toList R) (nthV [v0, v1]) w = F_impl_SatRun PP v0 v1 w R := by kernel_rfl
theorem c_impl_SatRun {v0 v1 : Value} {w : World} {R : Value → World → Prop} (h : F_impl_SatRun PP v0 v1 w R) : vcall PP n_impl_SatRun #[v0, v1] w R :=
  call_of_vc (T := A_impl_SatRun) (c := (Tryz.f8.body).getD .skip) (n := 21) mixed Tryz.func8 rfl rfl (by kernel_rfl) (by kernel_rfl) rfl (by rw [k_impl_SatRun]; exact h)

/-- impl.SatSame -/
def F_impl_SatSame (P : Program) (v0 v1 : Value) (w : World) (R : Value → World → Prop) : Prop :=
  vbox P T_impl_Sat v0 w fun t2 w_1 =>
  vbox P T_impl_Sat v1 w_1 fun t3 w_2 =>
  vfaddr P T_impl_Sat t2 0 w_2 fun t5 w_3 =>
  vload P T_Lint t5 w_3 fun t6 w_4 =>
  vfaddr P T_impl_Sat t3 0 w_4 fun t7 w_5 =>
  vload P T_Lint t7 w_5 fun t8 w_6 =>
  vcall P n_slices_Equal_Lint_int #[t6, t8] w_6 fun t9 w_7 =>
  vif t9 (
    vfaddr P T_impl_Sat t2 1 w_7 fun t11 w_8 =>
    vload P T_Lint t11 w_8 fun t12 w_9 =>
    vfaddr P T_impl_Sat t3 1 w_9 fun t13 w_10 =>
    vload P T_Lint t13 w_10 fun t14 w_11 =>
    vcall P n_slices_Equal_Lint_int #[t12, t14] w_11 fun t15 w_12 =>
    vif t15 (
      vfaddr P T_impl_Sat t2 2 w_12 fun t18 w_13 =>
      vload P T_LLint t18 w_13 fun t19 w_14 =>
      vfaddr P T_impl_Sat t3 2 w_14 fun t20 w_15 =>
      vload P T_LLint t20 w_15 fun t21 w_16 =>
      vcall P n_impl_sameLists #[t19, t21] w_16 fun t22 w_17 =>
      vif t22 (
        vfaddr P T_impl_Sat t2 3 w_17 fun t25 w_18 =>
        vload P T_int t25 w_18 fun t26 w_19 =>
        vfaddr P T_impl_Sat t3 3 w_19 fun t27 w_20 =>
        vload P T_int t27 w_20 fun t28 w_21 =>
        vbin P .eql T_int false t26 t28 w_21 fun t29 w_22 =>
        R t29 w_22) (
        R (.bool false) w_17)) (
      R (.bool false) w_12)) (
    R (.bool false) w_7)
def A_impl_SatSame : Ann := { ord := [], loops := [], cuts := [] }
theorem k_impl_SatSame (v0 v1 : Value) (w : World) (R : Value → World → Prop) : vc PP A_impl_SatSame ((Tryz.f9.body).getD .skip) (retF PP Tryz.f9.results.toList R) (nthV [v0, v1]) w = F_impl_SatSame PP v0 v1 w R := by kernel_rfl
theorem c_impl_SatSame {v0 v1 : Value} {w : World} {R : Value → World → Prop} (h : F_impl_SatSame PP v0 v1 w R) : vcall PP n_impl_SatSame #[v0, v1] w R :=
  call_of_vc (T := A_impl_SatSame) (c := (Tryz.f9.body).getD .skip) (n := 31) mixed Tryz.func9 rfl rfl (by kernel_rfl) (by kernel_rfl) rfl (by rw [k_impl_SatSame]; exact h)

/-- spec.SatRun -/
def F_spec_SatRun (P : Program) (v0 v1 : Value) (w : World) (R : Value → World → Prop) : Prop :=
  vbox P T_impl_Cnf v0 w fun t2 w_1 =>
  valloc P T_impl_Sat w_1 fun t4 w_2 =>
  vload P T_impl_Cnf t2 w_2 fun t5 w_3 =>
  vcall P n_spec_CnfOk #[t5] w_3 fun t6 w_4 =>
  vun P .not t6 w_4 fun t7 w_5 =>
  vif t7 (
    vbuild P T_impl_Sat [(3, (.int .i64 4))] w_5 fun t16 w_6 =>
    vstore P T_impl_Sat t4 t16 w_6 fun _ w_7 =>
    vlv P T_impl_Sat t4 w_7 fun r4 w_8 =>
    R r4 w_8) (
    vbin P .lss T_int true v1 (.int .i64 0) w_5 fun t10 w_9 =>
    vif t10 (
      vbuild P T_impl_Sat [(3, (.int .i64 4))] w_9 fun t16_1 w_10 =>
      vstore P T_impl_Sat t4 t16_1 w_10 fun _ w_11 =>
      vlv P T_impl_Sat t4 w_11 fun r4_1 w_12 =>
      R r4_1 w_12) (
      vbin P .gtr T_int true v1 (.int .i64 4000) w_9 fun t14 w_13 =>
      vif t14 (
        vbuild P T_impl_Sat [(3, (.int .i64 4))] w_13 fun t16_2 w_14 =>
        vstore P T_impl_Sat t4 t16_2 w_14 fun _ w_15 =>
        vlv P T_impl_Sat t4 w_15 fun r4_2 w_16 =>
        R r4_2 w_16) (
        vload P T_impl_Cnf t2 w_13 fun t17 w_17 =>
        vcall P n_spec_l5Run #[t17, v1] w_17 fun t19 w_18 =>
        vcall P n_spec_l5Copy #[t19] w_18 fun t20 w_19 =>
        vstore P T_impl_Sat t4 t20 w_19 fun _ w_20 =>
        vlv P T_impl_Sat t4 w_20 fun r4_3 w_21 =>
        R r4_3 w_21)))
def A_spec_SatRun : Ann := { ord := [], loops := [], cuts := [] }
theorem k_spec_SatRun (v0 v1 : Value) (w : World) (R : Value → World → Prop) : vc PP A_spec_SatRun ((Tryz.f10.body).getD .skip) (retF PP Tryz.f10.results.toList R) (nthV [v0, v1]) w = F_spec_SatRun PP v0 v1 w R := by kernel_rfl
theorem c_spec_SatRun {v0 v1 : Value} {w : World} {R : Value → World → Prop} (h : F_spec_SatRun PP v0 v1 w R) : vcall PP n_spec_SatRun #[v0, v1] w R :=
  call_of_vc (T := A_spec_SatRun) (c := (Tryz.f10.body).getD .skip) (n := 21) mixed Tryz.func10 rfl rfl (by kernel_rfl) (by kernel_rfl) rfl (by rw [k_spec_SatRun]; exact h)

/-- impl.CnfLeast -/
def F_impl_CnfLeast (P : Program) (v0 : Value) (w : World) (R : Value → World → Prop) : Prop :=
  vbox P T_impl_Cnf v0 w fun t1 w_1 =>
  vjoin (fun J =>
    vload P T_impl_Cnf t1 w_1 fun t5 w_3 =>
    vcall P n_impl_CnfOk #[t5] w_3 fun t6 w_4 =>
    vun P .not t6 w_4 fun t7 w_5 =>
    vif t7 (
      R (.tuple #[(.slice none 0 0), (.bool false)]) w_5) (
      vfaddr P T_impl_Cnf t1 0 w_5 fun t9 w_6 =>
      vload P T_int t9 w_6 fun t10 w_7 =>
      vbin P .gtr T_int true t10 (.int .i64 10) w_7 fun t11 w_8 =>
      vif t11 (
        R (.tuple #[(.slice none 0 0), (.bool false)]) w_8) (
        J [] w_8))) (fun _ _ w_2 =>
    vfaddr P T_impl_Cnf t1 0 w_2 fun t13 w_9 =>
    vload P T_int t13 w_9 fun t14 w_10 =>
    vmkS P T_Lbool t14 t14 w_10 fun t15 w_11 =>
    vloop [] w_11 fun C _ _ w_12 =>
      vfaddr P T_impl_Cnf t1 1 w_12 fun t16 w_13 =>
      vload P T_LLint t16 w_13 fun t17 w_14 =>
      vcall P n_impl_holdsAll #[t17, t15] w_14 fun t19 w_15 =>
      vun P .not t19 w_15 fun t20 w_16 =>
      vif t20 (
        vcall P n_impl_countUp #[t15] w_16 fun t22 w_17 =>
        vun P .not t22 w_17 fun t23 w_18 =>
        vif t23 (
          R (.tuple #[(.slice none 0 0), (.bool false)]) w_18) (
          C [] w_18)) (
        R (.tuple #[t15, (.bool true)]) w_16))
def A_impl_CnfLeast : Ann := { ord := [], loops := [(4, [])], cuts := [(8195, [])] }
theorem k_impl_CnfLeast (v0 : Value) (w : World) (R : Value → World → Prop) : vc PP A_impl_CnfLeast ((Tryz.f11.body).getD .skip) (retF PP Tryz.f11.results.toList R) (nthV [v0]) w = F_impl_CnfLeast PP v0 w R := by kernel_rfl
theorem c_impl_CnfLeast {v0 : Value} {w : World} {R : Value → World → Prop} (h : F_impl_CnfLeast PP v0 w R) : vcall PP n_impl_CnfLeast #[v0] w R :=
  call_of_vc (T := A_impl_CnfLeast) (c := (Tryz.f11.body).getD .skip) (n := 25) mixed Tryz.func11 rfl rfl (by kernel_rfl) (by kernel_rfl) rfl (by rw [k_impl_CnfLeast]; exact h)

/-- laws.wpBools -/
def F_laws_wpBools (P : Program) (v0 v1 : Value) (w : World) (R : Value → World → Prop) : Prop :=
  vbi P .len [T_Lbool] T_int [v0] w fun t7 w_1 =>
  vbi P .len [T_Lbool] T_int [v1] w_1 fun t9 w_2 =>
  vbin P .neq T_int false t7 t9 w_2 fun t10 w_3 =>
  vif t10 (
    R (.bool false) w_3) (
    vloop [(.int .i64 0)] w_3 fun C u _ w_4 =>
      vbi P .len [T_Lbool] T_int [v0] w_4 fun t13 w_5 =>
      vbin P .lss T_int false (sl 0 u) t13 w_5 fun t14 w_6 =>
      vif t14 (
        vdraw w_6 fun w_7 =>
        viaddr P T_Lbool v0 (sl 0 u) w_7 fun t19 w_8 => w_8 = w_7 ∧
        vload P T_bool t19 w_7 fun t20 w_9 => w_9 = w_7 ∧
        viaddr P T_Lbool v1 (sl 0 u) w_7 fun t23 w_10 => w_10 = w_7 ∧
        vload P T_bool t23 w_7 fun t24 w_11 => w_11 = w_7 ∧
        vbin P .neq T_bool false t20 t24 w_7 fun t25 w_12 => w_12 = w_7 ∧
        vif t25 (
          R (.bool false) w_7) (
          vbin P .add T_int true (sl 0 u) (.int .i64 1) w_7 fun t16 w_13 =>
          C [t16] w_13)) (
        R (.bool true) w_6))
def A_laws_wpBools : Ann := { ord := [(6, [0, 1, 2, 3, 4, 5, 6, 7, 8], [(0, [2, 3, 8]), (1, [2, 3, 8]), (2, [3, 8]), (3, [8]), (4, [6, 7, 8]), (5, [6, 7, 8]), (6, [7, 8]), (7, [8])])], loops := [(4, [5])], cuts := [] }
theorem k_laws_wpBools (v0 v1 : Value) (w : World) (R : Value → World → Prop) : vc PP A_laws_wpBools ((Tryz.f12.body).getD .skip) (retF PP Tryz.f12.results.toList R) (nthV [v0, v1]) w = F_laws_wpBools PP v0 v1 w R := by kernel_rfl
theorem c_laws_wpBools {v0 v1 : Value} {w : World} {R : Value → World → Prop} (h : F_laws_wpBools PP v0 v1 w R) : vcall PP n_laws_wpBools #[v0, v1] w R :=
  call_of_vc (T := A_laws_wpBools) (c := (Tryz.f12.body).getD .skip) (n := 26) mixed Tryz.func12 rfl rfl (by kernel_rfl) (by kernel_rfl) rfl (by rw [k_laws_wpBools]; exact h)

/-- impl.SatVals -/
def F_impl_SatVals (P : Program) (v0 v1 : Value) (w : World) (R : Value → World → Prop) : Prop :=
  vbox P T_impl_Cnf v0 w fun t2 w_1 =>
  vbox P T_impl_Sat v1 w_1 fun t3 w_2 =>
  vload P T_impl_Cnf t2 w_2 fun t8 w_3 =>
  vload P T_impl_Sat t3 w_3 fun t9 w_4 =>
  vcall P n_impl_readSat #[t8, t9] w_4 fun t10 w_5 =>
  vextract P t10 0 w_5 fun t11 w_6 =>
  vextract P t10 1 w_6 fun t12 w_7 =>
  vun P .not t12 w_7 fun t14 w_8 =>
  vif t14 (
    R (.slice none 0 0) w_8) (
    vcall P n_impl_search_vals #[t11] w_8 fun t16 w_9 =>
    R t16 w_9)
def A_impl_SatVals : Ann := { ord := [], loops := [], cuts := [] }
theorem k_impl_SatVals (v0 v1 : Value) (w : World) (R : Value → World → Prop) : vc PP A_impl_SatVals ((Tryz.f13.body).getD .skip) (retF PP Tryz.f13.results.toList R) (nthV [v0, v1]) w = F_impl_SatVals PP v0 v1 w R := by kernel_rfl
theorem c_impl_SatVals {v0 v1 : Value} {w : World} {R : Value → World → Prop} (h : F_impl_SatVals PP v0 v1 w R) : vcall PP n_impl_SatVals #[v0, v1] w R :=
  call_of_vc (T := A_impl_SatVals) (c := (Tryz.f13.body).getD .skip) (n := 17) mixed Tryz.func13 rfl rfl (by kernel_rfl) (by kernel_rfl) rfl (by rw [k_impl_SatVals]; exact h)

/-- spec.DrawSatStep -/
def F_spec_DrawSatStep (P : Program) (v0 : Value) (w : World) (R : Value → World → Prop) : Prop :=
  valloc P T_impl_Cnf w fun t2 w_1 =>
  valloc P T_impl_Sat w_1 fun t3 w_2 =>
  vcall P n_spec_l12Open #[v0] w_2 fun t5 w_3 =>
  vcall P n_spec_l5Some #[t5] w_3 fun t6 w_4 =>
  vextract P t6 0 w_4 fun t7 w_5 =>
  vextract P t6 1 w_5 fun t8 w_6 =>
  vstore P T_impl_Cnf t2 t7 w_6 fun _ w_7 =>
  vstore P T_impl_Sat t3 t8 w_7 fun _ w_8 =>
  vlv P T_impl_Cnf t2 w_8 fun r2 w_9 =>
  vlv P T_impl_Sat t3 w_9 fun r3 w_10 =>
  R (.tuple #[r2, r3]) w_10
def A_spec_DrawSatStep : Ann := { ord := [], loops := [], cuts := [] }
theorem k_spec_DrawSatStep (v0 : Value) (w : World) (R : Value → World → Prop) : vc PP A_spec_DrawSatStep ((Tryz.f14.body).getD .skip) (retF PP Tryz.f14.results.toList R) (nthV [v0]) w = F_spec_DrawSatStep PP v0 w R := by kernel_rfl
theorem c_spec_DrawSatStep {v0 : Value} {w : World} {R : Value → World → Prop} (h : F_spec_DrawSatStep PP v0 w R) : vcall PP n_spec_DrawSatStep #[v0] w R :=
  call_of_vc (T := A_spec_DrawSatStep) (c := (Tryz.f14.body).getD .skip) (n := 9) mixed Tryz.func14 rfl rfl (by kernel_rfl) (by kernel_rfl) rfl (by rw [k_spec_DrawSatStep]; exact h)

/-- impl.SatStep -/
def F_impl_SatStep (P : Program) (v0 v1 : Value) (w : World) (R : Value → World → Prop) : Prop :=
  vbox P T_impl_Cnf v0 w fun t2 w_1 =>
  vbox P T_impl_Sat v1 w_1 fun t3 w_2 =>
  valloc P T_impl_Sat w_2 fun t4 w_3 =>
  vload P T_impl_Cnf t2 w_3 fun t8 w_4 =>
  vload P T_impl_Sat t3 w_4 fun t9 w_5 =>
  vcall P n_impl_readSat #[t8, t9] w_5 fun t10 w_6 =>
  vextract P t10 0 w_6 fun t11 w_7 =>
  vextract P t10 1 w_7 fun t12 w_8 =>
  vun P .not t12 w_8 fun t14 w_9 =>
  vif t14 (
    vbuild P T_impl_Sat [(3, (.int .i64 4))] w_9 fun t15 w_10 =>
    vstore P T_impl_Sat t4 t15 w_10 fun _ w_11 =>
    vlv P T_impl_Sat t4 w_11 fun r4 w_12 =>
    R r4 w_12) (
    vcall P n_impl_search_step #[t11] w_9 fun _ w_13 =>
    vcall P n_impl_search_sat #[t11] w_13 fun t19 w_14 =>
    vstore P T_impl_Sat t4 t19 w_14 fun _ w_15 =>
    vlv P T_impl_Sat t4 w_15 fun r4_1 w_16 =>
    R r4_1 w_16)
def A_impl_SatStep : Ann := { ord := [], loops := [], cuts := [] }
theorem k_impl_SatStep (v0 v1 : Value) (w : World) (R : Value → World → Prop) : vc PP A_impl_SatStep ((Tryz.f15.body).getD .skip) (retF PP Tryz.f15.results.toList R) (nthV [v0, v1]) w = F_impl_SatStep PP v0 v1 w R := by kernel_rfl
theorem c_impl_SatStep {v0 v1 : Value} {w : World} {R : Value → World → Prop} (h : F_impl_SatStep PP v0 v1 w R) : vcall PP n_impl_SatStep #[v0, v1] w R :=
  call_of_vc (T := A_impl_SatStep) (c := (Tryz.f15.body).getD .skip) (n := 20) mixed Tryz.func15 rfl rfl (by kernel_rfl) (by kernel_rfl) rfl (by rw [k_impl_SatStep]; exact h)

/-- spec.SatStep -/
def F_spec_SatStep (P : Program) (v0 v1 : Value) (w : World) (R : Value → World → Prop) : Prop :=
  vbox P T_impl_Cnf v0 w fun t2 w_1 =>
  vbox P T_impl_Sat v1 w_1 fun t3 w_2 =>
  valloc P T_impl_Sat w_2 fun t4 w_3 =>
  vload P T_impl_Cnf t2 w_3 fun t5 w_4 =>
  vload P T_impl_Sat t3 w_4 fun t6 w_5 =>
  vcall P n_spec_SatOk #[t5, t6] w_5 fun t7 w_6 =>
  vun P .not t7 w_6 fun t8 w_7 =>
  vif t8 (
    vbuild P T_impl_Sat [(3, (.int .i64 4))] w_7 fun t9 w_8 =>
    vstore P T_impl_Sat t4 t9 w_8 fun _ w_9 =>
    vlv P T_impl_Sat t4 w_9 fun r4 w_10 =>
    R r4 w_10) (
    vfaddr P T_impl_Sat t3 3 w_7 fun t10 w_11 =>
    vload P T_int t10 w_11 fun t11 w_12 =>
    vbin P .neq T_int true t11 (.int .i64 0) w_12 fun t12 w_13 =>
    vif t12 (
      vload P T_impl_Sat t3 w_13 fun t13 w_14 =>
      vcall P n_spec_l5Copy #[t13] w_14 fun t14 w_15 =>
      vstore P T_impl_Sat t4 t14 w_15 fun _ w_16 =>
      vlv P T_impl_Sat t4 w_16 fun r4_1 w_17 =>
      R r4_1 w_17) (
      vdraw w_13 fun w_18 =>
      vload P T_impl_Cnf t2 w_18 fun t15 w_19 => w_19 = w_18 ∧
      vload P T_impl_Sat t3 w_18 fun t16 w_20 => w_20 = w_18 ∧
      vcall P n_spec_l5Copy #[t16] w_18 fun t17 w_21 => (vload P T_impl_Cnf t2 w_21 fun v x => v = t15 ∧ x = w_21) ∧
      vcall P n_spec_l5Do #[t15, t17] w_21 fun t18 w_22 =>
      vcall P n_spec_l5Copy #[t18] w_22 fun t19 w_23 =>
      vstore P T_impl_Sat t4 t19 w_23 fun _ w_24 =>
      vlv P T_impl_Sat t4 w_24 fun r4_2 w_25 =>
      R r4_2 w_25))
def A_spec_SatStep : Ann := { ord := [(5, [0, 1, 2, 3, 4, 5], [(0, [3, 4, 5]), (1, [2, 3, 4, 5]), (2, [3, 4, 5]), (3, [4, 5]), (4, [5])])], loops := [], cuts := [] }
theorem k_spec_SatStep (v0 v1 : Value) (w : World) (R : Value → World → Prop) : vc PP A_spec_SatStep ((Tryz.f16.body).getD .skip) (retF PP Tryz.f16.results.toList R) (nthV [v0, v1]) w = F_spec_SatStep PP v0 v1 w R := by kernel_rfl
theorem c_spec_SatStep {v0 v1 : Value} {w : World} {R : Value → World → Prop} (h : F_spec_SatStep PP v0 v1 w R) : vcall PP n_spec_SatStep #[v0, v1] w R :=
  call_of_vc (T := A_spec_SatStep) (c := (Tryz.f16.body).getD .skip) (n := 20) mixed Tryz.func16 rfl rfl (by kernel_rfl) (by kernel_rfl) rfl (by rw [k_spec_SatStep]; exact h)

/-- spec.SatOk -/
def F_spec_SatOk (P : Program) (v0 v1 : Value) (w : World) (R : Value → World → Prop) : Prop :=
  vbox P T_impl_Cnf v0 w fun t2 w_1 =>
  vbox P T_impl_Sat v1 w_1 fun t3 w_2 =>
  vjoin (fun J =>
    vload P T_impl_Cnf t2 w_2 fun t6 w_4 =>
    vcall P n_spec_CnfOk #[t6] w_4 fun t7 w_5 =>
    vun P .not t7 w_5 fun t8 w_6 =>
    vif t8 (
      R (.bool false) w_6) (
      vfaddr P T_impl_Sat t3 2 w_6 fun t10 w_7 =>
      vload P T_LLint t10 w_7 fun t11 w_8 =>
      vbi P .len [T_LLint] T_int [t11] w_8 fun t12 w_9 =>
      vbin P .gtr T_int true t12 (.int .i64 300) w_9 fun t13 w_10 =>
      vif t13 (
        R (.bool false) w_10) (
        vfaddr P T_impl_Sat t3 3 w_10 fun t16 w_11 =>
        vload P T_int t16 w_11 fun t17 w_12 =>
        vbin P .lss T_int true t17 (.int .i64 0) w_12 fun t18 w_13 =>
        vif t18 (
          R (.bool false) w_13) (
          vfaddr P T_impl_Sat t3 3 w_13 fun t21 w_14 =>
          vload P T_int t21 w_14 fun t22 w_15 =>
          vbin P .gtr T_int true t22 (.int .i64 3) w_15 fun t23 w_16 =>
          vif t23 (
            R (.bool false) w_16) (
            vfaddr P T_impl_Sat t3 0 w_16 fun t26 w_17 =>
            vload P T_Lint t26 w_17 fun t27 w_18 =>
            vbi P .len [T_Lint] T_int [t27] w_18 fun t28 w_19 =>
            vfaddr P T_impl_Sat t3 1 w_19 fun t29 w_20 =>
            vload P T_Lint t29 w_20 fun t30 w_21 =>
            vbi P .len [T_Lint] T_int [t30] w_21 fun t31 w_22 =>
            vbin P .neq T_int false t28 t31 w_22 fun t32 w_23 =>
            vif t32 (
              R (.bool false) w_23) (
              vload P T_impl_Cnf t2 w_23 fun t35 w_24 =>
              vfaddr P T_impl_Sat t3 0 w_24 fun t36 w_25 =>
              vload P T_Lint t36 w_25 fun t37 w_26 =>
              vcall P n_spec_l5Marks #[t35, t37] w_26 fun t38 w_27 =>
              vun P .not t38 w_27 fun t39 w_28 =>
              vif t39 (
                R (.bool false) w_28) (
                J [] w_28))))))) (fun _ _ w_3 =>
    vloop [(.int .i64 0)] w_3 fun C u_1 _ w_29 =>
      vfaddr P T_impl_Sat t3 2 w_29 fun t42 w_30 =>
      vload P T_LLint t42 w_30 fun t43 w_31 =>
      vbi P .len [T_LLint] T_int [t43] w_31 fun t44 w_32 =>
      vbin P .lss T_int false (sl 0 u_1) t44 w_32 fun t45 w_33 =>
      vif t45 (
        vdraw w_33 fun w_34 =>
        vfaddr P T_impl_Sat t3 2 w_34 fun t48 w_35 => w_35 = w_34 ∧
        vload P T_LLint t48 w_34 fun t49 w_36 => w_36 = w_34 ∧
        viaddr P T_LLint t49 (sl 0 u_1) w_34 fun t51 w_37 => w_37 = w_34 ∧
        vload P T_Lint t51 w_34 fun t52 w_38 => w_38 = w_34 ∧
        vfaddr P T_impl_Cnf t2 0 w_34 fun t53 w_39 => w_39 = w_34 ∧
        vload P T_int t53 w_34 fun t54 w_40 => w_40 = w_34 ∧
        vcall P n_spec_l4Clause #[t52, t54] w_34 fun t55 w_41 =>
        vun P .not t55 w_41 fun t56 w_42 => w_42 = w_41 ∧
        vif t56 (
          R (.bool false) w_41) (
          vbin P .add T_int true (sl 0 u_1) (.int .i64 1) w_41 fun t47 w_43 =>
          C [t47] w_43)) (
        vload P T_impl_Cnf t2 w_33 fun t57 w_44 =>
        vload P T_impl_Sat t3 w_44 fun t58 w_45 =>
        vcall P n_spec_l5Whys #[t57, t58] w_45 fun t59 w_46 =>
        R t59 w_46))
def A_spec_SatOk : Ann := { ord := [(6, [0, 1, 2, 3, 4, 5, 6, 7, 8], [(0, [1, 3, 4, 7, 8]), (1, [3, 4, 7, 8]), (2, [3, 4, 7, 8]), (3, [4, 7, 8]), (4, [7, 8]), (5, [6, 7, 8]), (6, [7, 8]), (7, [8])])], loops := [(4, [5])], cuts := [(8195, [])] }
theorem k_spec_SatOk (v0 v1 : Value) (w : World) (R : Value → World → Prop) : vc PP A_spec_SatOk ((Tryz.f17.body).getD .skip) (retF PP Tryz.f17.results.toList R) (nthV [v0, v1]) w = F_spec_SatOk PP v0 v1 w R := by kernel_rfl
theorem c_spec_SatOk {v0 v1 : Value} {w : World} {R : Value → World → Prop} (h : F_spec_SatOk PP v0 v1 w R) : vcall PP n_spec_SatOk #[v0, v1] w R :=
  call_of_vc (T := A_spec_SatOk) (c := (Tryz.f17.body).getD .skip) (n := 60) mixed Tryz.func17 rfl rfl (by kernel_rfl) (by kernel_rfl) rfl (by rw [k_spec_SatOk]; exact h)

/-- laws.wpInts -/
def F_laws_wpInts (P : Program) (v0 v1 : Value) (w : World) (R : Value → World → Prop) : Prop :=
  vbi P .len [T_Lint] T_int [v0] w fun t7 w_1 =>
  vbi P .len [T_Lint] T_int [v1] w_1 fun t9 w_2 =>
  vbin P .neq T_int false t7 t9 w_2 fun t10 w_3 =>
  vif t10 (
    R (.bool false) w_3) (
    vloop [(.int .i64 0)] w_3 fun C u _ w_4 =>
      vbi P .len [T_Lint] T_int [v0] w_4 fun t13 w_5 =>
      vbin P .lss T_int false (sl 0 u) t13 w_5 fun t14 w_6 =>
      vif t14 (
        vdraw w_6 fun w_7 =>
        viaddr P T_Lint v0 (sl 0 u) w_7 fun t19 w_8 => w_8 = w_7 ∧
        vload P T_int t19 w_7 fun t20 w_9 => w_9 = w_7 ∧
        viaddr P T_Lint v1 (sl 0 u) w_7 fun t23 w_10 => w_10 = w_7 ∧
        vload P T_int t23 w_7 fun t24 w_11 => w_11 = w_7 ∧
        vbin P .neq T_int false t20 t24 w_7 fun t25 w_12 => w_12 = w_7 ∧
        vif t25 (
          R (.bool false) w_7) (
          vbin P .add T_int true (sl 0 u) (.int .i64 1) w_7 fun t16 w_13 =>
          C [t16] w_13)) (
        R (.bool true) w_6))
def A_laws_wpInts : Ann := { ord := [(6, [0, 1, 2, 3, 4, 5, 6, 7, 8], [(0, [2, 3, 8]), (1, [2, 3, 8]), (2, [3, 8]), (3, [8]), (4, [6, 7, 8]), (5, [6, 7, 8]), (6, [7, 8]), (7, [8])])], loops := [(4, [5])], cuts := [] }
theorem k_laws_wpInts (v0 v1 : Value) (w : World) (R : Value → World → Prop) : vc PP A_laws_wpInts ((Tryz.f18.body).getD .skip) (retF PP Tryz.f18.results.toList R) (nthV [v0, v1]) w = F_laws_wpInts PP v0 v1 w R := by kernel_rfl
theorem c_laws_wpInts {v0 v1 : Value} {w : World} {R : Value → World → Prop} (h : F_laws_wpInts PP v0 v1 w R) : vcall PP n_laws_wpInts #[v0, v1] w R :=
  call_of_vc (T := A_laws_wpInts) (c := (Tryz.f18.body).getD .skip) (n := 26) mixed Tryz.func18 rfl rfl (by kernel_rfl) (by kernel_rfl) rfl (by rw [k_laws_wpInts]; exact h)

/-- impl.SatOk -/
def F_impl_SatOk (P : Program) (v0 v1 : Value) (w : World) (R : Value → World → Prop) : Prop :=
  vbox P T_impl_Cnf v0 w fun t2 w_1 =>
  vbox P T_impl_Sat v1 w_1 fun t3 w_2 =>
  vload P T_impl_Cnf t2 w_2 fun t8 w_3 =>
  vload P T_impl_Sat t3 w_3 fun t9 w_4 =>
  vcall P n_impl_readSat #[t8, t9] w_4 fun t10 w_5 =>
  vextract P t10 0 w_5 fun _ w_6 =>
  vextract P t10 1 w_6 fun t12 w_7 =>
  R t12 w_7
def A_impl_SatOk : Ann := { ord := [], loops := [], cuts := [] }
theorem k_impl_SatOk (v0 v1 : Value) (w : World) (R : Value → World → Prop) : vc PP A_impl_SatOk ((Tryz.f19.body).getD .skip) (retF PP Tryz.f19.results.toList R) (nthV [v0, v1]) w = F_impl_SatOk PP v0 v1 w R := by kernel_rfl
theorem c_impl_SatOk {v0 v1 : Value} {w : World} {R : Value → World → Prop} (h : F_impl_SatOk PP v0 v1 w R) : vcall PP n_impl_SatOk #[v0, v1] w R :=
  call_of_vc (T := A_impl_SatOk) (c := (Tryz.f19.body).getD .skip) (n := 14) mixed Tryz.func19 rfl rfl (by kernel_rfl) (by kernel_rfl) rfl (by rw [k_impl_SatOk]; exact h)

/-- laws.szCnf -/
def F_laws_szCnf (P : Program) (v0 v1 : Value) (w : World) (R : Value → World → Prop) : Prop :=
  vbox P T_laws_Cnf v0 w fun t2 w_1 =>
  vfaddr P T_laws_Cnf t2 1 w_1 fun t5 w_2 =>
  vload P T_LLint t5 w_2 fun t6 w_3 =>
  vcall P n_laws_szIntSS #[t6, v1] w_3 fun t8 w_4 =>
  vbin P .lss T_int true t8 (.int .i64 0) w_4 fun t10 w_5 =>
  vif t10 (
    R (.int .i64 (-1)) w_5) (
    R t8 w_5)
def A_laws_szCnf : Ann := { ord := [], loops := [], cuts := [] }
theorem k_laws_szCnf (v0 v1 : Value) (w : World) (R : Value → World → Prop) : vc PP A_laws_szCnf ((Tryz.f20.body).getD .skip) (retF PP Tryz.f20.results.toList R) (nthV [v0, v1]) w = F_laws_szCnf PP v0 v1 w R := by kernel_rfl
theorem c_laws_szCnf {v0 v1 : Value} {w : World} {R : Value → World → Prop} (h : F_laws_szCnf PP v0 v1 w R) : vcall PP n_laws_szCnf #[v0, v1] w R :=
  call_of_vc (T := A_laws_szCnf) (c := (Tryz.f20.body).getD .skip) (n := 12) mixed Tryz.func20 rfl rfl (by kernel_rfl) (by kernel_rfl) rfl (by rw [k_laws_szCnf]; exact h)

/-- laws.szSat -/
def F_laws_szSat (P : Program) (v0 v1 : Value) (w : World) (R : Value → World → Prop) : Prop :=
  vbox P T_laws_Sat v0 w fun t2 w_1 =>
  vfaddr P T_laws_Sat t2 0 w_1 fun t5 w_2 =>
  vload P T_Lint t5 w_2 fun t6 w_3 =>
  vcall P n_laws_szIntS #[t6, v1] w_3 fun t8 w_4 =>
  vbin P .lss T_int true t8 (.int .i64 0) w_4 fun t10 w_5 =>
  vif t10 (
    R (.int .i64 (-1)) w_5) (
    vfaddr P T_laws_Sat t2 1 w_5 fun t11 w_6 =>
    vload P T_Lint t11 w_6 fun t12 w_7 =>
    vcall P n_laws_szIntS #[t12, t8] w_7 fun t14 w_8 =>
    vbin P .lss T_int true t14 (.int .i64 0) w_8 fun t16 w_9 =>
    vif t16 (
      R (.int .i64 (-1)) w_9) (
      vfaddr P T_laws_Sat t2 2 w_9 fun t17 w_10 =>
      vload P T_LLint t17 w_10 fun t18 w_11 =>
      vcall P n_laws_szIntSS #[t18, t14] w_11 fun t20 w_12 =>
      vbin P .lss T_int true t20 (.int .i64 0) w_12 fun t22 w_13 =>
      vif t22 (
        R (.int .i64 (-1)) w_13) (
        R t20 w_13)))
def A_laws_szSat : Ann := { ord := [], loops := [], cuts := [] }
theorem k_laws_szSat (v0 v1 : Value) (w : World) (R : Value → World → Prop) : vc PP A_laws_szSat ((Tryz.f21.body).getD .skip) (retF PP Tryz.f21.results.toList R) (nthV [v0, v1]) w = F_laws_szSat PP v0 v1 w R := by kernel_rfl
theorem c_laws_szSat {v0 v1 : Value} {w : World} {R : Value → World → Prop} (h : F_laws_szSat PP v0 v1 w R) : vcall PP n_laws_szSat #[v0, v1] w R :=
  call_of_vc (T := A_laws_szSat) (c := (Tryz.f21.body).getD .skip) (n := 24) mixed Tryz.func21 rfl rfl (by kernel_rfl) (by kernel_rfl) rfl (by rw [k_laws_szSat]; exact h)

/-- laws.toCnf -/
def F_laws_toCnf (P : Program) (v0 : Value) (w : World) (R : Value → World → Prop) : Prop :=
  vbox P T_laws_Cnf v0 w fun t1 w_1 =>
  valloc P T_impl_Cnf w_1 fun t2 w_2 =>
  valloc P T_impl_Cnf w_2 fun t3 w_3 =>
  vfaddr P T_laws_Cnf t1 0 w_3 fun t4 w_4 =>
  vload P T_int t4 w_4 fun t5 w_5 =>
  vfaddr P T_impl_Cnf t3 0 w_5 fun t6 w_6 =>
  vstore P T_int t6 t5 w_6 fun _ w_7 =>
  vfaddr P T_laws_Cnf t1 1 w_7 fun t7 w_8 =>
  vload P T_LLint t7 w_8 fun t8 w_9 =>
  vcall P n_laws_toIntSS #[t8] w_9 fun t9 w_10 =>
  vfaddr P T_impl_Cnf t3 1 w_10 fun t10 w_11 =>
  vstore P T_LLint t10 t9 w_11 fun _ w_12 =>
  vload P T_impl_Cnf t3 w_12 fun t11 w_13 =>
  vstore P T_impl_Cnf t2 t11 w_13 fun _ w_14 =>
  vlv P T_impl_Cnf t2 w_14 fun r2 w_15 =>
  R r2 w_15
def A_laws_toCnf : Ann := { ord := [], loops := [], cuts := [] }
theorem k_laws_toCnf (v0 : Value) (w : World) (R : Value → World → Prop) : vc PP A_laws_toCnf ((Tryz.f22.body).getD .skip) (retF PP Tryz.f22.results.toList R) (nthV [v0]) w = F_laws_toCnf PP v0 w R := by kernel_rfl
theorem c_laws_toCnf {v0 : Value} {w : World} {R : Value → World → Prop} (h : F_laws_toCnf PP v0 w R) : vcall PP n_laws_toCnf #[v0] w R :=
  call_of_vc (T := A_laws_toCnf) (c := (Tryz.f22.body).getD .skip) (n := 12) mixed Tryz.func22 rfl rfl (by kernel_rfl) (by kernel_rfl) rfl (by rw [k_laws_toCnf]; exact h)

/-- laws.toSat -/
def F_laws_toSat (P : Program) (v0 : Value) (w : World) (R : Value → World → Prop) : Prop :=
  vbox P T_laws_Sat v0 w fun t1 w_1 =>
  valloc P T_impl_Sat w_1 fun t2 w_2 =>
  valloc P T_impl_Sat w_2 fun t3 w_3 =>
  vfaddr P T_laws_Sat t1 0 w_3 fun t4 w_4 =>
  vload P T_Lint t4 w_4 fun t5 w_5 =>
  vcall P n_laws_toIntS #[t5] w_5 fun t6 w_6 =>
  vfaddr P T_impl_Sat t3 0 w_6 fun t7 w_7 =>
  vstore P T_Lint t7 t6 w_7 fun _ w_8 =>
  vfaddr P T_laws_Sat t1 1 w_8 fun t8 w_9 =>
  vload P T_Lint t8 w_9 fun t9 w_10 =>
  vcall P n_laws_toIntS #[t9] w_10 fun t10 w_11 =>
  vfaddr P T_impl_Sat t3 1 w_11 fun t11 w_12 =>
  vstore P T_Lint t11 t10 w_12 fun _ w_13 =>
  vfaddr P T_laws_Sat t1 2 w_13 fun t12 w_14 =>
  vload P T_LLint t12 w_14 fun t13 w_15 =>
  vcall P n_laws_toIntSS #[t13] w_15 fun t14 w_16 =>
  vfaddr P T_impl_Sat t3 2 w_16 fun t15 w_17 =>
  vstore P T_LLint t15 t14 w_17 fun _ w_18 =>
  vfaddr P T_laws_Sat t1 3 w_18 fun t16 w_19 =>
  vload P T_int t16 w_19 fun t17 w_20 =>
  vfaddr P T_impl_Sat t3 3 w_20 fun t18 w_21 =>
  vstore P T_int t18 t17 w_21 fun _ w_22 =>
  vload P T_impl_Sat t3 w_22 fun t19 w_23 =>
  vstore P T_impl_Sat t2 t19 w_23 fun _ w_24 =>
  vlv P T_impl_Sat t2 w_24 fun r2 w_25 =>
  R r2 w_25
def A_laws_toSat : Ann := { ord := [], loops := [], cuts := [] }
theorem k_laws_toSat (v0 : Value) (w : World) (R : Value → World → Prop) : vc PP A_laws_toSat ((Tryz.f23.body).getD .skip) (retF PP Tryz.f23.results.toList R) (nthV [v0]) w = F_laws_toSat PP v0 w R := by kernel_rfl
theorem c_laws_toSat {v0 : Value} {w : World} {R : Value → World → Prop} (h : F_laws_toSat PP v0 w R) : vcall PP n_laws_toSat #[v0] w R :=
  call_of_vc (T := A_laws_toSat) (c := (Tryz.f23.body).getD .skip) (n := 20) mixed Tryz.func23 rfl rfl (by kernel_rfl) (by kernel_rfl) rfl (by rw [k_laws_toSat]; exact h)

/-- laws.eqSat -/
def F_laws_eqSat (P : Program) (v0 v1 : Value) (w : World) (R : Value → World → Prop) : Prop :=
  vbox P T_impl_Sat v0 w fun t2 w_1 =>
  vbox P T_impl_Sat v1 w_1 fun t3 w_2 =>
  vfaddr P T_impl_Sat t2 0 w_2 fun t5 w_3 =>
  vload P T_Lint t5 w_3 fun t6 w_4 =>
  vfaddr P T_impl_Sat t3 0 w_4 fun t7 w_5 =>
  vload P T_Lint t7 w_5 fun t8 w_6 =>
  vcall P n_laws_eqIntS #[t6, t8] w_6 fun t9 w_7 =>
  vun P .not t9 w_7 fun t10 w_8 =>
  vif t10 (
    R (.bool false) w_8) (
    vfaddr P T_impl_Sat t2 1 w_8 fun t11 w_9 =>
    vload P T_Lint t11 w_9 fun t12 w_10 =>
    vfaddr P T_impl_Sat t3 1 w_10 fun t13 w_11 =>
    vload P T_Lint t13 w_11 fun t14 w_12 =>
    vcall P n_laws_eqIntS #[t12, t14] w_12 fun t15 w_13 =>
    vun P .not t15 w_13 fun t16 w_14 =>
    vif t16 (
      R (.bool false) w_14) (
      vfaddr P T_impl_Sat t2 2 w_14 fun t17 w_15 =>
      vload P T_LLint t17 w_15 fun t18 w_16 =>
      vfaddr P T_impl_Sat t3 2 w_16 fun t19 w_17 =>
      vload P T_LLint t19 w_17 fun t20 w_18 =>
      vcall P n_laws_eqIntSS #[t18, t20] w_18 fun t21 w_19 =>
      vun P .not t21 w_19 fun t22 w_20 =>
      vif t22 (
        R (.bool false) w_20) (
        vfaddr P T_impl_Sat t2 3 w_20 fun t23 w_21 =>
        vload P T_int t23 w_21 fun t24 w_22 =>
        vfaddr P T_impl_Sat t3 3 w_22 fun t25 w_23 =>
        vload P T_int t25 w_23 fun t26 w_24 =>
        vbin P .neq T_int false t24 t26 w_24 fun t27 w_25 =>
        vif t27 (
          R (.bool false) w_25) (
          R (.bool true) w_25))))
def A_laws_eqSat : Ann := { ord := [], loops := [], cuts := [] }
theorem k_laws_eqSat (v0 v1 : Value) (w : World) (R : Value → World → Prop) : vc PP A_laws_eqSat ((Tryz.f24.body).getD .skip) (retF PP Tryz.f24.results.toList R) (nthV [v0, v1]) w = F_laws_eqSat PP v0 v1 w R := by kernel_rfl
theorem c_laws_eqSat {v0 v1 : Value} {w : World} {R : Value → World → Prop} (h : F_laws_eqSat PP v0 v1 w R) : vcall PP n_laws_eqSat #[v0, v1] w R :=
  call_of_vc (T := A_laws_eqSat) (c := (Tryz.f24.body).getD .skip) (n := 28) mixed Tryz.func24 rfl rfl (by kernel_rfl) (by kernel_rfl) rfl (by rw [k_laws_eqSat]; exact h)

/-- laws.eqCnf -/
def F_laws_eqCnf (P : Program) (v0 v1 : Value) (w : World) (R : Value → World → Prop) : Prop :=
  vbox P T_impl_Cnf v0 w fun t2 w_1 =>
  vbox P T_impl_Cnf v1 w_1 fun t3 w_2 =>
  vfaddr P T_impl_Cnf t2 0 w_2 fun t5 w_3 =>
  vload P T_int t5 w_3 fun t6 w_4 =>
  vfaddr P T_impl_Cnf t3 0 w_4 fun t7 w_5 =>
  vload P T_int t7 w_5 fun t8 w_6 =>
  vbin P .neq T_int false t6 t8 w_6 fun t9 w_7 =>
  vif t9 (
    R (.bool false) w_7) (
    vfaddr P T_impl_Cnf t2 1 w_7 fun t10 w_8 =>
    vload P T_LLint t10 w_8 fun t11 w_9 =>
    vfaddr P T_impl_Cnf t3 1 w_9 fun t12 w_10 =>
    vload P T_LLint t12 w_10 fun t13 w_11 =>
    vcall P n_laws_eqIntSS #[t11, t13] w_11 fun t14 w_12 =>
    vun P .not t14 w_12 fun t15 w_13 =>
    vif t15 (
      R (.bool false) w_13) (
      R (.bool true) w_13))
def A_laws_eqCnf : Ann := { ord := [], loops := [], cuts := [] }
theorem k_laws_eqCnf (v0 v1 : Value) (w : World) (R : Value → World → Prop) : vc PP A_laws_eqCnf ((Tryz.f25.body).getD .skip) (retF PP Tryz.f25.results.toList R) (nthV [v0, v1]) w = F_laws_eqCnf PP v0 v1 w R := by kernel_rfl
theorem c_laws_eqCnf {v0 v1 : Value} {w : World} {R : Value → World → Prop} (h : F_laws_eqCnf PP v0 v1 w R) : vcall PP n_laws_eqCnf #[v0, v1] w R :=
  call_of_vc (T := A_laws_eqCnf) (c := (Tryz.f25.body).getD .skip) (n := 16) mixed Tryz.func25 rfl rfl (by kernel_rfl) (by kernel_rfl) rfl (by rw [k_laws_eqCnf]; exact h)

/-- laws.markCnf -/
def F_laws_markCnf (P : Program) (v0 v1 : Value) (w : World) (R : Value → World → Prop) : Prop :=
  vbox P T_impl_Cnf v0 w fun t2 w_1 =>
  vfaddr P T_impl_Cnf t2 1 w_1 fun t5 w_2 =>
  vload P T_LLint t5 w_2 fun t6 w_3 =>
  vcall P n_laws_markIntSS #[t6, v1] w_3 fun t8 w_4 =>
  R t8 w_4
def A_laws_markCnf : Ann := { ord := [], loops := [], cuts := [] }
theorem k_laws_markCnf (v0 v1 : Value) (w : World) (R : Value → World → Prop) : vc PP A_laws_markCnf ((Tryz.f26.body).getD .skip) (retF PP Tryz.f26.results.toList R) (nthV [v0, v1]) w = F_laws_markCnf PP v0 v1 w R := by kernel_rfl
theorem c_laws_markCnf {v0 v1 : Value} {w : World} {R : Value → World → Prop} (h : F_laws_markCnf PP v0 v1 w R) : vcall PP n_laws_markCnf #[v0, v1] w R :=
  call_of_vc (T := A_laws_markCnf) (c := (Tryz.f26.body).getD .skip) (n := 10) mixed Tryz.func26 rfl rfl (by kernel_rfl) (by kernel_rfl) rfl (by rw [k_laws_markCnf]; exact h)

/-- laws.markSat -/
def F_laws_markSat (P : Program) (v0 v1 : Value) (w : World) (R : Value → World → Prop) : Prop :=
  vbox P T_impl_Sat v0 w fun t2 w_1 =>
  vfaddr P T_impl_Sat t2 0 w_1 fun t5 w_2 =>
  vload P T_Lint t5 w_2 fun t6 w_3 =>
  vcall P n_laws_markIntS #[t6, v1] w_3 fun t8 w_4 =>
  vfaddr P T_impl_Sat t2 1 w_4 fun t9 w_5 =>
  vload P T_Lint t9 w_5 fun t10 w_6 =>
  vcall P n_laws_markIntS #[t10, t8] w_6 fun t12 w_7 =>
  vfaddr P T_impl_Sat t2 2 w_7 fun t13 w_8 =>
  vload P T_LLint t13 w_8 fun t14 w_9 =>
  vcall P n_laws_markIntSS #[t14, t12] w_9 fun t16 w_10 =>
  R t16 w_10
def A_laws_markSat : Ann := { ord := [], loops := [], cuts := [] }
theorem k_laws_markSat (v0 v1 : Value) (w : World) (R : Value → World → Prop) : vc PP A_laws_markSat ((Tryz.f27.body).getD .skip) (retF PP Tryz.f27.results.toList R) (nthV [v0, v1]) w = F_laws_markSat PP v0 v1 w R := by kernel_rfl
theorem c_laws_markSat {v0 v1 : Value} {w : World} {R : Value → World → Prop} (h : F_laws_markSat PP v0 v1 w R) : vcall PP n_laws_markSat #[v0, v1] w R :=
  call_of_vc (T := A_laws_markSat) (c := (Tryz.f27.body).getD .skip) (n := 18) mixed Tryz.func27 rfl rfl (by kernel_rfl) (by kernel_rfl) rfl (by rw [k_laws_markSat]; exact h)

/-- laws.heldSat -/
def F_laws_heldSat (P : Program) (v0 v1 : Value) (w : World) (R : Value → World → Prop) : Prop :=
  vbox P T_impl_Sat v0 w fun t2 w_1 =>
  vfaddr P T_impl_Sat t2 0 w_1 fun t5 w_2 =>
  vload P T_Lint t5 w_2 fun t6 w_3 =>
  vcall P n_laws_heldIntS #[t6, v1] w_3 fun t8 w_4 =>
  vbin P .lss T_int true t8 (.int .i64 0) w_4 fun t10 w_5 =>
  vif t10 (
    R (.int .i64 (-1)) w_5) (
    vfaddr P T_impl_Sat t2 1 w_5 fun t11 w_6 =>
    vload P T_Lint t11 w_6 fun t12 w_7 =>
    vcall P n_laws_heldIntS #[t12, t8] w_7 fun t14 w_8 =>
    vbin P .lss T_int true t14 (.int .i64 0) w_8 fun t16 w_9 =>
    vif t16 (
      R (.int .i64 (-1)) w_9) (
      vfaddr P T_impl_Sat t2 2 w_9 fun t17 w_10 =>
      vload P T_LLint t17 w_10 fun t18 w_11 =>
      vcall P n_laws_heldIntSS #[t18, t14] w_11 fun t20 w_12 =>
      vbin P .lss T_int true t20 (.int .i64 0) w_12 fun t22 w_13 =>
      vif t22 (
        R (.int .i64 (-1)) w_13) (
        R t20 w_13)))
def A_laws_heldSat : Ann := { ord := [], loops := [], cuts := [] }
theorem k_laws_heldSat (v0 v1 : Value) (w : World) (R : Value → World → Prop) : vc PP A_laws_heldSat ((Tryz.f28.body).getD .skip) (retF PP Tryz.f28.results.toList R) (nthV [v0, v1]) w = F_laws_heldSat PP v0 v1 w R := by kernel_rfl
theorem c_laws_heldSat {v0 v1 : Value} {w : World} {R : Value → World → Prop} (h : F_laws_heldSat PP v0 v1 w R) : vcall PP n_laws_heldSat #[v0, v1] w R :=
  call_of_vc (T := A_laws_heldSat) (c := (Tryz.f28.body).getD .skip) (n := 24) mixed Tryz.func28 rfl rfl (by kernel_rfl) (by kernel_rfl) rfl (by rw [k_laws_heldSat]; exact h)

/-- spec.l12Open -/
def F_spec_l12Open (P : Program) (v0 : Value) (w : World) (R : Value → World → Prop) : Prop :=
  vbi P .len [T_Luint8] T_int [v0] w fun t4 w_1 =>
  vbin P .gtr T_int true t4 (.int .i64 2000) w_1 fun t5 w_2 =>
  vif t5 (
    vslice P T_Luint8 v0 none (some (.int .i64 2000)) none w_2 fun t7 w_3 =>
    vbuild P T_spec_l12Rd [(0, t7)] w_3 fun t9 w_4 =>
    vbox P T_spec_l12Rd t9 w_4 fun t10 w_5 =>
    R t10 w_5) (
    vbuild P T_spec_l12Rd [(0, v0)] w_2 fun t9_1 w_6 =>
    vbox P T_spec_l12Rd t9_1 w_6 fun t10_1 w_7 =>
    R t10_1 w_7)
def A_spec_l12Open : Ann := { ord := [], loops := [], cuts := [] }
theorem k_spec_l12Open (v0 : Value) (w : World) (R : Value → World → Prop) : vc PP A_spec_l12Open ((Tryz.f29.body).getD .skip) (retF PP Tryz.f29.results.toList R) (nthV [v0]) w = F_spec_l12Open PP v0 w R := by kernel_rfl
theorem c_spec_l12Open {v0 : Value} {w : World} {R : Value → World → Prop} (h : F_spec_l12Open PP v0 w R) : vcall PP n_spec_l12Open #[v0] w R :=
  call_of_vc (T := A_spec_l12Open) (c := (Tryz.f29.body).getD .skip) (n := 11) mixed Tryz.func29 rfl rfl (by kernel_rfl) (by kernel_rfl) rfl (by rw [k_spec_l12Open]; exact h)

/-- spec.l4Bent -/
def F_spec_l4Bent (P : Program) (v0 v1 : Value) (w : World) (R : Value → World → Prop) : Prop :=
  vbox P T_impl_Cnf v1 w fun t3 w_1 =>
  valloc P T_impl_Cnf w_1 fun t4 w_2 =>
  vbuildS P T_LLint 0 [] w_2 fun t6 w_3 =>
  vfaddr P T_impl_Cnf t3 1 w_3 fun t7 w_4 =>
  vload P T_LLint t7 w_4 fun t8 w_5 =>
  vbi P .append [T_LLint, T_LLint] T_LLint [t6, t8] w_5 fun t9 w_6 =>
  vcall P n_spec_l12Rd_pick #[v0, (.int .i64 60)] w_6 fun t11 w_7 =>
  vbin P .eql T_int true t11 (.int .i64 0) w_7 fun t13 w_8 =>
  vif t13 (
    vfaddr P T_impl_Cnf t3 0 w_8 fun t15 w_9 =>
    vload P T_int t15 w_9 fun t16 w_10 =>
    vbin P .add T_int true t16 (.int .i64 1) w_10 fun t17 w_11 =>
    vbuildS P T_Lint 1 [(0, t17)] w_11 fun t18 w_12 =>
    vbuildS P T_LLint 1 [(0, t18)] w_12 fun t19 w_13 =>
    vbi P .append [T_LLint, T_LLint] T_LLint [t9, t19] w_13 fun t20 w_14 =>
    vfaddr P T_impl_Cnf t3 1 w_14 fun t21 w_15 =>
    vstore P T_LLint t21 t20 w_15 fun _ w_16 =>
    vload P T_impl_Cnf t3 w_16 fun t59 w_17 =>
    vstore P T_impl_Cnf t4 t59 w_17 fun _ w_18 =>
    vlv P T_impl_Cnf t4 w_18 fun r4 w_19 =>
    R r4 w_19) (
    vbin P .eql T_int true t11 (.int .i64 1) w_8 fun t23 w_20 =>
    vif t23 (
      vbuildS P T_Lint 2 [(0, (.int .i64 1)), (1, (.int .i64 (-1)))] w_20 fun t25 w_21 =>
      vbuildS P T_LLint 1 [(0, t25)] w_21 fun t26 w_22 =>
      vbi P .append [T_LLint, T_LLint] T_LLint [t9, t26] w_22 fun t27 w_23 =>
      vfaddr P T_impl_Cnf t3 1 w_23 fun t28 w_24 =>
      vstore P T_LLint t28 t27 w_24 fun _ w_25 =>
      vload P T_impl_Cnf t3 w_25 fun t59_1 w_26 =>
      vstore P T_impl_Cnf t4 t59_1 w_26 fun _ w_27 =>
      vlv P T_impl_Cnf t4 w_27 fun r4_1 w_28 =>
      R r4_1 w_28) (
      vbin P .eql T_int true t11 (.int .i64 2) w_20 fun t30 w_29 =>
      vif t30 (
        vbuildS P T_Lint 1 [(0, (.int .i64 0))] w_29 fun t32 w_30 =>
        vbuildS P T_LLint 1 [(0, t32)] w_30 fun t33 w_31 =>
        vbi P .append [T_LLint, T_LLint] T_LLint [t9, t33] w_31 fun t34 w_32 =>
        vfaddr P T_impl_Cnf t3 1 w_32 fun t35 w_33 =>
        vstore P T_LLint t35 t34 w_33 fun _ w_34 =>
        vload P T_impl_Cnf t3 w_34 fun t59_2 w_35 =>
        vstore P T_impl_Cnf t4 t59_2 w_35 fun _ w_36 =>
        vlv P T_impl_Cnf t4 w_36 fun r4_2 w_37 =>
        R r4_2 w_37) (
        vbin P .eql T_int true t11 (.int .i64 3) w_29 fun t37 w_38 =>
        vif t37 (
          vfaddr P T_impl_Cnf t3 0 w_38 fun t39 w_39 =>
          vload P T_int t39 w_39 fun t40 w_40 =>
          vbin P .add T_int true t40 (.int .i64 3) w_40 fun t41 w_41 =>
          vbuildS P T_Lint 5 [(0, (.int .i64 (-1))), (1, (.int .i64 0)), (2, (.int .i64 701)), (3, (.int .i64 9223372036854775807)), (4, t41)] w_41 fun t42 w_42 =>
          vcall P n_spec_l12Rd_num #[v0, t42] w_42 fun t43 w_43 =>
          vfaddr P T_impl_Cnf t3 0 w_43 fun t44 w_44 =>
          vstore P T_int t44 t43 w_44 fun _ w_45 =>
          vload P T_impl_Cnf t3 w_45 fun t59_3 w_46 =>
          vstore P T_impl_Cnf t4 t59_3 w_46 fun _ w_47 =>
          vlv P T_impl_Cnf t4 w_47 fun r4_3 w_48 =>
          R r4_3 w_48) (
          vbin P .eql T_int true t11 (.int .i64 4) w_38 fun t46 w_49 =>
          vif t46 (
            vbuildS P T_Lint 1 [(0, (.int .i64 (-9223372036854775808)))] w_49 fun t48 w_50 =>
            vbuildS P T_LLint 1 [(0, t48)] w_50 fun t49 w_51 =>
            vbi P .append [T_LLint, T_LLint] T_LLint [t9, t49] w_51 fun t50 w_52 =>
            vfaddr P T_impl_Cnf t3 1 w_52 fun t51 w_53 =>
            vstore P T_LLint t51 t50 w_53 fun _ w_54 =>
            vload P T_impl_Cnf t3 w_54 fun t59_4 w_55 =>
            vstore P T_impl_Cnf t4 t59_4 w_55 fun _ w_56 =>
            vlv P T_impl_Cnf t4 w_56 fun r4_4 w_57 =>
            R r4_4 w_57) (
            vbin P .eql T_int true t11 (.int .i64 5) w_49 fun t53 w_58 =>
            vif t53 (
              vbuildS P T_Lint 2 [(0, (.int .i64 2)), (1, (.int .i64 1))] w_58 fun t55 w_59 =>
              vbuildS P T_LLint 1 [(0, t55)] w_59 fun t56 w_60 =>
              vbi P .append [T_LLint, T_LLint] T_LLint [t9, t56] w_60 fun t57 w_61 =>
              vfaddr P T_impl_Cnf t3 1 w_61 fun t58 w_62 =>
              vstore P T_LLint t58 t57 w_62 fun _ w_63 =>
              vload P T_impl_Cnf t3 w_63 fun t59_5 w_64 =>
              vstore P T_impl_Cnf t4 t59_5 w_64 fun _ w_65 =>
              vlv P T_impl_Cnf t4 w_65 fun r4_5 w_66 =>
              R r4_5 w_66) (
              vload P T_impl_Cnf t3 w_58 fun t59_6 w_67 =>
              vstore P T_impl_Cnf t4 t59_6 w_67 fun _ w_68 =>
              vlv P T_impl_Cnf t4 w_68 fun r4_6 w_69 =>
              R r4_6 w_69))))))
def A_spec_l4Bent : Ann := { ord := [], loops := [], cuts := [] }
theorem k_spec_l4Bent (v0 v1 : Value) (w : World) (R : Value → World → Prop) : vc PP A_spec_l4Bent ((Tryz.f30.body).getD .skip) (retF PP Tryz.f30.results.toList R) (nthV [v0, v1]) w = F_spec_l4Bent PP v0 v1 w R := by kernel_rfl
theorem c_spec_l4Bent {v0 v1 : Value} {w : World} {R : Value → World → Prop} (h : F_spec_l4Bent PP v0 v1 w R) : vcall PP n_spec_l4Bent #[v0, v1] w R :=
  call_of_vc (T := A_spec_l4Bent) (c := (Tryz.f30.body).getD .skip) (n := 60) mixed Tryz.func30 rfl rfl (by kernel_rfl) (by kernel_rfl) rfl (by rw [k_spec_l4Bent]; exact h)

/-- spec.l4Cnf -/
def F_spec_l4Cnf (P : Program) (v0 : Value) (w : World) (R : Value → World → Prop) : Prop :=
  valloc P T_impl_Cnf w fun t2 w_1 =>
  vcall P n_spec_l12Rd_pick #[v0, (.int .i64 7)] w_1 fun t9 w_2 =>
  vbin P .add T_int true (.int .i64 1) t9 w_2 fun t10 w_3 =>
  vbuild P T_impl_Cnf [(0, t10)] w_3 fun t11 w_4 =>
  valloc P T_impl_Cnf w_4 fun t3 w_5 =>
  vstore P T_impl_Cnf t3 t11 w_5 fun _ w_6 =>
  vbuildS P T_Lint 7 [(0, (.int .i64 3)), (1, (.int .i64 6)), (2, (.int .i64 10)), (3, (.int .i64 16)), (4, (.int .i64 24)), (5, (.int .i64 30)), (6, (.int .i64 20))] w_6 fun t13 w_7 =>
  vcall P n_spec_l12Rd_num #[v0, t13] w_7 fun t14 w_8 =>
  vcall P n_spec_l12Rd_pick #[v0, (.int .i64 2)] w_8 fun t16 w_9 =>
  vbin P .add T_int true (.int .i64 2) t16 w_9 fun t17 w_10 =>
  vloop [(.int .i64 0)] w_10 fun C u _ w_11 =>
    vbin P .lss T_int false (sl 0 u) t14 w_11 fun t20 w_12 =>
    vif t20 (
      vfaddr P T_impl_Cnf t3 0 w_12 fun t24 w_13 =>
      vload P T_int t24 w_13 fun t25 w_14 =>
      vcall P n_spec_l4Draw #[v0, t25, t17] w_14 fun t27 w_15 =>
      vjoin (fun J =>
        vbi P .len [T_Lint] T_int [t27] w_15 fun t29 w_17 =>
        vbin P .gtr T_int true t29 (.int .i64 0) w_17 fun t30 w_18 =>
        vif t30 (
          J [(.bool true)] w_18) (
          vcall P n_spec_l12Rd_pick #[v0, (.int .i64 40)] w_18 fun t33 w_19 =>
          vbin P .eql T_int true t33 (.int .i64 0) w_19 fun t34 w_20 =>
          J [t34] w_20)) (fun u_1 _ w_16 =>
        vif (sl 0 u_1) (
          vfaddr P T_impl_Cnf t3 1 w_16 fun t36 w_21 =>
          vload P T_LLint t36 w_21 fun t37 w_22 =>
          vbuildS P T_LLint 1 [(0, t27)] w_22 fun t39 w_23 =>
          vbi P .append [T_LLint, T_LLint] T_LLint [t37, t39] w_23 fun t40 w_24 =>
          vfaddr P T_impl_Cnf t3 1 w_24 fun t41 w_25 =>
          vstore P T_LLint t41 t40 w_25 fun _ w_26 =>
          vbin P .add T_int true (sl 0 u) (.int .i64 1) w_26 fun t22 w_27 =>
          C [t22] w_27) (
          vbin P .add T_int true (sl 0 u) (.int .i64 1) w_16 fun t22_1 w_28 =>
          C [t22_1] w_28))) (
      vload P T_impl_Cnf t3 w_12 fun t42 w_29 =>
      vstore P T_impl_Cnf t2 t42 w_29 fun _ w_30 =>
      vlv P T_impl_Cnf t2 w_30 fun r2 w_31 =>
      R r2 w_31)
def A_spec_l4Cnf : Ann := { ord := [], loops := [(5, [6])], cuts := [(36873, [35])] }
theorem k_spec_l4Cnf (v0 : Value) (w : World) (R : Value → World → Prop) : vc PP A_spec_l4Cnf ((Tryz.f31.body).getD .skip) (retF PP Tryz.f31.results.toList R) (nthV [v0]) w = F_spec_l4Cnf PP v0 w R := by kernel_rfl
theorem c_spec_l4Cnf {v0 : Value} {w : World} {R : Value → World → Prop} (h : F_spec_l4Cnf PP v0 w R) : vcall PP n_spec_l4Cnf #[v0] w R :=
  call_of_vc (T := A_spec_l4Cnf) (c := (Tryz.f31.body).getD .skip) (n := 43) mixed Tryz.func31 rfl rfl (by kernel_rfl) (by kernel_rfl) rfl (by rw [k_spec_l4Cnf]; exact h)

/-- (*spec.l12Rd).num -/
def F_spec_l12Rd_num (P : Program) (v0 v1 : Value) (w : World) (R : Value → World → Prop) : Prop :=
  vbi P .len [T_Lint] T_int [v1] w fun t8 w_1 =>
  vcall P n_spec_l12Rd_pick #[v0, t8] w_1 fun t9 w_2 =>
  viaddr P T_Lint v1 t9 w_2 fun t10 w_3 =>
  vload P T_int t10 w_3 fun t11 w_4 =>
  R t11 w_4
def A_spec_l12Rd_num : Ann := { ord := [], loops := [], cuts := [] }
theorem k_spec_l12Rd_num (v0 v1 : Value) (w : World) (R : Value → World → Prop) : vc PP A_spec_l12Rd_num ((Tryz.f32.body).getD .skip) (retF PP Tryz.f32.results.toList R) (nthV [v0, v1]) w = F_spec_l12Rd_num PP v0 v1 w R := by kernel_rfl
theorem c_spec_l12Rd_num {v0 v1 : Value} {w : World} {R : Value → World → Prop} (h : F_spec_l12Rd_num PP v0 v1 w R) : vcall PP n_spec_l12Rd_num #[v0, v1] w R :=
  call_of_vc (T := A_spec_l12Rd_num) (c := (Tryz.f32.body).getD .skip) (n := 12) mixed Tryz.func32 rfl rfl (by kernel_rfl) (by kernel_rfl) rfl (by rw [k_spec_l12Rd_num]; exact h)

/-- impl.CnfOk -/
def F_impl_CnfOk (P : Program) (v0 : Value) (w : World) (R : Value → World → Prop) : Prop :=
  vbox P T_impl_Cnf v0 w fun t1 w_1 =>
  vfaddr P T_impl_Cnf t1 0 w_1 fun t3 w_2 =>
  vload P T_int t3 w_2 fun t4 w_3 =>
  vbin P .lss T_int true t4 (.int .i64 0) w_3 fun t5 w_4 =>
  vif t5 (
    R (.bool false) w_4) (
    vfaddr P T_impl_Cnf t1 0 w_4 fun t7 w_5 =>
    vload P T_int t7 w_5 fun t8 w_6 =>
    vbin P .gtr T_int true t8 (.int .i64 700) w_6 fun t9 w_7 =>
    vif t9 (
      R (.bool false) w_7) (
      vfaddr P T_impl_Cnf t1 1 w_7 fun t12 w_8 =>
      vload P T_LLint t12 w_8 fun t13 w_9 =>
      vbi P .len [T_LLint] T_int [t13] w_9 fun t14 w_10 =>
      vbin P .gtr T_int true t14 (.int .i64 2500) w_10 fun t15 w_11 =>
      vif t15 (
        R (.bool false) w_11) (
        vfaddr P T_impl_Cnf t1 1 w_11 fun t17 w_12 =>
        vload P T_LLint t17 w_12 fun t18 w_13 =>
        vmkF P (.func n_impl_CnfOk_1) [] [t1] w_13 fun t19 w_14 =>
        vcall P n_slices_ContainsFunc_LLint_Lint #[t18, t19] w_14 fun t20 w_15 =>
        vun P .not t20 w_15 fun t21 w_16 =>
        R t21 w_16)))
def A_impl_CnfOk : Ann := { ord := [], loops := [], cuts := [] }
theorem k_impl_CnfOk (v0 : Value) (w : World) (R : Value → World → Prop) : vc PP A_impl_CnfOk ((Tryz.f33.body).getD .skip) (retF PP Tryz.f33.results.toList R) (nthV [v0]) w = F_impl_CnfOk PP v0 w R := by kernel_rfl
theorem c_impl_CnfOk {v0 : Value} {w : World} {R : Value → World → Prop} (h : F_impl_CnfOk PP v0 w R) : vcall PP n_impl_CnfOk #[v0] w R :=
  call_of_vc (T := A_impl_CnfOk) (c := (Tryz.f33.body).getD .skip) (n := 22) mixed Tryz.func33 rfl rfl (by kernel_rfl) (by kernel_rfl) rfl (by rw [k_impl_CnfOk]; exact h)

/-- impl.run -/
def F_impl_run (P : Program) (v0 v1 : Value) (w : World) (R : Value → World → Prop) : Prop :=
  vbox P T_impl_Cnf v0 w fun t2 w_1 =>
  vdraw w_1 fun w_2 =>
  vload P T_impl_Cnf t2 w_2 fun t6 w_3 => w_3 = w_2 ∧
  vfaddr P T_impl_Cnf t2 0 w_2 fun t7 w_4 => w_4 = w_2 ∧
  vload P T_int t7 w_2 fun t8 w_5 => w_5 = w_2 ∧
  vcall P n_impl_newTrail #[t8] w_2 fun t9 w_6 => (vload P T_impl_Cnf t2 w_6 fun v x => v = t6 ∧ x = w_6) ∧
  vbuild P T_impl_search [(0, t6), (1, t9)] w_6 fun t10 w_7 => w_7 = w_6 ∧
  vbox P T_impl_search t10 w_6 fun t11 w_8 =>
  vloop [(.int .i64 0)] w_8 fun C u _ w_9 =>
    vbin P .lss T_int false (sl 0 u) v1 w_9 fun t14 w_10 =>
    vif t14 (
      vnil P t11 w_10 fun t16 w_11 =>
      vfaddr P T_impl_search t16 4 w_11 fun t17 w_12 =>
      vload P T_int t17 w_12 fun t18 w_13 =>
      vbin P .neq T_int true t18 (.int .i64 0) w_13 fun t19 w_14 =>
      vif t19 (
        R t11 w_14) (
        vcall P n_impl_search_step #[t11] w_14 fun _ w_15 =>
        vbin P .add T_int true (sl 0 u) (.int .i64 1) w_15 fun t22 w_16 =>
        C [t22] w_16)) (
      R t11 w_10)
def A_impl_run : Ann := { ord := [(1, [0, 1, 2, 3, 4, 5, 6], [(0, [4, 5, 6]), (1, [2, 3, 4, 5, 6]), (2, [3, 4, 5, 6]), (3, [4, 5, 6]), (4, [5, 6]), (5, [6])])], loops := [(3, [13])], cuts := [] }
theorem k_impl_run (v0 v1 : Value) (w : World) (R : Value → World → Prop) : vc PP A_impl_run ((Tryz.f34.body).getD .skip) (retF PP Tryz.f34.results.toList R) (nthV [v0, v1]) w = F_impl_run PP v0 v1 w R := by kernel_rfl
theorem c_impl_run {v0 v1 : Value} {w : World} {R : Value → World → Prop} (h : F_impl_run PP v0 v1 w R) : vcall PP n_impl_run #[v0, v1] w R :=
  call_of_vc (T := A_impl_run) (c := (Tryz.f34.body).getD .skip) (n := 24) mixed Tryz.func34 rfl rfl (by kernel_rfl) (by kernel_rfl) rfl (by rw [k_impl_run]; exact h)

end Go.Proofs.YtpihgpfebhegmaaGreat
