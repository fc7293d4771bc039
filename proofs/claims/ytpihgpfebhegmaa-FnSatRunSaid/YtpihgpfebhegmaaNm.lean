/- Names of the functions and types of this translation, and closed facts on the types. Written by program. -/
import Derived.Test.YtpihgpfebhegmaaProg
import Derived.Test.YtpihgpfebhegmaaVcX
set_option linter.unusedVariables false
set_option linter.unusedSimpArgs false
set_option linter.unnecessarySimpa false
set_option linter.unusedSectionVars false
namespace Go.Proofs.Ytpihgpfebhegmaa
open Go Go.Vc Go.Proofs
noncomputable abbrev PP : Program := Try.prog
theorem mixed : PP.follows .mixedOrders = true := by kernel_rfl
abbrev n_laws_FnSatRun : Nat := 3
abbrev n_laws_FnSatMore : Nat := 4
abbrev n_laws_FnSatTurn : Nat := 5
abbrev n_laws_FnSatLess : Nat := 6
abbrev n_spec_DrawSatRun : Nat := 7
abbrev n_impl_SatRun : Nat := 8
abbrev n_impl_SatSame : Nat := 9
abbrev n_spec_SatRun : Nat := 10
abbrev n_impl_CnfOk : Nat := 11
abbrev n_impl_SatStep : Nat := 12
abbrev n_laws_wpInts : Nat := 13
abbrev n_impl_SatOk : Nat := 14
abbrev n_laws_wpBools : Nat := 15
abbrev n_impl_SatVals : Nat := 16
abbrev n_laws_wpAfter : Nat := 17
abbrev n_spec_l12Open : Nat := 18
abbrev n_spec_l4Bent : Nat := 19
abbrev n_spec_l4Cnf : Nat := 20
abbrev n_spec_l12Rd_num : Nat := 21
abbrev n_impl_run : Nat := 22
abbrev n_impl_search_sat : Nat := 23
abbrev n_slices_Equal_Lint_int : Nat := 24
abbrev n_impl_sameLists : Nat := 25
abbrev n_spec_CnfOk : Nat := 26
abbrev n_spec_l5Copy : Nat := 27
abbrev n_spec_l5Run : Nat := 28
abbrev n_slices_ContainsFunc_LLint_Lint : Nat := 29
abbrev n_impl_CnfOk_1 : Nat := 30
abbrev n_impl_clauseOk : Nat := 31
abbrev n_impl_readSat : Nat := 32
abbrev n_impl_search_step : Nat := 33
abbrev n_impl_search_vals : Nat := 34
abbrev n_spec_l12Rd_pick : Nat := 35
abbrev n_spec_l4Draw : Nat := 36
abbrev n_impl_newTrail : Nat := 37
abbrev n_slices_Clone_Lint_int : Nat := 38
abbrev n_slices_EqualFunc_LLint_LLint_Lint_Lint : Nat := 39
abbrev n_spec_l4Clause : Nat := 40
abbrev n_spec_l5Do : Nat := 41
abbrev n_slices_IndexFunc_LLint_Lint : Nat := 42
abbrev n_impl_literal_of : Nat := 43
abbrev n_impl_literal_variable : Nat := 44
abbrev n_impl_readSat_1 : Nat := 45
abbrev n_impl_trailOk : Nat := 46
abbrev n_impl_readSat_2 : Nat := 47
abbrev n_impl_copyLists : Nat := 48
abbrev n_impl_trail_implies : Nat := 49
abbrev n_impl_search_clause : Nat := 50
abbrev n_impl_trail_next : Nat := 51
abbrev n_impl_search_resolve : Nat := 52
abbrev n_impl_search_assign : Nat := 53
abbrev n_impl_trail_assigned : Nat := 54
abbrev n_spec_l4Abs : Nat := 55
abbrev n_spec_l5Vals : Nat := 56
abbrev n_spec_l5Find : Nat := 57
abbrev n_spec_l5Clash : Nat := 58
abbrev n_spec_l5At : Nat := 59
abbrev n_impl_trail_push : Nat := 60
abbrev n_slices_Contains_Lint_int : Nat := 61
abbrev n_slices_ContainsFunc_Lint_int : Nat := 62
abbrev n_impl_trail_implies_1 : Nat := 63
abbrev n_impl_trail_isTrue : Nat := 64
abbrev n_impl_trail_place : Nat := 65
abbrev n_impl_trail_look : Nat := 66
abbrev n_impl_search_resolve_1 : Nat := 67
abbrev n_impl_trail_level : Nat := 68
abbrev n_impl_search_learn : Nat := 69
abbrev n_impl_search_goBack : Nat := 70
abbrev n_spec_l5Look : Nat := 71
abbrev n_spec_l5Levels : Nat := 72
abbrev n_spec_l5Top : Nat := 73
abbrev n_spec_l5Learn : Nat := 74
abbrev n_spec_l5Back : Nat := 75
abbrev n_spec_l5Below : Nat := 76
abbrev n_slices_Index_Lint_int : Nat := 77
abbrev n_slices_IndexFunc_Lint_int : Nat := 78
abbrev n_impl_trail_greatest : Nat := 79
abbrev n_slices_MaxFunc_Lint_int : Nat := 80
abbrev n_impl_search_learn_1 : Nat := 81
abbrev n_cmp_Compare_int : Nat := 82
abbrev n_slices_SortFunc_Lint_int : Nat := 83
abbrev n_impl_search_learn_2 : Nat := 84
abbrev n_spec_l5Sign : Nat := 85
abbrev n_spec_l5Last : Nat := 86
abbrev n_spec_l5Join : Nat := 87
abbrev n_spec_l4Max : Nat := 88
abbrev n_cmp_isNaN_int : Nat := 89
abbrev n_spec_l5Has : Nat := 92
abbrev T_T_ : Nat := 0
abbrev T_int : Nat := 3
abbrev T_bool : Nat := 4
abbrev T_uint8 : Nat := 5
abbrev T_string : Nat := 9
abbrev T_Luint8 : Nat := 22
abbrev T_LLint : Nat := 23
abbrev T_impl_Cnf : Nat := 25
abbrev T_Lint : Nat := 28
abbrev T_impl_Sat : Nat := 30
abbrev T_Lbool : Nat := 40
abbrev T_P_impl_search : Nat := 47
abbrev T_spec_l12Rd : Nat := 59
abbrev T_P_impl_trail : Nat := 62
abbrev T_impl_search : Nat := 65
abbrev T_impl_trail : Nat := 68
abbrev T_impl_literal : Nat := 71
abbrev T_LLLint : Nat := 88
abbrev T_impl_clauseBits : Nat := 103
theorem zr_int : zeroB PP T_int (.int .i64 0) := by unfold zeroB; kernel_rfl
@[push_cast] theorem o_int : oneB PP T_int = true := by kernel_rfl
@[push_cast] theorem z_int : sizeB PP T_int 1 = true := by kernel_rfl
theorem ik_int : intB PP T_int .i64 := by unfold intB; kernel_rfl
theorem sm_int : (PP.underlying T_int).isSome = true := by kernel_rfl
theorem zr_bool : zeroB PP T_bool (.bool false) := by unfold zeroB; kernel_rfl
@[push_cast] theorem o_bool : oneB PP T_bool = true := by kernel_rfl
@[push_cast] theorem z_bool : sizeB PP T_bool 1 = true := by kernel_rfl
theorem zr_uint8 : zeroB PP T_uint8 (.int .u8 0) := by unfold zeroB; kernel_rfl
@[push_cast] theorem o_uint8 : oneB PP T_uint8 = true := by kernel_rfl
@[push_cast] theorem z_uint8 : sizeB PP T_uint8 1 = true := by kernel_rfl
theorem ik_uint8 : intB PP T_uint8 .u8 := by unfold intB; kernel_rfl
theorem sm_uint8 : (PP.underlying T_uint8).isSome = true := by kernel_rfl
@[push_cast] theorem o_string : oneB PP T_string = true := by kernel_rfl
@[push_cast] theorem z_string : sizeB PP T_string 1 = true := by kernel_rfl
theorem str_string : PP.underlying T_string = some .string := by kernel_rfl
theorem zr_Luint8 : zeroB PP T_Luint8 (.slice none 0 0) := by unfold zeroB; kernel_rfl
@[push_cast] theorem o_Luint8 : oneB PP T_Luint8 = true := by kernel_rfl
@[push_cast] theorem z_Luint8 : sizeB PP T_Luint8 1 = true := by kernel_rfl
@[push_cast] theorem l_Luint8 : elZ PP T_Luint8 1 1 = true := by kernel_rfl
theorem u_Luint8 : PP.underlying T_Luint8 = some (.slice T_uint8) := by kernel_rfl
theorem eo_Luint8 : elOf PP T_Luint8 = T_uint8 := by kernel_rfl
@[push_cast] theorem s_Luint8 : isSl PP T_Luint8 = true := by kernel_rfl
@[push_cast] theorem e_Luint8 : elB PP T_Luint8 1 = true := by kernel_rfl
theorem zr_LLint : zeroB PP T_LLint (.slice none 0 0) := by unfold zeroB; kernel_rfl
@[push_cast] theorem o_LLint : oneB PP T_LLint = true := by kernel_rfl
@[push_cast] theorem z_LLint : sizeB PP T_LLint 1 = true := by kernel_rfl
@[push_cast] theorem l_LLint : elZ PP T_LLint 1 24 = true := by kernel_rfl
theorem u_LLint : PP.underlying T_LLint = some (.slice T_Lint) := by kernel_rfl
theorem eo_LLint : elOf PP T_LLint = T_Lint := by kernel_rfl
@[push_cast] theorem s_LLint : isSl PP T_LLint = true := by kernel_rfl
@[push_cast] theorem e_LLint : elB PP T_LLint 1 = true := by kernel_rfl
theorem zr_impl_Cnf : zeroB PP T_impl_Cnf (.agg #[(.int .i64 0), (.slice none 0 0)]) := by unfold zeroB; kernel_rfl
theorem b_impl_Cnf : strF PP T_impl_Cnf = some ([(0, 1), (1, 1)], [(.int .i64 0), (.slice none 0 0)]) := by kernel_rfl
@[push_cast] theorem g_impl_Cnf : aggB PP T_impl_Cnf 2 = true := by kernel_rfl
@[push_cast] theorem z_impl_Cnf : sizeB PP T_impl_Cnf 2 = true := by kernel_rfl
theorem zr_Lint : zeroB PP T_Lint (.slice none 0 0) := by unfold zeroB; kernel_rfl
@[push_cast] theorem o_Lint : oneB PP T_Lint = true := by kernel_rfl
@[push_cast] theorem z_Lint : sizeB PP T_Lint 1 = true := by kernel_rfl
@[push_cast] theorem l_Lint : elZ PP T_Lint 1 8 = true := by kernel_rfl
theorem u_Lint : PP.underlying T_Lint = some (.slice T_int) := by kernel_rfl
theorem eo_Lint : elOf PP T_Lint = T_int := by kernel_rfl
@[push_cast] theorem s_Lint : isSl PP T_Lint = true := by kernel_rfl
@[push_cast] theorem e_Lint : elB PP T_Lint 1 = true := by kernel_rfl
theorem zr_impl_Sat : zeroB PP T_impl_Sat (.agg #[(.slice none 0 0), (.slice none 0 0), (.slice none 0 0), (.int .i64 0)]) := by unfold zeroB; kernel_rfl
theorem b_impl_Sat : strF PP T_impl_Sat = some ([(0, 1), (1, 1), (2, 1), (3, 1)], [(.slice none 0 0), (.slice none 0 0), (.slice none 0 0), (.int .i64 0)]) := by kernel_rfl
@[push_cast] theorem g_impl_Sat : aggB PP T_impl_Sat 4 = true := by kernel_rfl
@[push_cast] theorem z_impl_Sat : sizeB PP T_impl_Sat 4 = true := by kernel_rfl
theorem zr_Lbool : zeroB PP T_Lbool (.slice none 0 0) := by unfold zeroB; kernel_rfl
@[push_cast] theorem o_Lbool : oneB PP T_Lbool = true := by kernel_rfl
@[push_cast] theorem z_Lbool : sizeB PP T_Lbool 1 = true := by kernel_rfl
@[push_cast] theorem l_Lbool : elZ PP T_Lbool 1 1 = true := by kernel_rfl
theorem u_Lbool : PP.underlying T_Lbool = some (.slice T_bool) := by kernel_rfl
theorem eo_Lbool : elOf PP T_Lbool = T_bool := by kernel_rfl
@[push_cast] theorem s_Lbool : isSl PP T_Lbool = true := by kernel_rfl
@[push_cast] theorem e_Lbool : elB PP T_Lbool 1 = true := by kernel_rfl
theorem zr_P_impl_search : zeroB PP T_P_impl_search (.pointer none) := by unfold zeroB; kernel_rfl
@[push_cast] theorem o_P_impl_search : oneB PP T_P_impl_search = true := by kernel_rfl
@[push_cast] theorem z_P_impl_search : sizeB PP T_P_impl_search 1 = true := by kernel_rfl
theorem zr_spec_l12Rd : zeroB PP T_spec_l12Rd (.agg #[(.slice none 0 0), (.int .i64 0)]) := by unfold zeroB; kernel_rfl
theorem b_spec_l12Rd : strF PP T_spec_l12Rd = some ([(0, 1), (1, 1)], [(.slice none 0 0), (.int .i64 0)]) := by kernel_rfl
@[push_cast] theorem g_spec_l12Rd : aggB PP T_spec_l12Rd 2 = true := by kernel_rfl
@[push_cast] theorem z_spec_l12Rd : sizeB PP T_spec_l12Rd 2 = true := by kernel_rfl
theorem zr_P_impl_trail : zeroB PP T_P_impl_trail (.pointer none) := by unfold zeroB; kernel_rfl
@[push_cast] theorem o_P_impl_trail : oneB PP T_P_impl_trail = true := by kernel_rfl
@[push_cast] theorem z_P_impl_trail : sizeB PP T_P_impl_trail 1 = true := by kernel_rfl
theorem zr_impl_search : zeroB PP T_impl_search (.agg #[(.int .i64 0), (.slice none 0 0), (.pointer none), (.slice none 0 0), (.slice none 0 0), (.int .i64 0)]) := by unfold zeroB; kernel_rfl
theorem b_impl_search : strF PP T_impl_search = some ([(0, 2), (2, 1), (3, 1), (4, 1), (5, 1)], [(.int .i64 0), (.slice none 0 0), (.pointer none), (.slice none 0 0), (.slice none 0 0), (.int .i64 0)]) := by kernel_rfl
@[push_cast] theorem g_impl_search : aggB PP T_impl_search 6 = true := by kernel_rfl
@[push_cast] theorem z_impl_search : sizeB PP T_impl_search 6 = true := by kernel_rfl
theorem zr_impl_trail : zeroB PP T_impl_trail (.agg #[(.slice none 0 0), (.slice none 0 0), (.slice none 0 0)]) := by unfold zeroB; kernel_rfl
theorem b_impl_trail : strF PP T_impl_trail = some ([(0, 1), (1, 1), (2, 1)], [(.slice none 0 0), (.slice none 0 0), (.slice none 0 0)]) := by kernel_rfl
@[push_cast] theorem g_impl_trail : aggB PP T_impl_trail 3 = true := by kernel_rfl
@[push_cast] theorem z_impl_trail : sizeB PP T_impl_trail 3 = true := by kernel_rfl
theorem zr_impl_literal : zeroB PP T_impl_literal (.int .i64 0) := by unfold zeroB; kernel_rfl
@[push_cast] theorem o_impl_literal : oneB PP T_impl_literal = true := by kernel_rfl
@[push_cast] theorem z_impl_literal : sizeB PP T_impl_literal 1 = true := by kernel_rfl
theorem ik_impl_literal : intB PP T_impl_literal .i64 := by unfold intB; kernel_rfl
theorem sm_impl_literal : (PP.underlying T_impl_literal).isSome = true := by kernel_rfl
theorem zr_LLLint : zeroB PP T_LLLint (.slice none 0 0) := by unfold zeroB; kernel_rfl
@[push_cast] theorem o_LLLint : oneB PP T_LLLint = true := by kernel_rfl
@[push_cast] theorem z_LLLint : sizeB PP T_LLLint 1 = true := by kernel_rfl
@[push_cast] theorem l_LLLint : elZ PP T_LLLint 1 24 = true := by kernel_rfl
theorem u_LLLint : PP.underlying T_LLLint = some (.slice T_LLint) := by kernel_rfl
theorem eo_LLLint : elOf PP T_LLLint = T_LLint := by kernel_rfl
@[push_cast] theorem s_LLLint : isSl PP T_LLLint = true := by kernel_rfl
@[push_cast] theorem e_LLLint : elB PP T_LLLint 1 = true := by kernel_rfl
@[push_cast] theorem o_impl_clauseBits : oneB PP T_impl_clauseBits = true := by kernel_rfl
@[push_cast] theorem z_impl_clauseBits : sizeB PP T_impl_clauseBits 1 = true := by kernel_rfl
@[push_cast] theorem im_impl_clauseBits : imapB PP T_impl_clauseBits = true := by kernel_rfl
theorem map_impl_clauseBits : PP.underlying T_impl_clauseBits = some (.map 3 4) := by kernel_rfl
theorem fb_impl_Cnf_0 : fieldB PP T_impl_Cnf 0 0 = true := by kernel_rfl
@[push_cast] theorem fa_impl_Cnf_0 {w : World} {K : Value → World → Prop} (a : Addr) : vfaddr PP T_impl_Cnf (.pointer (some a)) 0 w K = K (.pointer (some (a.add 0))) w := vfaddr_eq fb_impl_Cnf_0 a
theorem fb_impl_Cnf_1 : fieldB PP T_impl_Cnf 1 1 = true := by kernel_rfl
@[push_cast] theorem fa_impl_Cnf_1 {w : World} {K : Value → World → Prop} (a : Addr) : vfaddr PP T_impl_Cnf (.pointer (some a)) 1 w K = K (.pointer (some (a.add 1))) w := vfaddr_eq fb_impl_Cnf_1 a
theorem fb_impl_Sat_0 : fieldB PP T_impl_Sat 0 0 = true := by kernel_rfl
@[push_cast] theorem fa_impl_Sat_0 {w : World} {K : Value → World → Prop} (a : Addr) : vfaddr PP T_impl_Sat (.pointer (some a)) 0 w K = K (.pointer (some (a.add 0))) w := vfaddr_eq fb_impl_Sat_0 a
theorem fb_impl_Sat_1 : fieldB PP T_impl_Sat 1 1 = true := by kernel_rfl
@[push_cast] theorem fa_impl_Sat_1 {w : World} {K : Value → World → Prop} (a : Addr) : vfaddr PP T_impl_Sat (.pointer (some a)) 1 w K = K (.pointer (some (a.add 1))) w := vfaddr_eq fb_impl_Sat_1 a
theorem fb_impl_Sat_2 : fieldB PP T_impl_Sat 2 2 = true := by kernel_rfl
@[push_cast] theorem fa_impl_Sat_2 {w : World} {K : Value → World → Prop} (a : Addr) : vfaddr PP T_impl_Sat (.pointer (some a)) 2 w K = K (.pointer (some (a.add 2))) w := vfaddr_eq fb_impl_Sat_2 a
theorem fb_impl_Sat_3 : fieldB PP T_impl_Sat 3 3 = true := by kernel_rfl
@[push_cast] theorem fa_impl_Sat_3 {w : World} {K : Value → World → Prop} (a : Addr) : vfaddr PP T_impl_Sat (.pointer (some a)) 3 w K = K (.pointer (some (a.add 3))) w := vfaddr_eq fb_impl_Sat_3 a
theorem fb_spec_l12Rd_0 : fieldB PP T_spec_l12Rd 0 0 = true := by kernel_rfl
@[push_cast] theorem fa_spec_l12Rd_0 {w : World} {K : Value → World → Prop} (a : Addr) : vfaddr PP T_spec_l12Rd (.pointer (some a)) 0 w K = K (.pointer (some (a.add 0))) w := vfaddr_eq fb_spec_l12Rd_0 a
theorem fb_spec_l12Rd_1 : fieldB PP T_spec_l12Rd 1 1 = true := by kernel_rfl
@[push_cast] theorem fa_spec_l12Rd_1 {w : World} {K : Value → World → Prop} (a : Addr) : vfaddr PP T_spec_l12Rd (.pointer (some a)) 1 w K = K (.pointer (some (a.add 1))) w := vfaddr_eq fb_spec_l12Rd_1 a
theorem fb_impl_search_0 : fieldB PP T_impl_search 0 0 = true := by kernel_rfl
@[push_cast] theorem fa_impl_search_0 {w : World} {K : Value → World → Prop} (a : Addr) : vfaddr PP T_impl_search (.pointer (some a)) 0 w K = K (.pointer (some (a.add 0))) w := vfaddr_eq fb_impl_search_0 a
theorem fb_impl_search_1 : fieldB PP T_impl_search 1 2 = true := by kernel_rfl
@[push_cast] theorem fa_impl_search_1 {w : World} {K : Value → World → Prop} (a : Addr) : vfaddr PP T_impl_search (.pointer (some a)) 1 w K = K (.pointer (some (a.add 2))) w := vfaddr_eq fb_impl_search_1 a
theorem fb_impl_search_2 : fieldB PP T_impl_search 2 3 = true := by kernel_rfl
@[push_cast] theorem fa_impl_search_2 {w : World} {K : Value → World → Prop} (a : Addr) : vfaddr PP T_impl_search (.pointer (some a)) 2 w K = K (.pointer (some (a.add 3))) w := vfaddr_eq fb_impl_search_2 a
theorem fb_impl_search_3 : fieldB PP T_impl_search 3 4 = true := by kernel_rfl
@[push_cast] theorem fa_impl_search_3 {w : World} {K : Value → World → Prop} (a : Addr) : vfaddr PP T_impl_search (.pointer (some a)) 3 w K = K (.pointer (some (a.add 4))) w := vfaddr_eq fb_impl_search_3 a
theorem fb_impl_search_4 : fieldB PP T_impl_search 4 5 = true := by kernel_rfl
@[push_cast] theorem fa_impl_search_4 {w : World} {K : Value → World → Prop} (a : Addr) : vfaddr PP T_impl_search (.pointer (some a)) 4 w K = K (.pointer (some (a.add 5))) w := vfaddr_eq fb_impl_search_4 a
theorem fb_impl_trail_0 : fieldB PP T_impl_trail 0 0 = true := by kernel_rfl
@[push_cast] theorem fa_impl_trail_0 {w : World} {K : Value → World → Prop} (a : Addr) : vfaddr PP T_impl_trail (.pointer (some a)) 0 w K = K (.pointer (some (a.add 0))) w := vfaddr_eq fb_impl_trail_0 a
theorem fb_impl_trail_1 : fieldB PP T_impl_trail 1 1 = true := by kernel_rfl
@[push_cast] theorem fa_impl_trail_1 {w : World} {K : Value → World → Prop} (a : Addr) : vfaddr PP T_impl_trail (.pointer (some a)) 1 w K = K (.pointer (some (a.add 1))) w := vfaddr_eq fb_impl_trail_1 a
theorem fb_impl_trail_2 : fieldB PP T_impl_trail 2 2 = true := by kernel_rfl
@[push_cast] theorem fa_impl_trail_2 {w : World} {K : Value → World → Prop} (a : Addr) : vfaddr PP T_impl_trail (.pointer (some a)) 2 w K = K (.pointer (some (a.add 2))) w := vfaddr_eq fb_impl_trail_2 a
end Go.Proofs.Ytpihgpfebhegmaa
