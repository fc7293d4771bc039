/- Names of the functions and types of this translation, and closed facts on the types. Written by program. -/
import Derived.Test.YtbiabimalkkeiaaGreatDoorProg
import Derived.Test.YtbiabimalkkeiaaGreatDoorVcZ
set_option linter.unusedVariables false
set_option linter.unusedSimpArgs false
set_option linter.unnecessarySimpa false
set_option linter.unusedSectionVars false
namespace Go.Proofs.YtbiabimalkkeiaaGreatDoor
open Go Go.Vc Go.Proofs
noncomputable abbrev PP : Program := Tryz.prog
theorem mixed : PP.follows .mixedOrders = true := by kernel_rfl
abbrev n_laws_FnExactTermEval : Nat := 3
abbrev n_laws_FnTermPut : Nat := 4
abbrev n_laws_FnTermSort : Nat := 5
abbrev n_laws_FnTermLogic : Nat := 6
abbrev n_laws_FnTermEval : Nat := 7
abbrev n_laws_FnTermName : Nat := 8
abbrev n_laws_FnExactTermRead : Nat := 9
abbrev n_laws_FnTerm : Nat := 10
abbrev n_laws_szDeclS : Nat := 11
abbrev n_laws_szTerm : Nat := 12
abbrev n_spec_TermEval : Nat := 13
abbrev n_laws_toDeclS : Nat := 14
abbrev n_laws_toTerm : Nat := 15
abbrev n_laws_toIntS : Nat := 16
abbrev n_impl_TermEval : Nat := 17
abbrev n_laws_eqDeclS : Nat := 18
abbrev n_laws_eqTerm : Nat := 19
abbrev n_laws_eqIntS : Nat := 20
abbrev n_spec_DrawTermEval : Nat := 21
abbrev n_impl_TermSort : Nat := 22
abbrev n_impl_TermMany : Nat := 23
abbrev n_spec_TermSort : Nat := 24
abbrev n_impl_EnvOk : Nat := 25
abbrev n_impl_VecOk : Nat := 26
abbrev n_spec_DrawTermSort : Nat := 27
abbrev n_impl_VecCut : Nat := 28
abbrev n_laws_wpUn : Nat := 29
abbrev n_impl_VecCmp : Nat := 30
abbrev n_laws_wpBin : Nat := 31
abbrev n_laws_wpNames : Nat := 32
abbrev n_spec_TermRead : Nat := 33
abbrev n_impl_TermRead : Nat := 34
abbrev n_laws_markDeclS : Nat := 35
abbrev n_laws_markTerm : Nat := 36
abbrev n_laws_heldTerm : Nat := 37
abbrev n_spec_DrawTermText : Nat := 38
abbrev n_impl_TermText : Nat := 39
abbrev n_spec_TermText : Nat := 40
abbrev n_impl_TermSame : Nat := 41
abbrev n_spec_DrawTermRead : Nat := 42
abbrev n_laws_szDecl : Nat := 43
abbrev n_laws_szTermS : Nat := 44
abbrev n_spec_EnvOk : Nat := 45
abbrev n_spec_l2Eval : Nat := 46
abbrev n_laws_toDecl : Nat := 47
abbrev n_laws_toTermS : Nat := 48
abbrev n_impl_valueOf : Nat := 49
abbrev n_impl_kinds : Nat := 50
abbrev n_impl_envMap : Nat := 51
abbrev n_laws_eqDecl : Nat := 52
abbrev n_laws_eqTermS : Nat := 53
abbrev n_spec_l12Open : Nat := 54
abbrev n_spec_l2Draw : Nat := 55
abbrev n_spec_l2Env : Nat := 56
abbrev n_impl_DeclOk : Nat := 57
abbrev n_impl_sortOf : Nat := 58
abbrev n_impl_count : Nat := 59
abbrev n_spec_TermMany : Nat := 60
abbrev n_spec_DeclOk : Nat := 61
abbrev n_spec_l2Sort : Nat := 62
abbrev n_impl_Vec_raw : Nat := 63
abbrev n_impl_raw_cut : Nat := 64
abbrev n_impl_VecUn : Nat := 65
abbrev n_impl_VecSigned : Nat := 66
abbrev n_impl_VecBin : Nat := 67
abbrev n_spec_l2Read : Nat := 68
abbrev n_impl_parser_read : Nat := 69
abbrev n_laws_markText : Nat := 70
abbrev n_laws_markTermS : Nat := 71
abbrev n_laws_heldTermS : Nat := 72
abbrev n_impl_textOf : Nat := 73
abbrev n_spec_l2Text : Nat := 74
abbrev n_slices_EqualFunc_Limpl_Term_Limpl_Term_impl_Term_impl_Term : Nat := 75
abbrev n_spec_l12Rd_pick : Nat := 76
abbrev n_spec_l12Rd_of : Nat := 77
abbrev n_spec_VecOk : Nat := 78
abbrev n_spec_l2Find : Nat := 79
abbrev n_spec_l1Max : Nat := 80
abbrev n_spec_l2Do : Nat := 81
abbrev n_impl_kinds_1 : Nat := 82
abbrev n_impl_kinds_2 : Nat := 83
abbrev n_impl_kinds_3 : Nat := 84
abbrev n_impl_kinds_4 : Nat := 85
abbrev n_spec_l2Decls : Nat := 86
abbrev n_spec_l2Some : Nat := 87
abbrev n_spec_l12Rd_num : Nat := 88
abbrev n_spec_l2Spoil : Nat := 89
abbrev n_spec_l2Bent : Nat := 90
abbrev n_spec_l1Two : Nat := 91
abbrev n_spec_l1Min : Nat := 92
abbrev n_strings_Trim : Nat := 93
abbrev n_slices_ContainsFunc_Limpl_Decl_impl_Decl : Nat := 94
abbrev n_impl_DeclOk_1 : Nat := 95
abbrev n_impl_plain : Nat := 96
abbrev n_spec_l2Name : Nat := 97
abbrev n_spec_l2Plain : Nat := 98
abbrev n_spec_l2One : Nat := 99
abbrev n_spec_l2Both : Nat := 100
abbrev n_impl_Vec_vec : Nat := 101
abbrev n_impl_raw_bit : Nat := 102
abbrev n_impl_binaries : Nat := 103
abbrev n_spec_l2Word : Nat := 104
abbrev n_spec_l2Leaf : Nat := 105
abbrev n_spec_l2Op : Nat := 106
abbrev n_spec_l2Kids : Nat := 107
abbrev n_spec_l12Num : Nat := 108
abbrev n_impl_parser_read_1 : Nat := 109
abbrev n_impl_parser_term : Nat := 110
abbrev n_impl_VecText : Nat := 111
abbrev n_strconv_Itoa : Nat := 112
abbrev n_strings_Join : Nat := 113
abbrev n_spec_VecText : Nat := 114
abbrev n_spec_l2Words : Nat := 115
abbrev n_spec_l12Dec : Nat := 116
abbrev n_spec_l2Vec : Nat := 117
abbrev n_spec_VecCut : Nat := 118
abbrev n_spec_VecUn : Nat := 119
abbrev n_spec_VecCmp : Nat := 120
abbrev n_spec_l2Bool : Nat := 121
abbrev n_spec_VecBin : Nat := 122
abbrev n_spec_l2Term : Nat := 123
abbrev n_spec_l2Leafy : Nat := 124
abbrev n_slices_IndexFunc_Limpl_Decl_impl_Decl : Nat := 132
abbrev n_spec_l2Arity : Nat := 133
abbrev n_impl_binaries_1 : Nat := 134
abbrev n_impl_binaries_2 : Nat := 135
abbrev n_impl_binaries_3 : Nat := 136
abbrev n_impl_binaries_4 : Nat := 137
abbrev n_impl_binaries_5 : Nat := 138
abbrev n_impl_binaries_6 : Nat := 139
abbrev n_impl_binaries_7 : Nat := 140
abbrev n_impl_Vec_ones : Nat := 141
abbrev n_impl_binaries_8 : Nat := 142
abbrev n_impl_binaries_9 : Nat := 143
abbrev n_impl_binaries_10 : Nat := 144
abbrev n_impl_binaries_11 : Nat := 145
abbrev n_impl_Vec_stretched : Nat := 146
abbrev n_spec_VecRead : Nat := 147
abbrev n_impl_fail : Nat := 148
abbrev n_strings_HasPrefix : Nat := 149
abbrev n_impl_atom : Nat := 150
abbrev n_impl_parser_word : Nat := 151
abbrev n_impl_parser_take : Nat := 152
abbrev n_impl_parser_number : Nat := 153
abbrev n_spec_l1Bit : Nat := 158
abbrev n_spec_l1Mod : Nat := 159
abbrev n_spec_l1Signed : Nat := 160
abbrev n_spec_l1Bin : Nat := 161
abbrev n_spec_l2Asks : Nat := 162
abbrev n_impl_VecRead : Nat := 168
abbrev n_strings_IndexAny : Nat := 169
abbrev n_strings_CutPrefix : Nat := 170
abbrev n_strconv_Atoi : Nat := 171
abbrev n_spec_l1Bits : Nat := 175
abbrev n_spec_l1Shift : Nat := 176
abbrev n_impl_named_kids : Nat := 229
abbrev n_impl_named_word : Nat := 230
abbrev n_impl_unKind_sort : Nat := 231
abbrev n_impl_unKind_value : Nat := 232
abbrev n_impl_sorted : Nat := 233
abbrev n_impl_catKind_sort : Nat := 234
abbrev n_impl_catKind_value : Nat := 235
abbrev n_impl_cmpKind_sort : Nat := 236
abbrev n_impl_cmpKind_value : Nat := 237
abbrev n_impl_number : Nat := 238
abbrev n_impl_vecKind_sort : Nat := 239
abbrev n_impl_vecKind_value : Nat := 240
abbrev n_impl_nameKind_sort : Nat := 241
abbrev n_impl_nameKind_value : Nat := 242
abbrev n_impl_nameKind_sort_1 : Nat := 243
abbrev n_impl_cutKind_sort : Nat := 244
abbrev n_impl_cutKind_value : Nat := 245
abbrev n_impl_ifKind_sort : Nat := 246
abbrev n_impl_ifKind_value : Nat := 247
abbrev n_impl_boolKind_sort : Nat := 248
abbrev n_impl_boolKind_value : Nat := 249
abbrev n_slices_ContainsFunc_Lint_int : Nat := 250
abbrev n_impl_boolKind_sort_1 : Nat := 251
abbrev n_slices_IndexFunc_Lint_int : Nat := 252
abbrev n_impl_binKind_sort : Nat := 253
abbrev n_impl_binKind_value : Nat := 254
abbrev T_T_ : Nat := 0
abbrev T_int : Nat := 3
abbrev T_bool : Nat := 4
abbrev T_uint8 : Nat := 5
abbrev T_string : Nat := 9
abbrev T_int32 : Nat := 21
abbrev T_Llaws_Decl : Nat := 22
abbrev T_Llaws_Term : Nat := 23
abbrev T_laws_Term : Nat := 25
abbrev T_Lint : Nat := 26
abbrev T_Limpl_Decl : Nat := 31
abbrev T_Limpl_Term : Nat := 33
abbrev T_impl_Term : Nat := 35
abbrev T_Luint8 : Nat := 42
abbrev T_impl_Vec : Nat := 52
abbrev T_Limpl_Vec : Nat := 56
abbrev T_impl_Decl : Nat := 64
abbrev T_laws_Decl : Nat := 75
abbrev T_M_map_int_impl_kind : Nat := 81
abbrev T_M_map_string_int : Nat := 83
abbrev T_impl_raw : Nat := 96
abbrev T_impl_parser : Nat := 106
abbrev T_Lstring : Nat := 115
abbrev T_impl_kind : Nat := 119
abbrev T_impl_named : Nat := 122
abbrev T_impl_unKind : Nat := 124
abbrev T_impl_catKind : Nat := 125
abbrev T_impl_cmpKind : Nat := 126
abbrev T_impl_vecKind : Nat := 127
abbrev T_impl_nameKind : Nat := 128
abbrev T_impl_cutKind : Nat := 129
abbrev T_impl_ifKind : Nat := 130
abbrev T_F_func_Limpl_Vec_bool : Nat := 131
abbrev T_impl_boolKind : Nat := 133
abbrev T_impl_binKind : Nat := 134
abbrev T_spec_l12Rd : Nat := 136
abbrev T_A_14_func_impl_Vec_impl_Vec_impl_raw : Nat := 153
abbrev T_impl_unreadable : Nat := 162
abbrev T_error : Nat := 189
theorem zr_int : zeroB PP T_int (.int .i64 0) := by unfold zeroB; kernel_rfl
@[push_cast] theorem o_int : oneB PP T_int = true := by kernel_rfl
@[push_cast] theorem z_int : sizeB PP T_int 1 = true := by kernel_rfl
theorem ik_int : intB PP T_int .i64 := by unfold intB; kernel_rfl
theorem sm_int : (PP.underlying T_int).isSome = true := by kernel_rfl
theorem zr_bool : zeroB PP T_bool (.bool false) := by unfold zeroB; kernel_rfl
@[push_cast] theorem o_bool : oneB PP T_bool = true := by kernel_rfl
@[push_cast] theorem z_bool : sizeB PP T_bool 1 = true := by kernel_rfl
theorem zr_uint8 : zeroB PP T_uint8 (.int .u8 0) := by unfold zeroB; kernel_rfl
@[push_cast] theorem o_uint8 : oneB PP T_uint8 = true := by kernel_rfl
@[push_cast] theorem z_uint8 : sizeB PP T_uint8 1 = true := by kernel_rfl
theorem ik_uint8 : intB PP T_uint8 .u8 := by unfold intB; kernel_rfl
theorem sm_uint8 : (PP.underlying T_uint8).isSome = true := by kernel_rfl
theorem zr_string : zeroB PP T_string (.string ⟨#[]⟩) := by unfold zeroB; kernel_rfl
@[push_cast] theorem o_string : oneB PP T_string = true := by kernel_rfl
@[push_cast] theorem z_string : sizeB PP T_string 1 = true := by kernel_rfl
theorem str_string : PP.underlying T_string = some .string := by kernel_rfl
theorem zr_int32 : zeroB PP T_int32 (.int .i32 0) := by unfold zeroB; kernel_rfl
@[push_cast] theorem o_int32 : oneB PP T_int32 = true := by kernel_rfl
@[push_cast] theorem z_int32 : sizeB PP T_int32 1 = true := by kernel_rfl
theorem ik_int32 : intB PP T_int32 .i32 := by unfold intB; kernel_rfl
theorem sm_int32 : (PP.underlying T_int32).isSome = true := by kernel_rfl
theorem zr_Llaws_Decl : zeroB PP T_Llaws_Decl (.slice none 0 0) := by unfold zeroB; kernel_rfl
@[push_cast] theorem o_Llaws_Decl : oneB PP T_Llaws_Decl = true := by kernel_rfl
@[push_cast] theorem z_Llaws_Decl : sizeB PP T_Llaws_Decl 1 = true := by kernel_rfl
@[push_cast] theorem l_Llaws_Decl : elZ PP T_Llaws_Decl 2 24 = true := by kernel_rfl
theorem u_Llaws_Decl : PP.underlying T_Llaws_Decl = some (.slice T_laws_Decl) := by kernel_rfl
theorem eo_Llaws_Decl : elOf PP T_Llaws_Decl = T_laws_Decl := by kernel_rfl
@[push_cast] theorem s_Llaws_Decl : isSl PP T_Llaws_Decl = true := by kernel_rfl
@[push_cast] theorem e_Llaws_Decl : elB PP T_Llaws_Decl 2 = true := by kernel_rfl
theorem zr_Llaws_Term : zeroB PP T_Llaws_Term (.slice none 0 0) := by unfold zeroB; kernel_rfl
@[push_cast] theorem o_Llaws_Term : oneB PP T_Llaws_Term = true := by kernel_rfl
@[push_cast] theorem z_Llaws_Term : sizeB PP T_Llaws_Term 1 = true := by kernel_rfl
@[push_cast] theorem l_Llaws_Term : elZ PP T_Llaws_Term 5 64 = true := by kernel_rfl
theorem u_Llaws_Term : PP.underlying T_Llaws_Term = some (.slice T_laws_Term) := by kernel_rfl
theorem eo_Llaws_Term : elOf PP T_Llaws_Term = T_laws_Term := by kernel_rfl
@[push_cast] theorem s_Llaws_Term : isSl PP T_Llaws_Term = true := by kernel_rfl
@[push_cast] theorem e_Llaws_Term : elB PP T_Llaws_Term 5 = true := by kernel_rfl
theorem zr_laws_Term : zeroB PP T_laws_Term (.agg #[(.int .i64 0), (.int .i64 0), (.int .i64 0), (.string ⟨#[]⟩), (.slice none 0 0)]) := by unfold zeroB; kernel_rfl
theorem b_laws_Term : strF PP T_laws_Term = some ([(0, 1), (1, 1), (2, 1), (3, 1), (4, 1)], [(.int .i64 0), (.int .i64 0), (.int .i64 0), (.string ⟨#[]⟩), (.slice none 0 0)]) := by kernel_rfl
@[push_cast] theorem g_laws_Term : aggB PP T_laws_Term 5 = true := by kernel_rfl
@[push_cast] theorem z_laws_Term : sizeB PP T_laws_Term 5 = true := by kernel_rfl
theorem zr_Lint : zeroB PP T_Lint (.slice none 0 0) := by unfold zeroB; kernel_rfl
@[push_cast] theorem o_Lint : oneB PP T_Lint = true := by kernel_rfl
@[push_cast] theorem z_Lint : sizeB PP T_Lint 1 = true := by kernel_rfl
@[push_cast] theorem l_Lint : elZ PP T_Lint 1 8 = true := by kernel_rfl
theorem u_Lint : PP.underlying T_Lint = some (.slice T_int) := by kernel_rfl
theorem eo_Lint : elOf PP T_Lint = T_int := by kernel_rfl
@[push_cast] theorem s_Lint : isSl PP T_Lint = true := by kernel_rfl
@[push_cast] theorem e_Lint : elB PP T_Lint 1 = true := by kernel_rfl
theorem zr_Limpl_Decl : zeroB PP T_Limpl_Decl (.slice none 0 0) := by unfold zeroB; kernel_rfl
@[push_cast] theorem o_Limpl_Decl : oneB PP T_Limpl_Decl = true := by kernel_rfl
@[push_cast] theorem z_Limpl_Decl : sizeB PP T_Limpl_Decl 1 = true := by kernel_rfl
@[push_cast] theorem l_Limpl_Decl : elZ PP T_Limpl_Decl 2 24 = true := by kernel_rfl
theorem u_Limpl_Decl : PP.underlying T_Limpl_Decl = some (.slice T_impl_Decl) := by kernel_rfl
theorem eo_Limpl_Decl : elOf PP T_Limpl_Decl = T_impl_Decl := by kernel_rfl
@[push_cast] theorem s_Limpl_Decl : isSl PP T_Limpl_Decl = true := by kernel_rfl
@[push_cast] theorem e_Limpl_Decl : elB PP T_Limpl_Decl 2 = true := by kernel_rfl
theorem zr_Limpl_Term : zeroB PP T_Limpl_Term (.slice none 0 0) := by unfold zeroB; kernel_rfl
@[push_cast] theorem o_Limpl_Term : oneB PP T_Limpl_Term = true := by kernel_rfl
@[push_cast] theorem z_Limpl_Term : sizeB PP T_Limpl_Term 1 = true := by kernel_rfl
@[push_cast] theorem l_Limpl_Term : elZ PP T_Limpl_Term 5 64 = true := by kernel_rfl
theorem u_Limpl_Term : PP.underlying T_Limpl_Term = some (.slice T_impl_Term) := by kernel_rfl
theorem eo_Limpl_Term : elOf PP T_Limpl_Term = T_impl_Term := by kernel_rfl
@[push_cast] theorem s_Limpl_Term : isSl PP T_Limpl_Term = true := by kernel_rfl
@[push_cast] theorem e_Limpl_Term : elB PP T_Limpl_Term 5 = true := by kernel_rfl
theorem zr_impl_Term : zeroB PP T_impl_Term (.agg #[(.int .i64 0), (.int .i64 0), (.int .i64 0), (.string ⟨#[]⟩), (.slice none 0 0)]) := by unfold zeroB; kernel_rfl
theorem b_impl_Term : strF PP T_impl_Term = some ([(0, 1), (1, 1), (2, 1), (3, 1), (4, 1)], [(.int .i64 0), (.int .i64 0), (.int .i64 0), (.string ⟨#[]⟩), (.slice none 0 0)]) := by kernel_rfl
@[push_cast] theorem g_impl_Term : aggB PP T_impl_Term 5 = true := by kernel_rfl
@[push_cast] theorem z_impl_Term : sizeB PP T_impl_Term 5 = true := by kernel_rfl
theorem zr_Luint8 : zeroB PP T_Luint8 (.slice none 0 0) := by unfold zeroB; kernel_rfl
@[push_cast] theorem o_Luint8 : oneB PP T_Luint8 = true := by kernel_rfl
@[push_cast] theorem z_Luint8 : sizeB PP T_Luint8 1 = true := by kernel_rfl
@[push_cast] theorem l_Luint8 : elZ PP T_Luint8 1 1 = true := by kernel_rfl
theorem u_Luint8 : PP.underlying T_Luint8 = some (.slice T_uint8) := by kernel_rfl
theorem eo_Luint8 : elOf PP T_Luint8 = T_uint8 := by kernel_rfl
@[push_cast] theorem s_Luint8 : isSl PP T_Luint8 = true := by kernel_rfl
@[push_cast] theorem e_Luint8 : elB PP T_Luint8 1 = true := by kernel_rfl
theorem zr_impl_Vec : zeroB PP T_impl_Vec (.agg #[(.int .i64 0), (.int .i64 0)]) := by unfold zeroB; kernel_rfl
theorem b_impl_Vec : strF PP T_impl_Vec = some ([(0, 1), (1, 1)], [(.int .i64 0), (.int .i64 0)]) := by kernel_rfl
@[push_cast] theorem g_impl_Vec : aggB PP T_impl_Vec 2 = true := by kernel_rfl
@[push_cast] theorem z_impl_Vec : sizeB PP T_impl_Vec 2 = true := by kernel_rfl
theorem zr_Limpl_Vec : zeroB PP T_Limpl_Vec (.slice none 0 0) := by unfold zeroB; kernel_rfl
@[push_cast] theorem o_Limpl_Vec : oneB PP T_Limpl_Vec = true := by kernel_rfl
@[push_cast] theorem z_Limpl_Vec : sizeB PP T_Limpl_Vec 1 = true := by kernel_rfl
@[push_cast] theorem l_Limpl_Vec : elZ PP T_Limpl_Vec 2 16 = true := by kernel_rfl
theorem u_Limpl_Vec : PP.underlying T_Limpl_Vec = some (.slice T_impl_Vec) := by kernel_rfl
theorem eo_Limpl_Vec : elOf PP T_Limpl_Vec = T_impl_Vec := by kernel_rfl
@[push_cast] theorem s_Limpl_Vec : isSl PP T_Limpl_Vec = true := by kernel_rfl
@[push_cast] theorem e_Limpl_Vec : elB PP T_Limpl_Vec 2 = true := by kernel_rfl
theorem zr_impl_Decl : zeroB PP T_impl_Decl (.agg #[(.string ⟨#[]⟩), (.int .i64 0)]) := by unfold zeroB; kernel_rfl
theorem b_impl_Decl : strF PP T_impl_Decl = some ([(0, 1), (1, 1)], [(.string ⟨#[]⟩), (.int .i64 0)]) := by kernel_rfl
@[push_cast] theorem g_impl_Decl : aggB PP T_impl_Decl 2 = true := by kernel_rfl
@[push_cast] theorem z_impl_Decl : sizeB PP T_impl_Decl 2 = true := by kernel_rfl
theorem zr_laws_Decl : zeroB PP T_laws_Decl (.agg #[(.string ⟨#[]⟩), (.int .i64 0)]) := by unfold zeroB; kernel_rfl
theorem b_laws_Decl : strF PP T_laws_Decl = some ([(0, 1), (1, 1)], [(.string ⟨#[]⟩), (.int .i64 0)]) := by kernel_rfl
@[push_cast] theorem g_laws_Decl : aggB PP T_laws_Decl 2 = true := by kernel_rfl
@[push_cast] theorem z_laws_Decl : sizeB PP T_laws_Decl 2 = true := by kernel_rfl
theorem zr_M_map_int_impl_kind : zeroB PP T_M_map_int_impl_kind (.map none) := by unfold zeroB; kernel_rfl
@[push_cast] theorem o_M_map_int_impl_kind : oneB PP T_M_map_int_impl_kind = true := by kernel_rfl
@[push_cast] theorem z_M_map_int_impl_kind : sizeB PP T_M_map_int_impl_kind 1 = true := by kernel_rfl
@[push_cast] theorem im_M_map_int_impl_kind : imapB PP T_M_map_int_impl_kind = true := by kernel_rfl
theorem map_M_map_int_impl_kind : PP.underlying T_M_map_int_impl_kind = some (.map 3 119) := by kernel_rfl
theorem zr_M_map_string_int : zeroB PP T_M_map_string_int (.map none) := by unfold zeroB; kernel_rfl
@[push_cast] theorem o_M_map_string_int : oneB PP T_M_map_string_int = true := by kernel_rfl
@[push_cast] theorem z_M_map_string_int : sizeB PP T_M_map_string_int 1 = true := by kernel_rfl
theorem map_M_map_string_int : PP.underlying T_M_map_string_int = some (.map 9 3) := by kernel_rfl
theorem zr_impl_raw : zeroB PP T_impl_raw (.int .u64 0) := by unfold zeroB; kernel_rfl
@[push_cast] theorem o_impl_raw : oneB PP T_impl_raw = true := by kernel_rfl
@[push_cast] theorem z_impl_raw : sizeB PP T_impl_raw 1 = true := by kernel_rfl
theorem ik_impl_raw : intB PP T_impl_raw .u64 := by unfold intB; kernel_rfl
theorem sm_impl_raw : (PP.underlying T_impl_raw).isSome = true := by kernel_rfl
theorem zr_impl_parser : zeroB PP T_impl_parser (.agg #[(.string ⟨#[]⟩), (.map none)]) := by unfold zeroB; kernel_rfl
theorem b_impl_parser : strF PP T_impl_parser = some ([(0, 1), (1, 1)], [(.string ⟨#[]⟩), (.map none)]) := by kernel_rfl
@[push_cast] theorem g_impl_parser : aggB PP T_impl_parser 2 = true := by kernel_rfl
@[push_cast] theorem z_impl_parser : sizeB PP T_impl_parser 2 = true := by kernel_rfl
theorem zr_Lstring : zeroB PP T_Lstring (.slice none 0 0) := by unfold zeroB; kernel_rfl
@[push_cast] theorem o_Lstring : oneB PP T_Lstring = true := by kernel_rfl
@[push_cast] theorem z_Lstring : sizeB PP T_Lstring 1 = true := by kernel_rfl
@[push_cast] theorem l_Lstring : elZ PP T_Lstring 1 16 = true := by kernel_rfl
theorem u_Lstring : PP.underlying T_Lstring = some (.slice T_string) := by kernel_rfl
theorem eo_Lstring : elOf PP T_Lstring = T_string := by kernel_rfl
@[push_cast] theorem s_Lstring : isSl PP T_Lstring = true := by kernel_rfl
@[push_cast] theorem e_Lstring : elB PP T_Lstring 1 = true := by kernel_rfl
theorem zr_impl_kind : zeroB PP T_impl_kind .nilIface := by unfold zeroB; kernel_rfl
@[push_cast] theorem o_impl_kind : oneB PP T_impl_kind = true := by kernel_rfl
@[push_cast] theorem z_impl_kind : sizeB PP T_impl_kind 1 = true := by kernel_rfl
theorem zr_impl_named : zeroB PP T_impl_named (.agg #[(.string ⟨#[]⟩), (.int .i64 0)]) := by unfold zeroB; kernel_rfl
theorem b_impl_named : strF PP T_impl_named = some ([(0, 1), (1, 1)], [(.string ⟨#[]⟩), (.int .i64 0)]) := by kernel_rfl
@[push_cast] theorem g_impl_named : aggB PP T_impl_named 2 = true := by kernel_rfl
@[push_cast] theorem z_impl_named : sizeB PP T_impl_named 2 = true := by kernel_rfl
theorem zr_impl_unKind : zeroB PP T_impl_unKind (.agg #[(.string ⟨#[]⟩), (.int .i64 0)]) := by unfold zeroB; kernel_rfl
theorem b_impl_unKind : strF PP T_impl_unKind = some ([(0, 2)], [(.string ⟨#[]⟩), (.int .i64 0)]) := by kernel_rfl
@[push_cast] theorem g_impl_unKind : aggB PP T_impl_unKind 2 = true := by kernel_rfl
@[push_cast] theorem z_impl_unKind : sizeB PP T_impl_unKind 2 = true := by kernel_rfl
theorem zr_impl_catKind : zeroB PP T_impl_catKind (.agg #[(.string ⟨#[]⟩), (.int .i64 0)]) := by unfold zeroB; kernel_rfl
theorem b_impl_catKind : strF PP T_impl_catKind = some ([(0, 2)], [(.string ⟨#[]⟩), (.int .i64 0)]) := by kernel_rfl
@[push_cast] theorem g_impl_catKind : aggB PP T_impl_catKind 2 = true := by kernel_rfl
@[push_cast] theorem z_impl_catKind : sizeB PP T_impl_catKind 2 = true := by kernel_rfl
theorem zr_impl_cmpKind : zeroB PP T_impl_cmpKind (.agg #[(.string ⟨#[]⟩), (.int .i64 0)]) := by unfold zeroB; kernel_rfl
theorem b_impl_cmpKind : strF PP T_impl_cmpKind = some ([(0, 2)], [(.string ⟨#[]⟩), (.int .i64 0)]) := by kernel_rfl
@[push_cast] theorem g_impl_cmpKind : aggB PP T_impl_cmpKind 2 = true := by kernel_rfl
@[push_cast] theorem z_impl_cmpKind : sizeB PP T_impl_cmpKind 2 = true := by kernel_rfl
theorem zr_impl_vecKind : zeroB PP T_impl_vecKind (.agg #[(.string ⟨#[]⟩), (.int .i64 0)]) := by unfold zeroB; kernel_rfl
theorem b_impl_vecKind : strF PP T_impl_vecKind = some ([(0, 2)], [(.string ⟨#[]⟩), (.int .i64 0)]) := by kernel_rfl
@[push_cast] theorem g_impl_vecKind : aggB PP T_impl_vecKind 2 = true := by kernel_rfl
@[push_cast] theorem z_impl_vecKind : sizeB PP T_impl_vecKind 2 = true := by kernel_rfl
theorem zr_impl_nameKind : zeroB PP T_impl_nameKind (.agg #[(.string ⟨#[]⟩), (.int .i64 0)]) := by unfold zeroB; kernel_rfl
theorem b_impl_nameKind : strF PP T_impl_nameKind = some ([(0, 2)], [(.string ⟨#[]⟩), (.int .i64 0)]) := by kernel_rfl
@[push_cast] theorem g_impl_nameKind : aggB PP T_impl_nameKind 2 = true := by kernel_rfl
@[push_cast] theorem z_impl_nameKind : sizeB PP T_impl_nameKind 2 = true := by kernel_rfl
theorem zr_impl_cutKind : zeroB PP T_impl_cutKind (.agg #[(.string ⟨#[]⟩), (.int .i64 0)]) := by unfold zeroB; kernel_rfl
theorem b_impl_cutKind : strF PP T_impl_cutKind = some ([(0, 2)], [(.string ⟨#[]⟩), (.int .i64 0)]) := by kernel_rfl
@[push_cast] theorem g_impl_cutKind : aggB PP T_impl_cutKind 2 = true := by kernel_rfl
@[push_cast] theorem z_impl_cutKind : sizeB PP T_impl_cutKind 2 = true := by kernel_rfl
theorem zr_impl_ifKind : zeroB PP T_impl_ifKind (.agg #[(.string ⟨#[]⟩), (.int .i64 0)]) := by unfold zeroB; kernel_rfl
theorem b_impl_ifKind : strF PP T_impl_ifKind = some ([(0, 2)], [(.string ⟨#[]⟩), (.int .i64 0)]) := by kernel_rfl
@[push_cast] theorem g_impl_ifKind : aggB PP T_impl_ifKind 2 = true := by kernel_rfl
@[push_cast] theorem z_impl_ifKind : sizeB PP T_impl_ifKind 2 = true := by kernel_rfl
theorem zr_F_func_Limpl_Vec_bool : zeroB PP T_F_func_Limpl_Vec_bool .nilFunc := by unfold zeroB; kernel_rfl
@[push_cast] theorem o_F_func_Limpl_Vec_bool : oneB PP T_F_func_Limpl_Vec_bool = true := by kernel_rfl
@[push_cast] theorem z_F_func_Limpl_Vec_bool : sizeB PP T_F_func_Limpl_Vec_bool 1 = true := by kernel_rfl
theorem zr_impl_boolKind : zeroB PP T_impl_boolKind (.agg #[(.string ⟨#[]⟩), (.int .i64 0), .nilFunc]) := by unfold zeroB; kernel_rfl
theorem b_impl_boolKind : strF PP T_impl_boolKind = some ([(0, 2), (2, 1)], [(.string ⟨#[]⟩), (.int .i64 0), .nilFunc]) := by kernel_rfl
@[push_cast] theorem g_impl_boolKind : aggB PP T_impl_boolKind 3 = true := by kernel_rfl
@[push_cast] theorem z_impl_boolKind : sizeB PP T_impl_boolKind 3 = true := by kernel_rfl
theorem zr_impl_binKind : zeroB PP T_impl_binKind (.agg #[(.string ⟨#[]⟩), (.int .i64 0)]) := by unfold zeroB; kernel_rfl
theorem b_impl_binKind : strF PP T_impl_binKind = some ([(0, 2)], [(.string ⟨#[]⟩), (.int .i64 0)]) := by kernel_rfl
@[push_cast] theorem g_impl_binKind : aggB PP T_impl_binKind 2 = true := by kernel_rfl
@[push_cast] theorem z_impl_binKind : sizeB PP T_impl_binKind 2 = true := by kernel_rfl
theorem zr_spec_l12Rd : zeroB PP T_spec_l12Rd (.agg #[(.slice none 0 0), (.int .i64 0)]) := by unfold zeroB; kernel_rfl
theorem b_spec_l12Rd : strF PP T_spec_l12Rd = some ([(0, 1), (1, 1)], [(.slice none 0 0), (.int .i64 0)]) := by kernel_rfl
@[push_cast] theorem g_spec_l12Rd : aggB PP T_spec_l12Rd 2 = true := by kernel_rfl
@[push_cast] theorem z_spec_l12Rd : sizeB PP T_spec_l12Rd 2 = true := by kernel_rfl
@[push_cast] theorem g_A_14_func_impl_Vec_impl_Vec_impl_raw : aggB PP T_A_14_func_impl_Vec_impl_Vec_impl_raw 14 = true := by kernel_rfl
@[push_cast] theorem z_A_14_func_impl_Vec_impl_Vec_impl_raw : sizeB PP T_A_14_func_impl_Vec_impl_Vec_impl_raw 14 = true := by kernel_rfl
theorem zr_impl_unreadable : zeroB PP T_impl_unreadable (.agg #[]) := by unfold zeroB; kernel_rfl
theorem b_impl_unreadable : strF PP T_impl_unreadable = some ([], []) := by kernel_rfl
@[push_cast] theorem g_impl_unreadable : aggB PP T_impl_unreadable 0 = true := by kernel_rfl
@[push_cast] theorem z_impl_unreadable : sizeB PP T_impl_unreadable 0 = true := by kernel_rfl
theorem zr_error : zeroB PP T_error .nilIface := by unfold zeroB; kernel_rfl
@[push_cast] theorem o_error : oneB PP T_error = true := by kernel_rfl
@[push_cast] theorem z_error : sizeB PP T_error 1 = true := by kernel_rfl
theorem fb_laws_Term_0 : fieldB PP T_laws_Term 0 0 = true := by kernel_rfl
@[push_cast] theorem fa_laws_Term_0 {w : World} {K : Value → World → Prop} (a : Addr) : vfaddr PP T_laws_Term (.pointer (some a)) 0 w K = K (.pointer (some (a.add 0))) w := vfaddr_eq fb_laws_Term_0 a
theorem fb_laws_Term_1 : fieldB PP T_laws_Term 1 1 = true := by kernel_rfl
@[push_cast] theorem fa_laws_Term_1 {w : World} {K : Value → World → Prop} (a : Addr) : vfaddr PP T_laws_Term (.pointer (some a)) 1 w K = K (.pointer (some (a.add 1))) w := vfaddr_eq fb_laws_Term_1 a
theorem fb_laws_Term_2 : fieldB PP T_laws_Term 2 2 = true := by kernel_rfl
@[push_cast] theorem fa_laws_Term_2 {w : World} {K : Value → World → Prop} (a : Addr) : vfaddr PP T_laws_Term (.pointer (some a)) 2 w K = K (.pointer (some (a.add 2))) w := vfaddr_eq fb_laws_Term_2 a
theorem fb_laws_Term_3 : fieldB PP T_laws_Term 3 3 = true := by kernel_rfl
@[push_cast] theorem fa_laws_Term_3 {w : World} {K : Value → World → Prop} (a : Addr) : vfaddr PP T_laws_Term (.pointer (some a)) 3 w K = K (.pointer (some (a.add 3))) w := vfaddr_eq fb_laws_Term_3 a
theorem fb_laws_Term_4 : fieldB PP T_laws_Term 4 4 = true := by kernel_rfl
@[push_cast] theorem fa_laws_Term_4 {w : World} {K : Value → World → Prop} (a : Addr) : vfaddr PP T_laws_Term (.pointer (some a)) 4 w K = K (.pointer (some (a.add 4))) w := vfaddr_eq fb_laws_Term_4 a
theorem fb_impl_Term_0 : fieldB PP T_impl_Term 0 0 = true := by kernel_rfl
@[push_cast] theorem fa_impl_Term_0 {w : World} {K : Value → World → Prop} (a : Addr) : vfaddr PP T_impl_Term (.pointer (some a)) 0 w K = K (.pointer (some (a.add 0))) w := vfaddr_eq fb_impl_Term_0 a
theorem fb_impl_Term_1 : fieldB PP T_impl_Term 1 1 = true := by kernel_rfl
@[push_cast] theorem fa_impl_Term_1 {w : World} {K : Value → World → Prop} (a : Addr) : vfaddr PP T_impl_Term (.pointer (some a)) 1 w K = K (.pointer (some (a.add 1))) w := vfaddr_eq fb_impl_Term_1 a
theorem fb_impl_Term_2 : fieldB PP T_impl_Term 2 2 = true := by kernel_rfl
@[push_cast] theorem fa_impl_Term_2 {w : World} {K : Value → World → Prop} (a : Addr) : vfaddr PP T_impl_Term (.pointer (some a)) 2 w K = K (.pointer (some (a.add 2))) w := vfaddr_eq fb_impl_Term_2 a
theorem fb_impl_Term_3 : fieldB PP T_impl_Term 3 3 = true := by kernel_rfl
@[push_cast] theorem fa_impl_Term_3 {w : World} {K : Value → World → Prop} (a : Addr) : vfaddr PP T_impl_Term (.pointer (some a)) 3 w K = K (.pointer (some (a.add 3))) w := vfaddr_eq fb_impl_Term_3 a
theorem fb_impl_Term_4 : fieldB PP T_impl_Term 4 4 = true := by kernel_rfl
@[push_cast] theorem fa_impl_Term_4 {w : World} {K : Value → World → Prop} (a : Addr) : vfaddr PP T_impl_Term (.pointer (some a)) 4 w K = K (.pointer (some (a.add 4))) w := vfaddr_eq fb_impl_Term_4 a
theorem fb_impl_Vec_0 : fieldB PP T_impl_Vec 0 0 = true := by kernel_rfl
@[push_cast] theorem fa_impl_Vec_0 {w : World} {K : Value → World → Prop} (a : Addr) : vfaddr PP T_impl_Vec (.pointer (some a)) 0 w K = K (.pointer (some (a.add 0))) w := vfaddr_eq fb_impl_Vec_0 a
theorem fb_impl_Vec_1 : fieldB PP T_impl_Vec 1 1 = true := by kernel_rfl
@[push_cast] theorem fa_impl_Vec_1 {w : World} {K : Value → World → Prop} (a : Addr) : vfaddr PP T_impl_Vec (.pointer (some a)) 1 w K = K (.pointer (some (a.add 1))) w := vfaddr_eq fb_impl_Vec_1 a
theorem fb_impl_Decl_0 : fieldB PP T_impl_Decl 0 0 = true := by kernel_rfl
@[push_cast] theorem fa_impl_Decl_0 {w : World} {K : Value → World → Prop} (a : Addr) : vfaddr PP T_impl_Decl (.pointer (some a)) 0 w K = K (.pointer (some (a.add 0))) w := vfaddr_eq fb_impl_Decl_0 a
theorem fb_impl_Decl_1 : fieldB PP T_impl_Decl 1 1 = true := by kernel_rfl
@[push_cast] theorem fa_impl_Decl_1 {w : World} {K : Value → World → Prop} (a : Addr) : vfaddr PP T_impl_Decl (.pointer (some a)) 1 w K = K (.pointer (some (a.add 1))) w := vfaddr_eq fb_impl_Decl_1 a
theorem fb_laws_Decl_0 : fieldB PP T_laws_Decl 0 0 = true := by kernel_rfl
@[push_cast] theorem fa_laws_Decl_0 {w : World} {K : Value → World → Prop} (a : Addr) : vfaddr PP T_laws_Decl (.pointer (some a)) 0 w K = K (.pointer (some (a.add 0))) w := vfaddr_eq fb_laws_Decl_0 a
theorem fb_laws_Decl_1 : fieldB PP T_laws_Decl 1 1 = true := by kernel_rfl
@[push_cast] theorem fa_laws_Decl_1 {w : World} {K : Value → World → Prop} (a : Addr) : vfaddr PP T_laws_Decl (.pointer (some a)) 1 w K = K (.pointer (some (a.add 1))) w := vfaddr_eq fb_laws_Decl_1 a
theorem fb_impl_parser_0 : fieldB PP T_impl_parser 0 0 = true := by kernel_rfl
@[push_cast] theorem fa_impl_parser_0 {w : World} {K : Value → World → Prop} (a : Addr) : vfaddr PP T_impl_parser (.pointer (some a)) 0 w K = K (.pointer (some (a.add 0))) w := vfaddr_eq fb_impl_parser_0 a
theorem fb_impl_parser_1 : fieldB PP T_impl_parser 1 1 = true := by kernel_rfl
@[push_cast] theorem fa_impl_parser_1 {w : World} {K : Value → World → Prop} (a : Addr) : vfaddr PP T_impl_parser (.pointer (some a)) 1 w K = K (.pointer (some (a.add 1))) w := vfaddr_eq fb_impl_parser_1 a
theorem fb_impl_named_0 : fieldB PP T_impl_named 0 0 = true := by kernel_rfl
@[push_cast] theorem fa_impl_named_0 {w : World} {K : Value → World → Prop} (a : Addr) : vfaddr PP T_impl_named (.pointer (some a)) 0 w K = K (.pointer (some (a.add 0))) w := vfaddr_eq fb_impl_named_0 a
theorem fb_impl_named_1 : fieldB PP T_impl_named 1 1 = true := by kernel_rfl
@[push_cast] theorem fa_impl_named_1 {w : World} {K : Value → World → Prop} (a : Addr) : vfaddr PP T_impl_named (.pointer (some a)) 1 w K = K (.pointer (some (a.add 1))) w := vfaddr_eq fb_impl_named_1 a
theorem fb_impl_boolKind_1 : fieldB PP T_impl_boolKind 1 2 = true := by kernel_rfl
@[push_cast] theorem fa_impl_boolKind_1 {w : World} {K : Value → World → Prop} (a : Addr) : vfaddr PP T_impl_boolKind (.pointer (some a)) 1 w K = K (.pointer (some (a.add 2))) w := vfaddr_eq fb_impl_boolKind_1 a
theorem fb_spec_l12Rd_0 : fieldB PP T_spec_l12Rd 0 0 = true := by kernel_rfl
@[push_cast] theorem fa_spec_l12Rd_0 {w : World} {K : Value → World → Prop} (a : Addr) : vfaddr PP T_spec_l12Rd (.pointer (some a)) 0 w K = K (.pointer (some (a.add 0))) w := vfaddr_eq fb_spec_l12Rd_0 a
theorem fb_spec_l12Rd_1 : fieldB PP T_spec_l12Rd 1 1 = true := by kernel_rfl
@[push_cast] theorem fa_spec_l12Rd_1 {w : World} {K : Value → World → Prop} (a : Addr) : vfaddr PP T_spec_l12Rd (.pointer (some a)) 1 w K = K (.pointer (some (a.add 1))) w := vfaddr_eq fb_spec_l12Rd_1 a
@[push_cast] theorem vf_impl_Vec_1 {w : World} {K : Value → World → Prop} (x0 x1 : Value) : vfield PP T_impl_Vec (.agg ⟨[x0, x1]⟩) 1 w K = K x1 w := vrun_eq (by kernel_rfl)
@[push_cast] theorem vF_impl_Vec_1 {w : World} {K : Value → World → Prop} (x0 x1 : Value) : vfield PP T_impl_Vec (.agg #[x0, x1]) 1 w K = K x1 w := vf_impl_Vec_1 x0 x1
noncomputable def mn_kids : String := match PP.info? 124 with | some i => (match i.methods[0]? with | some m => m.name | none => default) | none => default
noncomputable def mn_sort : String := match PP.info? 124 with | some i => (match i.methods[1]? with | some m => m.name | none => default) | none => default
noncomputable def mn_value : String := match PP.info? 124 with | some i => (match i.methods[2]? with | some m => m.name | none => default) | none => default
noncomputable def mn_word : String := match PP.info? 124 with | some i => (match i.methods[3]? with | some m => m.name | none => default) | none => default
theorem cb_impl_unKind : concB PP T_impl_unKind = true := by kernel_rfl
@[push_cast] theorem mi_impl_unKind {w : World} {K : Value → World → Prop} (v : Value) : vmkI PP T_impl_unKind v w K = K (.iface T_impl_unKind v) w := vmkI_eq cb_impl_unKind v
theorem me_impl_unKind_kids (x0 x1 : Value) (w : World) : (method (PP.types.size + Made.depth) T_impl_unKind (.agg ⟨[x0, x1]⟩) mn_kids).run PP w = .ok (n_impl_named_kids, .agg ⟨[x0, x1]⟩) w := by kernel_rfl
theorem me_impl_unKind_sort (x0 x1 : Value) (w : World) : (method (PP.types.size + Made.depth) T_impl_unKind (.agg ⟨[x0, x1]⟩) mn_sort).run PP w = .ok (n_impl_unKind_sort, .agg ⟨[x0, x1]⟩) w := by kernel_rfl
theorem me_impl_unKind_value (x0 x1 : Value) (w : World) : (method (PP.types.size + Made.depth) T_impl_unKind (.agg ⟨[x0, x1]⟩) mn_value).run PP w = .ok (n_impl_unKind_value, .agg ⟨[x0, x1]⟩) w := by kernel_rfl
theorem me_impl_unKind_word (x0 x1 : Value) (w : World) : (method (PP.types.size + Made.depth) T_impl_unKind (.agg ⟨[x0, x1]⟩) mn_word).run PP w = .ok (n_impl_named_word, .agg ⟨[x0, x1]⟩) w := by kernel_rfl
theorem cb_impl_catKind : concB PP T_impl_catKind = true := by kernel_rfl
@[push_cast] theorem mi_impl_catKind {w : World} {K : Value → World → Prop} (v : Value) : vmkI PP T_impl_catKind v w K = K (.iface T_impl_catKind v) w := vmkI_eq cb_impl_catKind v
theorem me_impl_catKind_kids (x0 x1 : Value) (w : World) : (method (PP.types.size + Made.depth) T_impl_catKind (.agg ⟨[x0, x1]⟩) mn_kids).run PP w = .ok (n_impl_named_kids, .agg ⟨[x0, x1]⟩) w := by kernel_rfl
theorem me_impl_catKind_sort (x0 x1 : Value) (w : World) : (method (PP.types.size + Made.depth) T_impl_catKind (.agg ⟨[x0, x1]⟩) mn_sort).run PP w = .ok (n_impl_catKind_sort, .agg ⟨[x0, x1]⟩) w := by kernel_rfl
theorem me_impl_catKind_value (x0 x1 : Value) (w : World) : (method (PP.types.size + Made.depth) T_impl_catKind (.agg ⟨[x0, x1]⟩) mn_value).run PP w = .ok (n_impl_catKind_value, .agg ⟨[x0, x1]⟩) w := by kernel_rfl
theorem me_impl_catKind_word (x0 x1 : Value) (w : World) : (method (PP.types.size + Made.depth) T_impl_catKind (.agg ⟨[x0, x1]⟩) mn_word).run PP w = .ok (n_impl_named_word, .agg ⟨[x0, x1]⟩) w := by kernel_rfl
theorem cb_impl_cmpKind : concB PP T_impl_cmpKind = true := by kernel_rfl
@[push_cast] theorem mi_impl_cmpKind {w : World} {K : Value → World → Prop} (v : Value) : vmkI PP T_impl_cmpKind v w K = K (.iface T_impl_cmpKind v) w := vmkI_eq cb_impl_cmpKind v
theorem me_impl_cmpKind_kids (x0 x1 : Value) (w : World) : (method (PP.types.size + Made.depth) T_impl_cmpKind (.agg ⟨[x0, x1]⟩) mn_kids).run PP w = .ok (n_impl_named_kids, .agg ⟨[x0, x1]⟩) w := by kernel_rfl
theorem me_impl_cmpKind_sort (x0 x1 : Value) (w : World) : (method (PP.types.size + Made.depth) T_impl_cmpKind (.agg ⟨[x0, x1]⟩) mn_sort).run PP w = .ok (n_impl_cmpKind_sort, .agg ⟨[x0, x1]⟩) w := by kernel_rfl
theorem me_impl_cmpKind_value (x0 x1 : Value) (w : World) : (method (PP.types.size + Made.depth) T_impl_cmpKind (.agg ⟨[x0, x1]⟩) mn_value).run PP w = .ok (n_impl_cmpKind_value, .agg ⟨[x0, x1]⟩) w := by kernel_rfl
theorem me_impl_cmpKind_word (x0 x1 : Value) (w : World) : (method (PP.types.size + Made.depth) T_impl_cmpKind (.agg ⟨[x0, x1]⟩) mn_word).run PP w = .ok (n_impl_named_word, .agg ⟨[x0, x1]⟩) w := by kernel_rfl
theorem cb_impl_vecKind : concB PP T_impl_vecKind = true := by kernel_rfl
@[push_cast] theorem mi_impl_vecKind {w : World} {K : Value → World → Prop} (v : Value) : vmkI PP T_impl_vecKind v w K = K (.iface T_impl_vecKind v) w := vmkI_eq cb_impl_vecKind v
theorem me_impl_vecKind_kids (x0 x1 : Value) (w : World) : (method (PP.types.size + Made.depth) T_impl_vecKind (.agg ⟨[x0, x1]⟩) mn_kids).run PP w = .ok (n_impl_named_kids, .agg ⟨[x0, x1]⟩) w := by kernel_rfl
theorem me_impl_vecKind_sort (x0 x1 : Value) (w : World) : (method (PP.types.size + Made.depth) T_impl_vecKind (.agg ⟨[x0, x1]⟩) mn_sort).run PP w = .ok (n_impl_vecKind_sort, .agg ⟨[x0, x1]⟩) w := by kernel_rfl
theorem me_impl_vecKind_value (x0 x1 : Value) (w : World) : (method (PP.types.size + Made.depth) T_impl_vecKind (.agg ⟨[x0, x1]⟩) mn_value).run PP w = .ok (n_impl_vecKind_value, .agg ⟨[x0, x1]⟩) w := by kernel_rfl
theorem me_impl_vecKind_word (x0 x1 : Value) (w : World) : (method (PP.types.size + Made.depth) T_impl_vecKind (.agg ⟨[x0, x1]⟩) mn_word).run PP w = .ok (n_impl_named_word, .agg ⟨[x0, x1]⟩) w := by kernel_rfl
theorem cb_impl_nameKind : concB PP T_impl_nameKind = true := by kernel_rfl
@[push_cast] theorem mi_impl_nameKind {w : World} {K : Value → World → Prop} (v : Value) : vmkI PP T_impl_nameKind v w K = K (.iface T_impl_nameKind v) w := vmkI_eq cb_impl_nameKind v
theorem me_impl_nameKind_kids (x0 x1 : Value) (w : World) : (method (PP.types.size + Made.depth) T_impl_nameKind (.agg ⟨[x0, x1]⟩) mn_kids).run PP w = .ok (n_impl_named_kids, .agg ⟨[x0, x1]⟩) w := by kernel_rfl
theorem me_impl_nameKind_sort (x0 x1 : Value) (w : World) : (method (PP.types.size + Made.depth) T_impl_nameKind (.agg ⟨[x0, x1]⟩) mn_sort).run PP w = .ok (n_impl_nameKind_sort, .agg ⟨[x0, x1]⟩) w := by kernel_rfl
theorem me_impl_nameKind_value (x0 x1 : Value) (w : World) : (method (PP.types.size + Made.depth) T_impl_nameKind (.agg ⟨[x0, x1]⟩) mn_value).run PP w = .ok (n_impl_nameKind_value, .agg ⟨[x0, x1]⟩) w := by kernel_rfl
theorem me_impl_nameKind_word (x0 x1 : Value) (w : World) : (method (PP.types.size + Made.depth) T_impl_nameKind (.agg ⟨[x0, x1]⟩) mn_word).run PP w = .ok (n_impl_named_word, .agg ⟨[x0, x1]⟩) w := by kernel_rfl
theorem cb_impl_cutKind : concB PP T_impl_cutKind = true := by kernel_rfl
@[push_cast] theorem mi_impl_cutKind {w : World} {K : Value → World → Prop} (v : Value) : vmkI PP T_impl_cutKind v w K = K (.iface T_impl_cutKind v) w := vmkI_eq cb_impl_cutKind v
theorem me_impl_cutKind_kids (x0 x1 : Value) (w : World) : (method (PP.types.size + Made.depth) T_impl_cutKind (.agg ⟨[x0, x1]⟩) mn_kids).run PP w = .ok (n_impl_named_kids, .agg ⟨[x0, x1]⟩) w := by kernel_rfl
theorem me_impl_cutKind_sort (x0 x1 : Value) (w : World) : (method (PP.types.size + Made.depth) T_impl_cutKind (.agg ⟨[x0, x1]⟩) mn_sort).run PP w = .ok (n_impl_cutKind_sort, .agg ⟨[x0, x1]⟩) w := by kernel_rfl
theorem me_impl_cutKind_value (x0 x1 : Value) (w : World) : (method (PP.types.size + Made.depth) T_impl_cutKind (.agg ⟨[x0, x1]⟩) mn_value).run PP w = .ok (n_impl_cutKind_value, .agg ⟨[x0, x1]⟩) w := by kernel_rfl
theorem me_impl_cutKind_word (x0 x1 : Value) (w : World) : (method (PP.types.size + Made.depth) T_impl_cutKind (.agg ⟨[x0, x1]⟩) mn_word).run PP w = .ok (n_impl_named_word, .agg ⟨[x0, x1]⟩) w := by kernel_rfl
theorem cb_impl_ifKind : concB PP T_impl_ifKind = true := by kernel_rfl
@[push_cast] theorem mi_impl_ifKind {w : World} {K : Value → World → Prop} (v : Value) : vmkI PP T_impl_ifKind v w K = K (.iface T_impl_ifKind v) w := vmkI_eq cb_impl_ifKind v
theorem me_impl_ifKind_kids (x0 x1 : Value) (w : World) : (method (PP.types.size + Made.depth) T_impl_ifKind (.agg ⟨[x0, x1]⟩) mn_kids).run PP w = .ok (n_impl_named_kids, .agg ⟨[x0, x1]⟩) w := by kernel_rfl
theorem me_impl_ifKind_sort (x0 x1 : Value) (w : World) : (method (PP.types.size + Made.depth) T_impl_ifKind (.agg ⟨[x0, x1]⟩) mn_sort).run PP w = .ok (n_impl_ifKind_sort, .agg ⟨[x0, x1]⟩) w := by kernel_rfl
theorem me_impl_ifKind_value (x0 x1 : Value) (w : World) : (method (PP.types.size + Made.depth) T_impl_ifKind (.agg ⟨[x0, x1]⟩) mn_value).run PP w = .ok (n_impl_ifKind_value, .agg ⟨[x0, x1]⟩) w := by kernel_rfl
theorem me_impl_ifKind_word (x0 x1 : Value) (w : World) : (method (PP.types.size + Made.depth) T_impl_ifKind (.agg ⟨[x0, x1]⟩) mn_word).run PP w = .ok (n_impl_named_word, .agg ⟨[x0, x1]⟩) w := by kernel_rfl
theorem cb_impl_boolKind : concB PP T_impl_boolKind = true := by kernel_rfl
@[push_cast] theorem mi_impl_boolKind {w : World} {K : Value → World → Prop} (v : Value) : vmkI PP T_impl_boolKind v w K = K (.iface T_impl_boolKind v) w := vmkI_eq cb_impl_boolKind v
theorem me_impl_boolKind_kids (x0 x1 x2 : Value) (w : World) : (method (PP.types.size + Made.depth) T_impl_boolKind (.agg ⟨[x0, x1, x2]⟩) mn_kids).run PP w = .ok (n_impl_named_kids, .agg ⟨[x0, x1]⟩) w := by kernel_rfl
theorem me_impl_boolKind_sort (x0 x1 x2 : Value) (w : World) : (method (PP.types.size + Made.depth) T_impl_boolKind (.agg ⟨[x0, x1, x2]⟩) mn_sort).run PP w = .ok (n_impl_boolKind_sort, .agg ⟨[x0, x1, x2]⟩) w := by kernel_rfl
theorem me_impl_boolKind_value (x0 x1 x2 : Value) (w : World) : (method (PP.types.size + Made.depth) T_impl_boolKind (.agg ⟨[x0, x1, x2]⟩) mn_value).run PP w = .ok (n_impl_boolKind_value, .agg ⟨[x0, x1, x2]⟩) w := by kernel_rfl
theorem me_impl_boolKind_word (x0 x1 x2 : Value) (w : World) : (method (PP.types.size + Made.depth) T_impl_boolKind (.agg ⟨[x0, x1, x2]⟩) mn_word).run PP w = .ok (n_impl_named_word, .agg ⟨[x0, x1]⟩) w := by kernel_rfl
theorem cb_impl_binKind : concB PP T_impl_binKind = true := by kernel_rfl
@[push_cast] theorem mi_impl_binKind {w : World} {K : Value → World → Prop} (v : Value) : vmkI PP T_impl_binKind v w K = K (.iface T_impl_binKind v) w := vmkI_eq cb_impl_binKind v
theorem me_impl_binKind_kids (x0 x1 : Value) (w : World) : (method (PP.types.size + Made.depth) T_impl_binKind (.agg ⟨[x0, x1]⟩) mn_kids).run PP w = .ok (n_impl_named_kids, .agg ⟨[x0, x1]⟩) w := by kernel_rfl
theorem me_impl_binKind_sort (x0 x1 : Value) (w : World) : (method (PP.types.size + Made.depth) T_impl_binKind (.agg ⟨[x0, x1]⟩) mn_sort).run PP w = .ok (n_impl_binKind_sort, .agg ⟨[x0, x1]⟩) w := by kernel_rfl
theorem me_impl_binKind_value (x0 x1 : Value) (w : World) : (method (PP.types.size + Made.depth) T_impl_binKind (.agg ⟨[x0, x1]⟩) mn_value).run PP w = .ok (n_impl_binKind_value, .agg ⟨[x0, x1]⟩) w := by kernel_rfl
theorem me_impl_binKind_word (x0 x1 : Value) (w : World) : (method (PP.types.size + Made.depth) T_impl_binKind (.agg ⟨[x0, x1]⟩) mn_word).run PP w = .ok (n_impl_named_word, .agg ⟨[x0, x1]⟩) w := by kernel_rfl
theorem cb_impl_unreadable : concB PP T_impl_unreadable = true := by kernel_rfl
@[push_cast] theorem mi_impl_unreadable {w : World} {K : Value → World → Prop} (v : Value) : vmkI PP T_impl_unreadable v w K = K (.iface T_impl_unreadable v) w := vmkI_eq cb_impl_unreadable v
end Go.Proofs.YtbiabimalkkeiaaGreatDoor
