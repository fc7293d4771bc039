import Derived.Test.YtcfgmgjofmbfhaaGreatDoorProg
import Derived.Test.YtcfgmgjofmbfhaaGreatDoorWsnP2
/- A part of the proof: Nm, F0. -/
set_option linter.unusedVariables false
set_option linter.unusedSimpArgs false
set_option linter.unnecessarySimpa false
set_option linter.unusedSectionVars false
section
namespace Go.Proofs.YtcfgmgjofmbfhaaGreatDoor
open Go Go.Vc Go.Proofs
noncomputable abbrev PP : Program := Tryz.prog
theorem mixed : PP.follows .mixedOrders = true := by kernel_rfl
abbrev n_laws_FnEnvMore : Nat := 7
abbrev n_spec_DrawTermFold : Nat := 11
abbrev n_impl_TermFold : Nat := 12
abbrev n_impl_TermSame : Nat := 13
abbrev n_spec_TermFold : Nat := 14
abbrev n_spec_TermSort : Nat := 15
abbrev n_impl_DeclOk : Nat := 27
abbrev n_impl_EnvMany : Nat := 28
abbrev n_impl_EnvAll : Nat := 29
abbrev n_impl_TermEval : Nat := 30
abbrev n_impl_TermSort : Nat := 32
abbrev n_impl_TermMany : Nat := 34
abbrev n_impl_TermFixed : Nat := 36
abbrev n_spec_TermFixed : Nat := 37
abbrev n_spec_l3Draw : Nat := 39
abbrev n_spec_l12Open : Nat := 40
abbrev n_impl_copyTerm : Nat := 41
abbrev n_impl_kinds : Nat := 42
abbrev n_impl_folder_fold : Nat := 43
abbrev n_slices_EqualFunc_Limpl_Term_Limpl_Term_impl_Term_impl_Term : Nat := 44
abbrev n_spec_l3Copy : Nat := 45
abbrev n_spec_l3Fold : Nat := 46
abbrev n_spec_TermMany : Nat := 47
abbrev n_spec_DeclOk : Nat := 48
abbrev n_spec_l2Sort : Nat := 49
abbrev n_impl_folder_one : Nat := 50
abbrev n_spec_l3One : Nat := 53
abbrev n_strings_Trim : Nat := 61
abbrev n_slices_ContainsFunc_Limpl_Decl_impl_Decl : Nat := 62
abbrev n_impl_DeclOk_1 : Nat := 63
abbrev n_impl_environments : Nat := 64
abbrev n_slices_Clone_Lint_int : Nat := 65
abbrev n_impl_EnvOk : Nat := 66
abbrev n_impl_valueOf : Nat := 67
abbrev n_impl_envMap : Nat := 68
abbrev n_impl_sortOf : Nat := 69
abbrev n_impl_count : Nat := 70
abbrev n_spec_l12Rd_pick : Nat := 71
abbrev n_spec_l2Bent : Nat := 72
abbrev n_spec_l3Bool : Nat := 73
abbrev n_spec_l2Leafy : Nat := 74
abbrev n_impl_VecOk : Nat := 75
abbrev n_impl_falseTerm : Nat := 76
abbrev n_spec_TermSame : Nat := 77
abbrev n_spec_l3False : Nat := 78
abbrev n_spec_VecOk : Nat := 79
abbrev n_spec_l2Decls : Nat := 80
abbrev n_spec_l2Some : Nat := 81
abbrev n_spec_l12Rd_num : Nat := 82
abbrev n_spec_l3Dull : Nat := 83
abbrev n_spec_l2Spoil : Nat := 84
abbrev n_impl_kinds_1 : Nat := 85
abbrev n_impl_kinds_2 : Nat := 86
abbrev n_impl_kinds_3 : Nat := 87
abbrev n_impl_kinds_4 : Nat := 88
abbrev n_spec_l1Max : Nat := 89
abbrev n_spec_l2Name : Nat := 90
abbrev n_spec_l2Find : Nat := 91
abbrev n_spec_l2Plain : Nat := 92
abbrev n_spec_l2One : Nat := 93
abbrev n_spec_l2Both : Nat := 94
abbrev n_impl_folder_rules : Nat := 95
abbrev n_spec_l3All : Nat := 96
abbrev n_spec_l2Eval : Nat := 97
abbrev n_spec_l3Logic : Nat := 98
abbrev n_spec_l3Two : Nat := 99
abbrev n_slices_IndexFunc_Limpl_Decl_impl_Decl : Nat := 107
abbrev n_impl_environments_1 : Nat := 108
abbrev n_impl_plain : Nat := 109
abbrev n_spec_l1Two : Nat := 110
abbrev n_spec_l1Min : Nat := 111
abbrev n_spec_l2Term : Nat := 112
abbrev n_spec_l3Zero : Nat := 113
abbrev n_spec_l12Rd_of : Nat := 114
abbrev n_spec_l2Arity : Nat := 115
abbrev n_impl_folder_fixed : Nat := 116
abbrev n_impl_folder_branches : Nat := 117
abbrev n_impl_folder_truths : Nat := 118
abbrev n_impl_folder_layers : Nat := 119
abbrev n_impl_folder_twins : Nat := 120
abbrev n_impl_folder_seconds : Nat := 121
abbrev n_impl_folder_firsts : Nat := 122
abbrev n_spec_l2Do : Nat := 123
abbrev n_spec_l3Is : Nat := 124
abbrev n_spec_l2Bool : Nat := 125
abbrev n_spec_l3Alike : Nat := 126
abbrev n_spec_l3Right : Nat := 127
abbrev n_spec_l2Asks : Nat := 132
abbrev n_slices_ContainsFunc_Limpl_Term_impl_Term : Nat := 133
abbrev n_impl_folder_fixed_1 : Nat := 134
abbrev n_impl_constant : Nat := 135
abbrev n_impl_folder_sort : Nat := 136
abbrev n_impl_is : Nat := 137
abbrev n_impl_chosen : Nat := 138
abbrev n_impl_among : Nat := 139
abbrev n_spec_l2Vec : Nat := 140
abbrev n_spec_VecCut : Nat := 141
abbrev n_spec_VecUn : Nat := 142
abbrev n_spec_VecCmp : Nat := 143
abbrev n_spec_VecBin : Nat := 144
abbrev n_slices_IndexFunc_Limpl_Term_impl_Term : Nat := 148
abbrev n_slices_Contains_Lint_int : Nat := 149
abbrev n_spec_l1Mod : Nat := 150
abbrev n_spec_l1Signed : Nat := 151
abbrev n_spec_l1Bin : Nat := 152
abbrev n_slices_Index_Lint_int : Nat := 157
abbrev n_spec_l1Bit : Nat := 158
abbrev n_spec_l1Bits : Nat := 159
abbrev n_spec_l1Shift : Nat := 160
abbrev n_impl_Vec_ones : Nat := 179
abbrev n_impl_named_kids : Nat := 180
abbrev n_impl_unKind_sort : Nat := 181
abbrev n_impl_unKind_value : Nat := 182
abbrev n_impl_sorted : Nat := 183
abbrev n_impl_VecUn : Nat := 184
abbrev n_impl_Vec_vec : Nat := 185
abbrev n_impl_Vec_raw : Nat := 186
abbrev n_impl_raw_cut : Nat := 187
abbrev n_impl_catKind_sort : Nat := 188
abbrev n_impl_catKind_value : Nat := 189
abbrev n_impl_VecBin : Nat := 190
abbrev n_impl_binaries : Nat := 191
abbrev n_impl_binaries_1 : Nat := 192
abbrev n_impl_binaries_2 : Nat := 193
abbrev n_impl_binaries_3 : Nat := 194
abbrev n_impl_binaries_4 : Nat := 195
abbrev n_impl_binaries_5 : Nat := 196
abbrev n_impl_binaries_6 : Nat := 197
abbrev n_impl_binaries_7 : Nat := 198
abbrev n_impl_binaries_8 : Nat := 199
abbrev n_impl_binaries_9 : Nat := 200
abbrev n_impl_binaries_10 : Nat := 201
abbrev n_impl_binaries_11 : Nat := 202
abbrev n_impl_Vec_stretched : Nat := 203
abbrev n_impl_raw_bit : Nat := 204
abbrev n_impl_cmpKind_sort : Nat := 205
abbrev n_impl_cmpKind_value : Nat := 206
abbrev n_impl_VecCmp : Nat := 207
abbrev n_impl_number : Nat := 208
abbrev n_impl_VecSigned : Nat := 209
abbrev n_impl_vecKind_sort : Nat := 210
abbrev n_impl_vecKind_value : Nat := 211
abbrev n_impl_nameKind_sort : Nat := 212
abbrev n_impl_nameKind_value : Nat := 213
abbrev n_impl_nameKind_sort_1 : Nat := 214
abbrev n_impl_cutKind_sort : Nat := 215
abbrev n_impl_cutKind_value : Nat := 216
abbrev n_impl_VecCut : Nat := 217
abbrev n_impl_ifKind_sort : Nat := 218
abbrev n_impl_ifKind_value : Nat := 219
abbrev n_impl_boolKind_sort : Nat := 220
abbrev n_impl_boolKind_value : Nat := 221
abbrev n_slices_ContainsFunc_Lint_int : Nat := 222
abbrev n_impl_boolKind_sort_1 : Nat := 223
abbrev n_slices_IndexFunc_Lint_int : Nat := 224
abbrev n_impl_binKind_sort : Nat := 225
abbrev n_impl_binKind_value : Nat := 226
abbrev T_int : Nat := 3
abbrev T_bool : Nat := 4
abbrev T_uint8 : Nat := 5
abbrev T_string : Nat := 9
abbrev T_Luint8 : Nat := 22
abbrev T_Limpl_Decl : Nat := 23
abbrev T_Limpl_Term : Nat := 24
abbrev T_impl_Term : Nat := 26
abbrev T_impl_Decl : Nat := 46
abbrev T_Lint : Nat := 49
abbrev T_M_map_int_impl_kind : Nat := 65
abbrev T_impl_folder : Nat := 68
abbrev T_impl_Vec : Nat := 88
abbrev T_M_map_string_int : Nat := 90
abbrev T_spec_l12Rd : Nat := 106
abbrev T_impl_named : Nat := 108
abbrev T_impl_unKind : Nat := 110
abbrev T_impl_catKind : Nat := 111
abbrev T_impl_cmpKind : Nat := 112
abbrev T_impl_vecKind : Nat := 113
abbrev T_impl_nameKind : Nat := 114
abbrev T_impl_cutKind : Nat := 115
abbrev T_impl_ifKind : Nat := 116
abbrev T_Limpl_Vec : Nat := 117
abbrev T_F_func_Limpl_Vec_bool : Nat := 118
abbrev T_impl_boolKind : Nat := 120
abbrev T_Lstring : Nat := 121
abbrev T_impl_binKind : Nat := 122
abbrev T_impl_kind : Nat := 124
abbrev T_Lfunc_impl_Term_impl_Term_bool : Nat := 130
abbrev T_F_func_impl_Term_impl_Term_bool_132 : Nat := 132
abbrev T_impl_raw : Nat := 204
abbrev T_A_14_func_impl_Vec_impl_Vec_impl_raw : Nat := 207
theorem zr_int : zeroB PP T_int (.int .i64 0) := by unfold zeroB; kernel_rfl
@[push_cast] theorem o_int : oneB PP T_int = true := by kernel_rfl
@[push_cast] theorem z_int : sizeB PP T_int 1 = true := by kernel_rfl
theorem ik_int : intB PP T_int .i64 := by unfold intB; kernel_rfl
theorem sm_int : (PP.underlying T_int).isSome = true := by kernel_rfl
theorem zr_bool : zeroB PP T_bool (.bool false) := by unfold zeroB; kernel_rfl
@[push_cast] theorem o_bool : oneB PP T_bool = true := by kernel_rfl
@[push_cast] theorem z_bool : sizeB PP T_bool 1 = true := by kernel_rfl
@[push_cast] theorem o_uint8 : oneB PP T_uint8 = true := by kernel_rfl
@[push_cast] theorem z_uint8 : sizeB PP T_uint8 1 = true := by kernel_rfl
theorem ik_uint8 : intB PP T_uint8 .u8 := by unfold intB; kernel_rfl
theorem sm_uint8 : (PP.underlying T_uint8).isSome = true := by kernel_rfl
theorem zr_string : zeroB PP T_string (.string ⟨#[]⟩) := by unfold zeroB; kernel_rfl
@[push_cast] theorem o_string : oneB PP T_string = true := by kernel_rfl
@[push_cast] theorem z_string : sizeB PP T_string 1 = true := by kernel_rfl
theorem str_string : PP.underlying T_string = some .string := by kernel_rfl
@[push_cast] theorem o_Luint8 : oneB PP T_Luint8 = true := by kernel_rfl
@[push_cast] theorem z_Luint8 : sizeB PP T_Luint8 1 = true := by kernel_rfl
@[push_cast] theorem l_Luint8 : elZ PP T_Luint8 1 1 = true := by kernel_rfl
theorem u_Luint8 : PP.underlying T_Luint8 = some (.slice T_uint8) := by kernel_rfl
@[push_cast] theorem s_Luint8 : isSl PP T_Luint8 = true := by kernel_rfl
@[push_cast] theorem e_Luint8 : elB PP T_Luint8 1 = true := by kernel_rfl
@[push_cast] theorem o_Limpl_Decl : oneB PP T_Limpl_Decl = true := by kernel_rfl
@[push_cast] theorem z_Limpl_Decl : sizeB PP T_Limpl_Decl 1 = true := by kernel_rfl
@[push_cast] theorem l_Limpl_Decl : elZ PP T_Limpl_Decl 2 24 = true := by kernel_rfl
theorem u_Limpl_Decl : PP.underlying T_Limpl_Decl = some (.slice T_impl_Decl) := by kernel_rfl
theorem eo_Limpl_Decl : elOf PP T_Limpl_Decl = T_impl_Decl := by kernel_rfl
@[push_cast] theorem s_Limpl_Decl : isSl PP T_Limpl_Decl = true := by kernel_rfl
@[push_cast] theorem e_Limpl_Decl : elB PP T_Limpl_Decl 2 = true := by kernel_rfl
@[push_cast] theorem o_Limpl_Term : oneB PP T_Limpl_Term = true := by kernel_rfl
@[push_cast] theorem z_Limpl_Term : sizeB PP T_Limpl_Term 1 = true := by kernel_rfl
@[push_cast] theorem l_Limpl_Term : elZ PP T_Limpl_Term 5 64 = true := by kernel_rfl
theorem u_Limpl_Term : PP.underlying T_Limpl_Term = some (.slice T_impl_Term) := by kernel_rfl
theorem eo_Limpl_Term : elOf PP T_Limpl_Term = T_impl_Term := by kernel_rfl
@[push_cast] theorem s_Limpl_Term : isSl PP T_Limpl_Term = true := by kernel_rfl
@[push_cast] theorem e_Limpl_Term : elB PP T_Limpl_Term 5 = true := by kernel_rfl
theorem zr_impl_Term : zeroB PP T_impl_Term (.agg #[(.int .i64 0), (.int .i64 0), (.int .i64 0), (.string ⟨#[]⟩), (.slice none 0 0)]) := by unfold zeroB; kernel_rfl
theorem b_impl_Term : strF PP T_impl_Term = some ([(0, 1), (1, 1), (2, 1), (3, 1), (4, 1)], [(.int .i64 0), (.int .i64 0), (.int .i64 0), (.string ⟨#[]⟩), (.slice none 0 0)]) := by kernel_rfl
@[push_cast] theorem g_impl_Term : aggB PP T_impl_Term 5 = true := by kernel_rfl
@[push_cast] theorem z_impl_Term : sizeB PP T_impl_Term 5 = true := by kernel_rfl
theorem zr_impl_Decl : zeroB PP T_impl_Decl (.agg #[(.string ⟨#[]⟩), (.int .i64 0)]) := by unfold zeroB; kernel_rfl
theorem b_impl_Decl : strF PP T_impl_Decl = some ([(0, 1), (1, 1)], [(.string ⟨#[]⟩), (.int .i64 0)]) := by kernel_rfl
@[push_cast] theorem g_impl_Decl : aggB PP T_impl_Decl 2 = true := by kernel_rfl
@[push_cast] theorem z_impl_Decl : sizeB PP T_impl_Decl 2 = true := by kernel_rfl
theorem zr_Lint : zeroB PP T_Lint (.slice none 0 0) := by unfold zeroB; kernel_rfl
@[push_cast] theorem o_Lint : oneB PP T_Lint = true := by kernel_rfl
@[push_cast] theorem z_Lint : sizeB PP T_Lint 1 = true := by kernel_rfl
@[push_cast] theorem l_Lint : elZ PP T_Lint 1 8 = true := by kernel_rfl
theorem u_Lint : PP.underlying T_Lint = some (.slice T_int) := by kernel_rfl
theorem eo_Lint : elOf PP T_Lint = T_int := by kernel_rfl
@[push_cast] theorem s_Lint : isSl PP T_Lint = true := by kernel_rfl
@[push_cast] theorem e_Lint : elB PP T_Lint 1 = true := by kernel_rfl
@[push_cast] theorem o_M_map_int_impl_kind : oneB PP T_M_map_int_impl_kind = true := by kernel_rfl
@[push_cast] theorem z_M_map_int_impl_kind : sizeB PP T_M_map_int_impl_kind 1 = true := by kernel_rfl
theorem map_M_map_int_impl_kind : PP.underlying T_M_map_int_impl_kind = some (.map 3 124) := by kernel_rfl
theorem b_impl_folder : strF PP T_impl_folder = some ([(0, 1), (1, 1)], [(.slice none 0 0), (.map none)]) := by kernel_rfl
@[push_cast] theorem g_impl_folder : aggB PP T_impl_folder 2 = true := by kernel_rfl
@[push_cast] theorem z_impl_folder : sizeB PP T_impl_folder 2 = true := by kernel_rfl
theorem zr_impl_Vec : zeroB PP T_impl_Vec (.agg #[(.int .i64 0), (.int .i64 0)]) := by unfold zeroB; kernel_rfl
theorem b_impl_Vec : strF PP T_impl_Vec = some ([(0, 1), (1, 1)], [(.int .i64 0), (.int .i64 0)]) := by kernel_rfl
@[push_cast] theorem g_impl_Vec : aggB PP T_impl_Vec 2 = true := by kernel_rfl
@[push_cast] theorem z_impl_Vec : sizeB PP T_impl_Vec 2 = true := by kernel_rfl
@[push_cast] theorem o_M_map_string_int : oneB PP T_M_map_string_int = true := by kernel_rfl
@[push_cast] theorem z_M_map_string_int : sizeB PP T_M_map_string_int 1 = true := by kernel_rfl
theorem map_M_map_string_int : PP.underlying T_M_map_string_int = some (.map 9 3) := by kernel_rfl
theorem b_spec_l12Rd : strF PP T_spec_l12Rd = some ([(0, 1), (1, 1)], [(.slice none 0 0), (.int .i64 0)]) := by kernel_rfl
@[push_cast] theorem g_spec_l12Rd : aggB PP T_spec_l12Rd 2 = true := by kernel_rfl
@[push_cast] theorem z_spec_l12Rd : sizeB PP T_spec_l12Rd 2 = true := by kernel_rfl
theorem b_impl_named : strF PP T_impl_named = some ([(0, 1), (1, 1)], [(.string ⟨#[]⟩), (.int .i64 0)]) := by kernel_rfl
@[push_cast] theorem g_impl_named : aggB PP T_impl_named 2 = true := by kernel_rfl
@[push_cast] theorem z_impl_named : sizeB PP T_impl_named 2 = true := by kernel_rfl
theorem b_impl_unKind : strF PP T_impl_unKind = some ([(0, 2)], [(.string ⟨#[]⟩), (.int .i64 0)]) := by kernel_rfl
@[push_cast] theorem g_impl_unKind : aggB PP T_impl_unKind 2 = true := by kernel_rfl
@[push_cast] theorem z_impl_unKind : sizeB PP T_impl_unKind 2 = true := by kernel_rfl
theorem b_impl_catKind : strF PP T_impl_catKind = some ([(0, 2)], [(.string ⟨#[]⟩), (.int .i64 0)]) := by kernel_rfl
@[push_cast] theorem g_impl_catKind : aggB PP T_impl_catKind 2 = true := by kernel_rfl
@[push_cast] theorem z_impl_catKind : sizeB PP T_impl_catKind 2 = true := by kernel_rfl
theorem b_impl_cmpKind : strF PP T_impl_cmpKind = some ([(0, 2)], [(.string ⟨#[]⟩), (.int .i64 0)]) := by kernel_rfl
@[push_cast] theorem g_impl_cmpKind : aggB PP T_impl_cmpKind 2 = true := by kernel_rfl
@[push_cast] theorem z_impl_cmpKind : sizeB PP T_impl_cmpKind 2 = true := by kernel_rfl
theorem b_impl_vecKind : strF PP T_impl_vecKind = some ([(0, 2)], [(.string ⟨#[]⟩), (.int .i64 0)]) := by kernel_rfl
@[push_cast] theorem g_impl_vecKind : aggB PP T_impl_vecKind 2 = true := by kernel_rfl
@[push_cast] theorem z_impl_vecKind : sizeB PP T_impl_vecKind 2 = true := by kernel_rfl
theorem b_impl_nameKind : strF PP T_impl_nameKind = some ([(0, 2)], [(.string ⟨#[]⟩), (.int .i64 0)]) := by kernel_rfl
@[push_cast] theorem g_impl_nameKind : aggB PP T_impl_nameKind 2 = true := by kernel_rfl
@[push_cast] theorem z_impl_nameKind : sizeB PP T_impl_nameKind 2 = true := by kernel_rfl
theorem b_impl_cutKind : strF PP T_impl_cutKind = some ([(0, 2)], [(.string ⟨#[]⟩), (.int .i64 0)]) := by kernel_rfl
@[push_cast] theorem g_impl_cutKind : aggB PP T_impl_cutKind 2 = true := by kernel_rfl
@[push_cast] theorem z_impl_cutKind : sizeB PP T_impl_cutKind 2 = true := by kernel_rfl
theorem b_impl_ifKind : strF PP T_impl_ifKind = some ([(0, 2)], [(.string ⟨#[]⟩), (.int .i64 0)]) := by kernel_rfl
@[push_cast] theorem g_impl_ifKind : aggB PP T_impl_ifKind 2 = true := by kernel_rfl
@[push_cast] theorem z_impl_ifKind : sizeB PP T_impl_ifKind 2 = true := by kernel_rfl
@[push_cast] theorem o_Limpl_Vec : oneB PP T_Limpl_Vec = true := by kernel_rfl
@[push_cast] theorem z_Limpl_Vec : sizeB PP T_Limpl_Vec 1 = true := by kernel_rfl
@[push_cast] theorem l_Limpl_Vec : elZ PP T_Limpl_Vec 2 16 = true := by kernel_rfl
theorem u_Limpl_Vec : PP.underlying T_Limpl_Vec = some (.slice T_impl_Vec) := by kernel_rfl
@[push_cast] theorem s_Limpl_Vec : isSl PP T_Limpl_Vec = true := by kernel_rfl
@[push_cast] theorem e_Limpl_Vec : elB PP T_Limpl_Vec 2 = true := by kernel_rfl
@[push_cast] theorem o_F_func_Limpl_Vec_bool : oneB PP T_F_func_Limpl_Vec_bool = true := by kernel_rfl
@[push_cast] theorem z_F_func_Limpl_Vec_bool : sizeB PP T_F_func_Limpl_Vec_bool 1 = true := by kernel_rfl
theorem b_impl_boolKind : strF PP T_impl_boolKind = some ([(0, 2), (2, 1)], [(.string ⟨#[]⟩), (.int .i64 0), .nilFunc]) := by kernel_rfl
@[push_cast] theorem g_impl_boolKind : aggB PP T_impl_boolKind 3 = true := by kernel_rfl
@[push_cast] theorem z_impl_boolKind : sizeB PP T_impl_boolKind 3 = true := by kernel_rfl
@[push_cast] theorem o_Lstring : oneB PP T_Lstring = true := by kernel_rfl
@[push_cast] theorem z_Lstring : sizeB PP T_Lstring 1 = true := by kernel_rfl
@[push_cast] theorem l_Lstring : elZ PP T_Lstring 1 16 = true := by kernel_rfl
theorem u_Lstring : PP.underlying T_Lstring = some (.slice T_string) := by kernel_rfl
@[push_cast] theorem s_Lstring : isSl PP T_Lstring = true := by kernel_rfl
@[push_cast] theorem e_Lstring : elB PP T_Lstring 1 = true := by kernel_rfl
theorem b_impl_binKind : strF PP T_impl_binKind = some ([(0, 2)], [(.string ⟨#[]⟩), (.int .i64 0)]) := by kernel_rfl
@[push_cast] theorem g_impl_binKind : aggB PP T_impl_binKind 2 = true := by kernel_rfl
@[push_cast] theorem z_impl_binKind : sizeB PP T_impl_binKind 2 = true := by kernel_rfl
@[push_cast] theorem o_impl_kind : oneB PP T_impl_kind = true := by kernel_rfl
@[push_cast] theorem z_impl_kind : sizeB PP T_impl_kind 1 = true := by kernel_rfl
@[push_cast] theorem o_Lfunc_impl_Term_impl_Term_bool : oneB PP T_Lfunc_impl_Term_impl_Term_bool = true := by kernel_rfl
@[push_cast] theorem z_Lfunc_impl_Term_impl_Term_bool : sizeB PP T_Lfunc_impl_Term_impl_Term_bool 1 = true := by kernel_rfl
@[push_cast] theorem l_Lfunc_impl_Term_impl_Term_bool : elZ PP T_Lfunc_impl_Term_impl_Term_bool 1 8 = true := by kernel_rfl
theorem u_Lfunc_impl_Term_impl_Term_bool : PP.underlying T_Lfunc_impl_Term_impl_Term_bool = some (.slice T_F_func_impl_Term_impl_Term_bool_132) := by kernel_rfl
theorem eo_Lfunc_impl_Term_impl_Term_bool : elOf PP T_Lfunc_impl_Term_impl_Term_bool = T_F_func_impl_Term_impl_Term_bool_132 := by kernel_rfl
@[push_cast] theorem s_Lfunc_impl_Term_impl_Term_bool : isSl PP T_Lfunc_impl_Term_impl_Term_bool = true := by kernel_rfl
@[push_cast] theorem e_Lfunc_impl_Term_impl_Term_bool : elB PP T_Lfunc_impl_Term_impl_Term_bool 1 = true := by kernel_rfl
@[push_cast] theorem o_F_func_impl_Term_impl_Term_bool_132 : oneB PP T_F_func_impl_Term_impl_Term_bool_132 = true := by kernel_rfl
@[push_cast] theorem z_F_func_impl_Term_impl_Term_bool_132 : sizeB PP T_F_func_impl_Term_impl_Term_bool_132 1 = true := by kernel_rfl
@[push_cast] theorem o_impl_raw : oneB PP T_impl_raw = true := by kernel_rfl
@[push_cast] theorem z_impl_raw : sizeB PP T_impl_raw 1 = true := by kernel_rfl
theorem ik_impl_raw : intB PP T_impl_raw .u64 := by unfold intB; kernel_rfl
theorem sm_impl_raw : (PP.underlying T_impl_raw).isSome = true := by kernel_rfl
@[push_cast] theorem g_A_14_func_impl_Vec_impl_Vec_impl_raw : aggB PP T_A_14_func_impl_Vec_impl_Vec_impl_raw 14 = true := by kernel_rfl
@[push_cast] theorem z_A_14_func_impl_Vec_impl_Vec_impl_raw : sizeB PP T_A_14_func_impl_Vec_impl_Vec_impl_raw 14 = true := by kernel_rfl
theorem fb_impl_Term_0 : fieldB PP T_impl_Term 0 0 = true := by kernel_rfl
@[push_cast] theorem fa_impl_Term_0 {w : World} {K : Value → World → Prop} (a : Addr) : vfaddr PP T_impl_Term (.pointer (some a)) 0 w K = K (.pointer (some (a.add 0))) w := vfaddr_eq fb_impl_Term_0 a
theorem fb_impl_Term_1 : fieldB PP T_impl_Term 1 1 = true := by kernel_rfl
@[push_cast] theorem fa_impl_Term_1 {w : World} {K : Value → World → Prop} (a : Addr) : vfaddr PP T_impl_Term (.pointer (some a)) 1 w K = K (.pointer (some (a.add 1))) w := vfaddr_eq fb_impl_Term_1 a
theorem fb_impl_Term_2 : fieldB PP T_impl_Term 2 2 = true := by kernel_rfl
@[push_cast] theorem fa_impl_Term_2 {w : World} {K : Value → World → Prop} (a : Addr) : vfaddr PP T_impl_Term (.pointer (some a)) 2 w K = K (.pointer (some (a.add 2))) w := vfaddr_eq fb_impl_Term_2 a
theorem fb_impl_Term_3 : fieldB PP T_impl_Term 3 3 = true := by kernel_rfl
@[push_cast] theorem fa_impl_Term_3 {w : World} {K : Value → World → Prop} (a : Addr) : vfaddr PP T_impl_Term (.pointer (some a)) 3 w K = K (.pointer (some (a.add 3))) w := vfaddr_eq fb_impl_Term_3 a
theorem fb_impl_Term_4 : fieldB PP T_impl_Term 4 4 = true := by kernel_rfl
@[push_cast] theorem fa_impl_Term_4 {w : World} {K : Value → World → Prop} (a : Addr) : vfaddr PP T_impl_Term (.pointer (some a)) 4 w K = K (.pointer (some (a.add 4))) w := vfaddr_eq fb_impl_Term_4 a
theorem fb_impl_Decl_0 : fieldB PP T_impl_Decl 0 0 = true := by kernel_rfl
@[push_cast] theorem fa_impl_Decl_0 {w : World} {K : Value → World → Prop} (a : Addr) : vfaddr PP T_impl_Decl (.pointer (some a)) 0 w K = K (.pointer (some (a.add 0))) w := vfaddr_eq fb_impl_Decl_0 a
theorem fb_impl_Decl_1 : fieldB PP T_impl_Decl 1 1 = true := by kernel_rfl
@[push_cast] theorem fa_impl_Decl_1 {w : World} {K : Value → World → Prop} (a : Addr) : vfaddr PP T_impl_Decl (.pointer (some a)) 1 w K = K (.pointer (some (a.add 1))) w := vfaddr_eq fb_impl_Decl_1 a
theorem fb_impl_folder_0 : fieldB PP T_impl_folder 0 0 = true := by kernel_rfl
@[push_cast] theorem fa_impl_folder_0 {w : World} {K : Value → World → Prop} (a : Addr) : vfaddr PP T_impl_folder (.pointer (some a)) 0 w K = K (.pointer (some (a.add 0))) w := vfaddr_eq fb_impl_folder_0 a
theorem fb_impl_folder_1 : fieldB PP T_impl_folder 1 1 = true := by kernel_rfl
@[push_cast] theorem fa_impl_folder_1 {w : World} {K : Value → World → Prop} (a : Addr) : vfaddr PP T_impl_folder (.pointer (some a)) 1 w K = K (.pointer (some (a.add 1))) w := vfaddr_eq fb_impl_folder_1 a
theorem fb_impl_Vec_0 : fieldB PP T_impl_Vec 0 0 = true := by kernel_rfl
@[push_cast] theorem fa_impl_Vec_0 {w : World} {K : Value → World → Prop} (a : Addr) : vfaddr PP T_impl_Vec (.pointer (some a)) 0 w K = K (.pointer (some (a.add 0))) w := vfaddr_eq fb_impl_Vec_0 a
theorem fb_impl_Vec_1 : fieldB PP T_impl_Vec 1 1 = true := by kernel_rfl
@[push_cast] theorem fa_impl_Vec_1 {w : World} {K : Value → World → Prop} (a : Addr) : vfaddr PP T_impl_Vec (.pointer (some a)) 1 w K = K (.pointer (some (a.add 1))) w := vfaddr_eq fb_impl_Vec_1 a
theorem fb_spec_l12Rd_0 : fieldB PP T_spec_l12Rd 0 0 = true := by kernel_rfl
@[push_cast] theorem fa_spec_l12Rd_0 {w : World} {K : Value → World → Prop} (a : Addr) : vfaddr PP T_spec_l12Rd (.pointer (some a)) 0 w K = K (.pointer (some (a.add 0))) w := vfaddr_eq fb_spec_l12Rd_0 a
theorem fb_spec_l12Rd_1 : fieldB PP T_spec_l12Rd 1 1 = true := by kernel_rfl
@[push_cast] theorem fa_spec_l12Rd_1 {w : World} {K : Value → World → Prop} (a : Addr) : vfaddr PP T_spec_l12Rd (.pointer (some a)) 1 w K = K (.pointer (some (a.add 1))) w := vfaddr_eq fb_spec_l12Rd_1 a
theorem fb_impl_named_1 : fieldB PP T_impl_named 1 1 = true := by kernel_rfl
@[push_cast] theorem fa_impl_named_1 {w : World} {K : Value → World → Prop} (a : Addr) : vfaddr PP T_impl_named (.pointer (some a)) 1 w K = K (.pointer (some (a.add 1))) w := vfaddr_eq fb_impl_named_1 a
theorem fb_impl_boolKind_1 : fieldB PP T_impl_boolKind 1 2 = true := by kernel_rfl
@[push_cast] theorem fa_impl_boolKind_1 {w : World} {K : Value → World → Prop} (a : Addr) : vfaddr PP T_impl_boolKind (.pointer (some a)) 1 w K = K (.pointer (some (a.add 2))) w := vfaddr_eq fb_impl_boolKind_1 a
@[push_cast] theorem vf_impl_Vec_1 {w : World} {K : Value → World → Prop} (x0 x1 : Value) : vfield PP T_impl_Vec (.agg ⟨[x0, x1]⟩) 1 w K = K x1 w := vrun_eq (by kernel_rfl)
@[push_cast] theorem vF_impl_Vec_1 {w : World} {K : Value → World → Prop} (x0 x1 : Value) : vfield PP T_impl_Vec (.agg #[x0, x1]) 1 w K = K x1 w := vf_impl_Vec_1 x0 x1
noncomputable def mn_kids : String := match PP.info? 110 with | some i => (match i.methods[0]? with | some m => m.name | none => default) | none => default
noncomputable def mn_sort : String := match PP.info? 110 with | some i => (match i.methods[1]? with | some m => m.name | none => default) | none => default
noncomputable def mn_value : String := match PP.info? 110 with | some i => (match i.methods[2]? with | some m => m.name | none => default) | none => default
theorem cb_impl_unKind : concB PP T_impl_unKind = true := by kernel_rfl
@[push_cast] theorem mi_impl_unKind {w : World} {K : Value → World → Prop} (v : Value) : vmkI PP T_impl_unKind v w K = K (.iface T_impl_unKind v) w := vmkI_eq cb_impl_unKind v
theorem me_impl_unKind_kids (x0 x1 : Value) (w : World) : (method (PP.types.size + Made.depth) T_impl_unKind (.agg ⟨[x0, x1]⟩) mn_kids).run PP w = .ok (n_impl_named_kids, .agg ⟨[x0, x1]⟩) w := by kernel_rfl
theorem me_impl_unKind_sort (x0 x1 : Value) (w : World) : (method (PP.types.size + Made.depth) T_impl_unKind (.agg ⟨[x0, x1]⟩) mn_sort).run PP w = .ok (n_impl_unKind_sort, .agg ⟨[x0, x1]⟩) w := by kernel_rfl
theorem me_impl_unKind_value (x0 x1 : Value) (w : World) : (method (PP.types.size + Made.depth) T_impl_unKind (.agg ⟨[x0, x1]⟩) mn_value).run PP w = .ok (n_impl_unKind_value, .agg ⟨[x0, x1]⟩) w := by kernel_rfl
theorem cb_impl_catKind : concB PP T_impl_catKind = true := by kernel_rfl
@[push_cast] theorem mi_impl_catKind {w : World} {K : Value → World → Prop} (v : Value) : vmkI PP T_impl_catKind v w K = K (.iface T_impl_catKind v) w := vmkI_eq cb_impl_catKind v
theorem me_impl_catKind_kids (x0 x1 : Value) (w : World) : (method (PP.types.size + Made.depth) T_impl_catKind (.agg ⟨[x0, x1]⟩) mn_kids).run PP w = .ok (n_impl_named_kids, .agg ⟨[x0, x1]⟩) w := by kernel_rfl
theorem me_impl_catKind_sort (x0 x1 : Value) (w : World) : (method (PP.types.size + Made.depth) T_impl_catKind (.agg ⟨[x0, x1]⟩) mn_sort).run PP w = .ok (n_impl_catKind_sort, .agg ⟨[x0, x1]⟩) w := by kernel_rfl
theorem me_impl_catKind_value (x0 x1 : Value) (w : World) : (method (PP.types.size + Made.depth) T_impl_catKind (.agg ⟨[x0, x1]⟩) mn_value).run PP w = .ok (n_impl_catKind_value, .agg ⟨[x0, x1]⟩) w := by kernel_rfl
theorem cb_impl_cmpKind : concB PP T_impl_cmpKind = true := by kernel_rfl
@[push_cast] theorem mi_impl_cmpKind {w : World} {K : Value → World → Prop} (v : Value) : vmkI PP T_impl_cmpKind v w K = K (.iface T_impl_cmpKind v) w := vmkI_eq cb_impl_cmpKind v
theorem me_impl_cmpKind_kids (x0 x1 : Value) (w : World) : (method (PP.types.size + Made.depth) T_impl_cmpKind (.agg ⟨[x0, x1]⟩) mn_kids).run PP w = .ok (n_impl_named_kids, .agg ⟨[x0, x1]⟩) w := by kernel_rfl
theorem me_impl_cmpKind_sort (x0 x1 : Value) (w : World) : (method (PP.types.size + Made.depth) T_impl_cmpKind (.agg ⟨[x0, x1]⟩) mn_sort).run PP w = .ok (n_impl_cmpKind_sort, .agg ⟨[x0, x1]⟩) w := by kernel_rfl
theorem me_impl_cmpKind_value (x0 x1 : Value) (w : World) : (method (PP.types.size + Made.depth) T_impl_cmpKind (.agg ⟨[x0, x1]⟩) mn_value).run PP w = .ok (n_impl_cmpKind_value, .agg ⟨[x0, x1]⟩) w := by kernel_rfl
theorem cb_impl_vecKind : concB PP T_impl_vecKind = true := by kernel_rfl
@[push_cast] theorem mi_impl_vecKind {w : World} {K : Value → World → Prop} (v : Value) : vmkI PP T_impl_vecKind v w K = K (.iface T_impl_vecKind v) w := vmkI_eq cb_impl_vecKind v
theorem me_impl_vecKind_kids (x0 x1 : Value) (w : World) : (method (PP.types.size + Made.depth) T_impl_vecKind (.agg ⟨[x0, x1]⟩) mn_kids).run PP w = .ok (n_impl_named_kids, .agg ⟨[x0, x1]⟩) w := by kernel_rfl
theorem me_impl_vecKind_sort (x0 x1 : Value) (w : World) : (method (PP.types.size + Made.depth) T_impl_vecKind (.agg ⟨[x0, x1]⟩) mn_sort).run PP w = .ok (n_impl_vecKind_sort, .agg ⟨[x0, x1]⟩) w := by kernel_rfl
theorem me_impl_vecKind_value (x0 x1 : Value) (w : World) : (method (PP.types.size + Made.depth) T_impl_vecKind (.agg ⟨[x0, x1]⟩) mn_value).run PP w = .ok (n_impl_vecKind_value, .agg ⟨[x0, x1]⟩) w := by kernel_rfl
theorem cb_impl_nameKind : concB PP T_impl_nameKind = true := by kernel_rfl
@[push_cast] theorem mi_impl_nameKind {w : World} {K : Value → World → Prop} (v : Value) : vmkI PP T_impl_nameKind v w K = K (.iface T_impl_nameKind v) w := vmkI_eq cb_impl_nameKind v
theorem me_impl_nameKind_kids (x0 x1 : Value) (w : World) : (method (PP.types.size + Made.depth) T_impl_nameKind (.agg ⟨[x0, x1]⟩) mn_kids).run PP w = .ok (n_impl_named_kids, .agg ⟨[x0, x1]⟩) w := by kernel_rfl
theorem me_impl_nameKind_sort (x0 x1 : Value) (w : World) : (method (PP.types.size + Made.depth) T_impl_nameKind (.agg ⟨[x0, x1]⟩) mn_sort).run PP w = .ok (n_impl_nameKind_sort, .agg ⟨[x0, x1]⟩) w := by kernel_rfl
theorem me_impl_nameKind_value (x0 x1 : Value) (w : World) : (method (PP.types.size + Made.depth) T_impl_nameKind (.agg ⟨[x0, x1]⟩) mn_value).run PP w = .ok (n_impl_nameKind_value, .agg ⟨[x0, x1]⟩) w := by kernel_rfl
theorem cb_impl_cutKind : concB PP T_impl_cutKind = true := by kernel_rfl
@[push_cast] theorem mi_impl_cutKind {w : World} {K : Value → World → Prop} (v : Value) : vmkI PP T_impl_cutKind v w K = K (.iface T_impl_cutKind v) w := vmkI_eq cb_impl_cutKind v
theorem me_impl_cutKind_kids (x0 x1 : Value) (w : World) : (method (PP.types.size + Made.depth) T_impl_cutKind (.agg ⟨[x0, x1]⟩) mn_kids).run PP w = .ok (n_impl_named_kids, .agg ⟨[x0, x1]⟩) w := by kernel_rfl
theorem me_impl_cutKind_sort (x0 x1 : Value) (w : World) : (method (PP.types.size + Made.depth) T_impl_cutKind (.agg ⟨[x0, x1]⟩) mn_sort).run PP w = .ok (n_impl_cutKind_sort, .agg ⟨[x0, x1]⟩) w := by kernel_rfl
theorem me_impl_cutKind_value (x0 x1 : Value) (w : World) : (method (PP.types.size + Made.depth) T_impl_cutKind (.agg ⟨[x0, x1]⟩) mn_value).run PP w = .ok (n_impl_cutKind_value, .agg ⟨[x0, x1]⟩) w := by kernel_rfl
theorem cb_impl_ifKind : concB PP T_impl_ifKind = true := by kernel_rfl
@[push_cast] theorem mi_impl_ifKind {w : World} {K : Value → World → Prop} (v : Value) : vmkI PP T_impl_ifKind v w K = K (.iface T_impl_ifKind v) w := vmkI_eq cb_impl_ifKind v
theorem me_impl_ifKind_kids (x0 x1 : Value) (w : World) : (method (PP.types.size + Made.depth) T_impl_ifKind (.agg ⟨[x0, x1]⟩) mn_kids).run PP w = .ok (n_impl_named_kids, .agg ⟨[x0, x1]⟩) w := by kernel_rfl
theorem me_impl_ifKind_sort (x0 x1 : Value) (w : World) : (method (PP.types.size + Made.depth) T_impl_ifKind (.agg ⟨[x0, x1]⟩) mn_sort).run PP w = .ok (n_impl_ifKind_sort, .agg ⟨[x0, x1]⟩) w := by kernel_rfl
theorem me_impl_ifKind_value (x0 x1 : Value) (w : World) : (method (PP.types.size + Made.depth) T_impl_ifKind (.agg ⟨[x0, x1]⟩) mn_value).run PP w = .ok (n_impl_ifKind_value, .agg ⟨[x0, x1]⟩) w := by kernel_rfl
theorem cb_impl_boolKind : concB PP T_impl_boolKind = true := by kernel_rfl
@[push_cast] theorem mi_impl_boolKind {w : World} {K : Value → World → Prop} (v : Value) : vmkI PP T_impl_boolKind v w K = K (.iface T_impl_boolKind v) w := vmkI_eq cb_impl_boolKind v
theorem me_impl_boolKind_kids (x0 x1 x2 : Value) (w : World) : (method (PP.types.size + Made.depth) T_impl_boolKind (.agg ⟨[x0, x1, x2]⟩) mn_kids).run PP w = .ok (n_impl_named_kids, .agg ⟨[x0, x1]⟩) w := by kernel_rfl
theorem me_impl_boolKind_sort (x0 x1 x2 : Value) (w : World) : (method (PP.types.size + Made.depth) T_impl_boolKind (.agg ⟨[x0, x1, x2]⟩) mn_sort).run PP w = .ok (n_impl_boolKind_sort, .agg ⟨[x0, x1, x2]⟩) w := by kernel_rfl
theorem me_impl_boolKind_value (x0 x1 x2 : Value) (w : World) : (method (PP.types.size + Made.depth) T_impl_boolKind (.agg ⟨[x0, x1, x2]⟩) mn_value).run PP w = .ok (n_impl_boolKind_value, .agg ⟨[x0, x1, x2]⟩) w := by kernel_rfl
theorem cb_impl_binKind : concB PP T_impl_binKind = true := by kernel_rfl
@[push_cast] theorem mi_impl_binKind {w : World} {K : Value → World → Prop} (v : Value) : vmkI PP T_impl_binKind v w K = K (.iface T_impl_binKind v) w := vmkI_eq cb_impl_binKind v
theorem me_impl_binKind_kids (x0 x1 : Value) (w : World) : (method (PP.types.size + Made.depth) T_impl_binKind (.agg ⟨[x0, x1]⟩) mn_kids).run PP w = .ok (n_impl_named_kids, .agg ⟨[x0, x1]⟩) w := by kernel_rfl
theorem me_impl_binKind_sort (x0 x1 : Value) (w : World) : (method (PP.types.size + Made.depth) T_impl_binKind (.agg ⟨[x0, x1]⟩) mn_sort).run PP w = .ok (n_impl_binKind_sort, .agg ⟨[x0, x1]⟩) w := by kernel_rfl
theorem me_impl_binKind_value (x0 x1 : Value) (w : World) : (method (PP.types.size + Made.depth) T_impl_binKind (.agg ⟨[x0, x1]⟩) mn_value).run PP w = .ok (n_impl_binKind_value, .agg ⟨[x0, x1]⟩) w := by kernel_rfl
end Go.Proofs.YtcfgmgjofmbfhaaGreatDoor
end
section
namespace Go.Proofs.YtcfgmgjofmbfhaaGreatDoor
open Go Go.Vc Go.Proofs
def F_laws_FnEnvMore (P : Program) (v0 v1 : Value) (w : World) (R : Value → World → Prop) : Prop :=
 vjoin (fun J =>
 vbi P .len [T_Luint8] T_int [v0] w fun t17 w_2 =>
 vbin P .gtr T_int true t17 (.int .i64 1048576) w_2 fun t18 w_3 =>
 vif t18 (
 R (.bool true) w_3) (
 vbi P .len [T_Luint8] T_int [v1] w_3 fun t21 w_4 =>
 vbin P .gtr T_int true t21 (.int .i64 1048576) w_4 fun t22 w_5 =>
 vif t22 (
 R (.bool true) w_5) (
 J [] w_5))) (fun _ _ w_1 =>
 vcall P n_spec_DrawTermFold #[v0] w_1 fun t26 w_6 =>
 vextract P t26 0 w_6 fun t27 w_7 =>
 vextract P t26 1 w_7 fun t28 w_8 =>
 valloc P T_impl_Term w_8 fun t6 w_9 =>
 vstore P T_impl_Term t6 t28 w_9 fun _ w_10 =>
 vload P T_impl_Term t6 w_10 fun t30 w_11 =>
 vcall P n_impl_TermFold #[t27, t30] w_11 fun t31 w_12 =>
 valloc P T_impl_Term w_12 fun t7 w_13 =>
 vstore P T_impl_Term t7 t31 w_13 fun _ w_14 =>
 vjoin (fun J_1 =>
 vdraw w_14 fun w_16 =>
 vload P T_impl_Term t7 w_16 fun t32 w_17 => w_17 = w_16 ∧
 vload P T_impl_Term t6 w_16 fun t34 w_18 => w_18 = w_16 ∧
 vcall P n_spec_TermFold #[t27, t34] w_16 fun t35 w_19 => (vload P T_impl_Term t7 w_19 fun v x => v = t32 ∧ x = w_19) ∧
 vcall P n_impl_TermSame #[t32, t35] w_19 fun t36 w_20 =>
 vun P .not t36 w_20 fun t37 w_21 => w_21 = w_20 ∧
 vif t37 (
 vdraw w_20 fun w_22 =>
 vload P T_impl_Term t7 w_22 fun t44 w_23 => w_23 = w_22 ∧
 vload P T_impl_Term t6 w_22 fun t46 w_24 => w_24 = w_22 ∧
 vcall P n_spec_TermFold #[t27, t46] w_22 fun t47 w_25 => (vload P T_impl_Term t7 w_25 fun v x => v = t44 ∧ x = w_25) ∧
 vcall P n_impl_TermSame #[t44, t47] w_25 fun t48 w_26 =>
 R t48 w_26) (
 vload P T_impl_Term t6 w_20 fun t40 w_27 => w_27 = w_20 ∧
 vcall P n_spec_TermSort #[t27, t40] w_20 fun t41 w_28 =>
 vbin P .lss T_int true t41 (.int .i64 0) w_28 fun t42 w_29 => w_29 = w_28 ∧
 vif t42 (
 vdraw w_28 fun w_30 =>
 vload P T_impl_Term t7 w_30 fun t44_1 w_31 => w_31 = w_30 ∧
 vload P T_impl_Term t6 w_30 fun t46_1 w_32 => w_32 = w_30 ∧
 vcall P n_spec_TermFold #[t27, t46_1] w_30 fun t47_1 w_33 => (vload P T_impl_Term t7 w_33 fun v x => v = t44_1 ∧ x = w_33) ∧
 vcall P n_impl_TermSame #[t44_1, t47_1] w_33 fun t48_1 w_34 =>
 R t48_1 w_34) (
 J_1 [] w_28))) (fun _ _ w_15 =>
 vbuildS P T_Limpl_Decl 0 [] w_15 fun t49 w_35 =>
 vbi P .append [T_Limpl_Decl, T_Limpl_Decl] T_Limpl_Decl [t49, t27] w_35 fun t51 w_36 =>
 vbuild P T_impl_Decl [(0, (.string { data := #[109, 111, 114, 101] })), (1, (.int .i64 1))] w_36 fun t52 w_37 =>
 vbuildS P T_Limpl_Decl 1 [(0, t52)] w_37 fun t53 w_38 =>
 vbi P .append [T_Limpl_Decl, T_Limpl_Decl] T_Limpl_Decl [t51, t53] w_38 fun t54 w_39 =>
 vcall P n_impl_DeclOk #[t54] w_39 fun t56 w_40 =>
 vun P .not t56 w_40 fun t57 w_41 =>
 vif t57 (
 vcall P n_impl_EnvMany #[t54] w_41 fun t59 w_42 =>
 vbin P .eql T_int true t59 (.int .i64 0) w_42 fun t60 w_43 =>
 R t60 w_43) (
 vbi P .len [T_Luint8] T_int [v1] w_41 fun t62 w_44 =>
 vcall P n_impl_EnvMany #[t27] w_44 fun t64 w_45 =>
 vbin P .rem T_int false t62 t64 w_45 fun t65 w_46 =>
 vcall P n_impl_EnvAll #[t27, t65] w_46 fun t69 w_47 =>
 vextract P t69 0 w_47 fun t70 w_48 =>
 vextract P t69 1 w_48 fun _ w_49 =>
 vload P T_impl_Term t6 w_49 fun t74 w_50 =>
 vcall P n_impl_TermEval #[t27, t74, t70] w_50 fun t76 w_51 =>
 vextract P t76 0 w_51 fun t77 w_52 =>
 vextract P t76 1 w_52 fun t78 w_53 =>
 vjoin (fun J_2 =>
 vdraw w_53 fun w_55 =>
 vload P T_impl_Term t6 w_55 fun t81 w_56 => w_56 = w_55 ∧
 vbi P .len [T_Luint8] T_int [v1] w_55 fun t86 w_57 => w_57 = w_55 ∧
 vbin P .rem T_int true t86 (.int .i64 2) w_55 fun t87 w_58 => w_58 = w_55 ∧
 (vbuildS P T_Lint 0 [] w_55 fun t82 w_59 => (vbin P .rem T_int true t86 (.int .i64 2) w_59 fun v x => v = t87 ∧ x = w_59) ∧ (vbi P .len [T_Luint8] T_int [v1] w_59 fun v x => v = t86 ∧ x = w_59) ∧ (vload P T_impl_Term t6 w_59 fun v x => v = t81 ∧ x = w_59) ∧
 (vbi P .append [T_Lint, T_Lint] T_Lint [t82, t70] w_59 fun t84 w_60 => (vbin P .rem T_int true t86 (.int .i64 2) w_60 fun v x => v = t87 ∧ x = w_60) ∧ (vbi P .len [T_Luint8] T_int [v1] w_60 fun v x => v = t86 ∧ x = w_60) ∧ (vload P T_impl_Term t6 w_60 fun v x => v = t81 ∧ x = w_60) ∧
 (vbuildS P T_Lint 1 [(0, t87)] w_60 fun t88 w_61 => (vload P T_impl_Term t6 w_61 fun v x => v = t81 ∧ x = w_61) ∧
 (vbi P .append [T_Lint, T_Lint] T_Lint [t84, t88] w_61 fun t89 w_62 => (vload P T_impl_Term t6 w_62 fun v x => v = t81 ∧ x = w_62) ∧
 (vcall P n_impl_TermEval #[t54, t81, t89] w_62 fun t90 w_63 =>
 vextract P t90 0 w_63 fun t91 w_64 => w_64 = w_63 ∧
 vextract P t90 1 w_63 fun t92 w_65 => w_65 = w_63 ∧
 J_2 [t91, t92] w_63) ∧
 True) ∧
 True) ∧
 True) ∧
 (vbuildS P T_Lint 1 [(0, t87)] w_59 fun t88_1 w_66 => (vload P T_impl_Term t6 w_66 fun v x => v = t81 ∧ x = w_66) ∧
 (vbi P .append [T_Lint, T_Lint] T_Lint [t82, t70] w_66 fun t84_1 w_67 => (vload P T_impl_Term t6 w_67 fun v x => v = t81 ∧ x = w_67) ∧
 (vbi P .append [T_Lint, T_Lint] T_Lint [t84_1, t88_1] w_67 fun t89_1 w_68 => (vload P T_impl_Term t6 w_68 fun v x => v = t81 ∧ x = w_68) ∧
 (vcall P n_impl_TermEval #[t54, t81, t89_1] w_68 fun t90_1 w_69 =>
 vextract P t90_1 0 w_69 fun t91_1 w_70 => w_70 = w_69 ∧
 vextract P t90_1 1 w_69 fun t92_1 w_71 => w_71 = w_69 ∧
 J_2 [t91_1, t92_1] w_69) ∧
 True) ∧
 True) ∧
 True) ∧
 True) ∧
 (vbuildS P T_Lint 1 [(0, t87)] w_55 fun t88_2 w_72 => (vload P T_impl_Term t6 w_72 fun v x => v = t81 ∧ x = w_72) ∧
 (vbuildS P T_Lint 0 [] w_72 fun t82_1 w_73 => (vload P T_impl_Term t6 w_73 fun v x => v = t81 ∧ x = w_73) ∧
 (vbi P .append [T_Lint, T_Lint] T_Lint [t82_1, t70] w_73 fun t84_2 w_74 => (vload P T_impl_Term t6 w_74 fun v x => v = t81 ∧ x = w_74) ∧
 (vbi P .append [T_Lint, T_Lint] T_Lint [t84_2, t88_2] w_74 fun t89_2 w_75 => (vload P T_impl_Term t6 w_75 fun v x => v = t81 ∧ x = w_75) ∧
 (vcall P n_impl_TermEval #[t54, t81, t89_2] w_75 fun t90_2 w_76 =>
 vextract P t90_2 0 w_76 fun t91_2 w_77 => w_77 = w_76 ∧
 vextract P t90_2 1 w_76 fun t92_2 w_78 => w_78 = w_76 ∧
 J_2 [t91_2, t92_2] w_76) ∧
 True) ∧
 True) ∧
 True) ∧
 True) ∧
 True) (fun u_2 _ w_54 =>
 vdraw w_54 fun w_79 =>
 vcall P n_impl_EnvMany #[t54] w_79 fun t94 w_80 =>
 vcall P n_impl_EnvMany #[t27] w_80 fun t96 w_81 =>
 vbin P .mul T_int true (.int .i64 2) t96 w_81 fun t97 w_82 => w_82 = w_81 ∧
 vbin P .eql T_int false t94 t97 w_81 fun t98 w_83 => w_83 = w_81 ∧
 vif t98 (
 vif t78 (
 vif (sl 1 u_2) (
 vbin P .eql T_int false t77 (sl 0 u_2) w_81 fun t108 w_84 => w_84 = w_81 ∧
 vif t108 (
 vload P T_impl_Term t6 w_81 fun t112 w_85 => w_85 = w_81 ∧
 vload P T_impl_Term t7 w_81 fun t114 w_86 => w_86 = w_81 ∧
 vcall P n_impl_TermFold #[t54, t112] w_81 fun t113 w_87 => (vload P T_impl_Term t7 w_87 fun v x => v = t114 ∧ x = w_87) ∧
 vcall P n_impl_TermSame #[t113, t114] w_87 fun t115 w_88 =>
 R t115 w_88) (
 R (.bool false) w_81)) (
 R (.bool false) w_81)) (
 R (.bool false) w_81)) (
 R (.bool false) w_81)))))
def A_laws_FnEnvMore : Ann := { ord := [(5, [0, 1, 2, 3, 4, 5, 6, 7, 8, 9, 10, 11], [(0, [4, 5, 6, 7, 8, 9, 10, 11]), (1, [3, 4, 5, 6, 7, 8, 9, 10, 11]), (2, [3, 4, 5, 6, 7, 8, 9, 10, 11]), (3, [4, 5, 6, 7, 8, 9, 10, 11]), (4, [5, 6, 7, 8, 9, 10, 11]), (5, [6, 7, 8, 9, 10, 11]), (6, [7, 8, 9, 10, 11]), (7, [9, 10, 11]), (8, [9, 10, 11]), (9, [10, 11]), (10, [11])]), (6, [0, 1, 2, 3, 4, 5], [(0, [4, 5]), (1, [3, 4, 5]), (2, [3, 4, 5]), (3, [4, 5]), (4, [5])]), (14, [0, 2, 1, 3, 4, 5, 6, 7, 8, 9, 10, 11, 12, 13, 14, 15, 16, 17, 18, 19, 21, 20, 22, 23, 24], [(0, [1, 3, 4, 5, 6, 7, 8, 9, 10, 11, 12, 13, 14, 15, 16, 17, 18, 19, 21, 20, 22, 23, 24]), (2, [3, 4, 5, 6, 7, 8, 9, 10, 11, 12, 13, 14, 15, 16, 17, 18, 19, 21, 20, 22, 23, 24]), (1, [3, 4, 5, 6, 7, 8, 9, 10, 11, 12, 13, 14, 15, 16, 17, 18, 19, 21, 20, 22, 23, 24]), (3, [4, 5, 6, 7, 8, 9, 10, 11, 12, 13, 14, 15, 16, 17, 18, 19, 21, 20, 22, 23, 24]), (4, [5, 6, 7, 8, 9, 10, 11, 12, 13, 14, 15, 16, 17, 18, 19, 21, 20, 22, 23, 24]), (5, [6, 7, 8, 9, 10, 11, 12, 13, 14, 15, 16, 17, 18, 19, 21, 20, 22, 23, 24]), (6, [7, 8, 9, 10, 11, 12, 13, 14, 15, 16, 17, 18, 19, 21, 20, 22, 23, 24]), (7, [8, 9, 10, 11, 12, 13, 14, 15, 16, 17, 18, 19, 21, 20, 22, 23, 24]), (8, [9, 10, 11, 12, 13, 14, 15, 16, 17, 18, 19, 21, 20, 22, 23, 24]), (9, [10, 11, 12, 13, 14, 15, 16, 17, 18, 19, 21, 20, 22, 23, 24]), (10, [11, 12, 13, 14, 15, 16, 17, 18, 19, 21, 20, 22, 23, 24]), (11, [12, 13, 14, 15, 16, 17, 18, 19, 21, 20, 22, 23, 24]), (12, [13, 14, 15, 16, 17, 18, 19, 21, 20, 22, 23, 24]), (13, [15, 16, 17, 18, 19, 21, 20, 22, 23, 24]), (14, [15, 16, 17, 18, 19, 21, 20, 22, 23, 24]), (15, [16, 17, 18, 19, 21, 20, 22, 23, 24]), (16, [17, 18, 19, 21, 20, 22, 23, 24]), (17, [18, 19, 21, 20, 22, 23, 24]), (18, [20, 22, 23, 24]), (19, [20, 22, 23, 24]), (21, [22, 23, 24]), (20, [22, 23, 24]), (22, [23, 24]), (23, [24])])], loops := [], cuts := [(8195, []), (24583, []), (57358, [14, 15])], trees := [(13, (.st 0 (.st 1 (.st 3 (.st 5 (.st 6 (.st 7 (.alt 2 (.alt 4 (.alt 8 (.alt 9 (.alt 10 (.st 11 (.st 12 (.st 13 (.st 14 (.st 15 .nil))))) .no) .no) .no) (.alt 8 (.alt 4 (.alt 9 (.alt 10 (.st 11 (.st 12 (.st 13 (.st 14 (.st 15 .nil))))) .no) .no) .no) .no)) (.alt 8 (.alt 2 (.alt 4 (.alt 9 (.alt 10 (.st 11 (.st 12 (.st 13 (.st 14 (.st 15 .nil))))) .no) .no) .no) .no) .no)))))))), [(0, [10, 11, 12, 13, 14, 15]), (1, [10, 11, 12, 13, 14, 15]), (2, [4, 9, 10, 11, 12, 13, 14, 15]), (3, [4, 9, 10, 11, 12, 13, 14, 15]), (4, [9, 10, 11, 12, 13, 14, 15]), (5, [6, 7, 8, 9, 10, 11, 12, 13, 14, 15]), (6, [7, 8, 9, 10, 11, 12, 13, 14, 15]), (7, [8, 9, 10, 11, 12, 13, 14, 15]), (8, [9, 10, 11, 12, 13, 14, 15]), (9, [10, 11, 12, 13, 14, 15]), (10, [11, 12, 13, 14, 15]), (11, [12, 13, 14, 15]), (12, [14, 15]), (13, [15]), (14, [15])])] }
theorem k_laws_FnEnvMore (v0 v1 : Value) (w : World) (R : Value → World → Prop) : vc PP A_laws_FnEnvMore ((Tryz.f7.body).getD .skip) (retF PP Tryz.f7.results.toList R) (nthV [v0, v1]) w = F_laws_FnEnvMore PP v0 v1 w R := by kernel_rfl
theorem c_laws_FnEnvMore {v0 v1 : Value} {w : World} {R : Value → World → Prop} (h : F_laws_FnEnvMore PP v0 v1 w R) : vcall PP n_laws_FnEnvMore #[v0, v1] w R :=
  call_of_vc (T := A_laws_FnEnvMore) (c := (Tryz.f7.body).getD .skip) (n := 117) mixed Tryz.func7 rfl rfl (by kernel_rfl) (by kernel_rfl) rfl (by rw [k_laws_FnEnvMore]; exact h)
def F_spec_DrawTermFold (P : Program) (v0 : Value) (w : World) (R : Value → World → Prop) : Prop :=
 valloc P T_impl_Term w fun t3 w_1 =>
 vcall P n_spec_l12Open #[v0] w_1 fun t5 w_2 =>
 vcall P n_spec_l3Draw #[t5] w_2 fun t6 w_3 =>
 vextract P t6 0 w_3 fun t7 w_4 =>
 vextract P t6 1 w_4 fun t8 w_5 =>
 vstore P T_impl_Term t3 t8 w_5 fun _ w_6 =>
 vlv P T_impl_Term t3 w_6 fun r3 w_7 =>
 R (.tuple #[t7, r3]) w_7
def A_spec_DrawTermFold : Ann := { ord := [], loops := [], cuts := [] }
theorem k_spec_DrawTermFold (v0 : Value) (w : World) (R : Value → World → Prop) : vc PP A_spec_DrawTermFold ((Tryz.f11.body).getD .skip) (retF PP Tryz.f11.results.toList R) (nthV [v0]) w = F_spec_DrawTermFold PP v0 w R := by kernel_rfl
theorem c_spec_DrawTermFold {v0 : Value} {w : World} {R : Value → World → Prop} (h : F_spec_DrawTermFold PP v0 w R) : vcall PP n_spec_DrawTermFold #[v0] w R :=
  call_of_vc (T := A_spec_DrawTermFold) (c := (Tryz.f11.body).getD .skip) (n := 9) mixed Tryz.func11 rfl rfl (by kernel_rfl) (by kernel_rfl) rfl (by rw [k_spec_DrawTermFold]; exact h)
def F_impl_TermFold (P : Program) (v0 v1 : Value) (w : World) (R : Value → World → Prop) : Prop :=
 vbox P T_impl_Term v1 w fun t3 w_1 =>
 valloc P T_impl_Term w_1 fun t4 w_2 =>
 vload P T_impl_Term t3 w_2 fun t6 w_3 =>
 vcall P n_impl_TermSort #[v0, t6] w_3 fun t7 w_4 =>
 vbin P .eql T_int true t7 (.int .i64 (-1)) w_4 fun t8 w_5 =>
 vif t8 (
 vbuild P T_impl_Term [] w_5 fun t9 w_6 =>
 vstore P T_impl_Term t4 t9 w_6 fun _ w_7 =>
 vlv P T_impl_Term t4 w_7 fun r4 w_8 =>
 R r4 w_8) (
 vdraw w_5 fun w_9 =>
 vload P T_impl_Term t3 w_9 fun t13 w_10 => w_10 = w_9 ∧
 vcall P n_impl_kinds #[] w_9 fun t11 w_11 => (vload P T_impl_Term t3 w_11 fun v x => v = t13 ∧ x = w_11) ∧
 vbuild P T_impl_folder [(0, v0), (1, t11)] w_11 fun t12 w_12 => w_12 = w_11 ∧
 vcall P n_impl_folder_fold #[t12, t13] w_11 fun t14 w_13 =>
 vcall P n_impl_copyTerm #[t14] w_13 fun t15 w_14 =>
 vstore P T_impl_Term t4 t15 w_14 fun _ w_15 =>
 vlv P T_impl_Term t4 w_15 fun r4_1 w_16 =>
 R r4_1 w_16)
def A_impl_TermFold : Ann := { ord := [(3, [0, 3, 1, 2, 4, 5, 6], [(0, [2, 4, 5, 6]), (3, [4, 5, 6]), (1, [2, 4, 5, 6]), (2, [4, 5, 6]), (4, [5, 6]), (5, [6])])], loops := [], cuts := [] }
theorem k_impl_TermFold (v0 v1 : Value) (w : World) (R : Value → World → Prop) : vc PP A_impl_TermFold ((Tryz.f12.body).getD .skip) (retF PP Tryz.f12.results.toList R) (nthV [v0, v1]) w = F_impl_TermFold PP v0 v1 w R := by kernel_rfl
theorem c_impl_TermFold {v0 v1 : Value} {w : World} {R : Value → World → Prop} (h : F_impl_TermFold PP v0 v1 w R) : vcall PP n_impl_TermFold #[v0, v1] w R :=
  call_of_vc (T := A_impl_TermFold) (c := (Tryz.f12.body).getD .skip) (n := 16) mixed Tryz.func12 rfl rfl (by kernel_rfl) (by kernel_rfl) rfl (by rw [k_impl_TermFold]; exact h)
def F_impl_TermSame (P : Program) (v0 v1 : Value) (w : World) (R : Value → World → Prop) : Prop :=
 vbox P T_impl_Term v0 w fun t2 w_1 =>
 vbox P T_impl_Term v1 w_1 fun t3 w_2 =>
 vfaddr P T_impl_Term t2 0 w_2 fun t5 w_3 =>
 vload P T_int t5 w_3 fun t6 w_4 =>
 vfaddr P T_impl_Term t3 0 w_4 fun t7 w_5 =>
 vload P T_int t7 w_5 fun t8 w_6 =>
 vbin P .eql T_int false t6 t8 w_6 fun t9 w_7 =>
 vif t9 (
 vfaddr P T_impl_Term t2 1 w_7 fun t11 w_8 =>
 vload P T_int t11 w_8 fun t12 w_9 =>
 vfaddr P T_impl_Term t3 1 w_9 fun t13 w_10 =>
 vload P T_int t13 w_10 fun t14 w_11 =>
 vbin P .eql T_int false t12 t14 w_11 fun t15 w_12 =>
 vif t15 (
 vfaddr P T_impl_Term t2 2 w_12 fun t18 w_13 =>
 vload P T_int t18 w_13 fun t19 w_14 =>
 vfaddr P T_impl_Term t3 2 w_14 fun t20 w_15 =>
 vload P T_int t20 w_15 fun t21 w_16 =>
 vbin P .eql T_int false t19 t21 w_16 fun t22 w_17 =>
 vif t22 (
 vfaddr P T_impl_Term t2 3 w_17 fun t25 w_18 =>
 vload P T_string t25 w_18 fun t26 w_19 =>
 vfaddr P T_impl_Term t3 3 w_19 fun t27 w_20 =>
 vload P T_string t27 w_20 fun t28 w_21 =>
 vbin P .eql T_string false t26 t28 w_21 fun t29 w_22 =>
 vif t29 (
 vfaddr P T_impl_Term t2 4 w_22 fun t32 w_23 =>
 vload P T_Limpl_Term t32 w_23 fun t33 w_24 =>
 vfaddr P T_impl_Term t3 4 w_24 fun t34 w_25 =>
 vload P T_Limpl_Term t34 w_25 fun t35 w_26 =>
 vcall P n_slices_EqualFunc_Limpl_Term_Limpl_Term_impl_Term_impl_Term #[t33, t35, (.func (.func n_impl_TermSame) #[] #[])] w_26 fun t36 w_27 =>
 R t36 w_27) (
 R (.bool false) w_22)) (
 R (.bool false) w_17)) (
 R (.bool false) w_12)) (
 R (.bool false) w_7)
def A_impl_TermSame : Ann := { ord := [], loops := [], cuts := [] }
theorem k_impl_TermSame (v0 v1 : Value) (w : World) (R : Value → World → Prop) : vc PP A_impl_TermSame ((Tryz.f13.body).getD .skip) (retF PP Tryz.f13.results.toList R) (nthV [v0, v1]) w = F_impl_TermSame PP v0 v1 w R := by kernel_rfl
theorem c_impl_TermSame {v0 v1 : Value} {w : World} {R : Value → World → Prop} (h : F_impl_TermSame PP v0 v1 w R) : vcall PP n_impl_TermSame #[v0, v1] w R :=
  call_of_vc (T := A_impl_TermSame) (c := (Tryz.f13.body).getD .skip) (n := 38) mixed Tryz.func13 rfl rfl (by kernel_rfl) (by kernel_rfl) rfl (by rw [k_impl_TermSame]; exact h)
def F_spec_TermFold (P : Program) (v0 v1 : Value) (w : World) (R : Value → World → Prop) : Prop :=
 vbox P T_impl_Term v1 w fun t3 w_1 =>
 valloc P T_impl_Term w_1 fun t4 w_2 =>
 vload P T_impl_Term t3 w_2 fun t6 w_3 =>
 vcall P n_spec_TermSort #[v0, t6] w_3 fun t7 w_4 =>
 vbin P .lss T_int true t7 (.int .i64 0) w_4 fun t8 w_5 =>
 vif t8 (
 vbuild P T_impl_Term [] w_5 fun t9 w_6 =>
 vstore P T_impl_Term t4 t9 w_6 fun _ w_7 =>
 vlv P T_impl_Term t4 w_7 fun r4 w_8 =>
 R r4 w_8) (
 vload P T_impl_Term t3 w_5 fun t11 w_9 =>
 vcall P n_spec_l3Fold #[v0, t11] w_9 fun t12 w_10 =>
 vcall P n_spec_l3Copy #[t12] w_10 fun t13 w_11 =>
 vstore P T_impl_Term t4 t13 w_11 fun _ w_12 =>
 vlv P T_impl_Term t4 w_12 fun r4_1 w_13 =>
 R r4_1 w_13)
def A_spec_TermFold : Ann := { ord := [], loops := [], cuts := [] }
theorem k_spec_TermFold (v0 v1 : Value) (w : World) (R : Value → World → Prop) : vc PP A_spec_TermFold ((Tryz.f14.body).getD .skip) (retF PP Tryz.f14.results.toList R) (nthV [v0, v1]) w = F_spec_TermFold PP v0 v1 w R := by kernel_rfl
theorem c_spec_TermFold {v0 v1 : Value} {w : World} {R : Value → World → Prop} (h : F_spec_TermFold PP v0 v1 w R) : vcall PP n_spec_TermFold #[v0, v1] w R :=
  call_of_vc (T := A_spec_TermFold) (c := (Tryz.f14.body).getD .skip) (n := 14) mixed Tryz.func14 rfl rfl (by kernel_rfl) (by kernel_rfl) rfl (by rw [k_spec_TermFold]; exact h)
def F_spec_TermSort (P : Program) (v0 v1 : Value) (w : World) (R : Value → World → Prop) : Prop :=
 vbox P T_impl_Term v1 w fun t3 w_1 =>
 vload P T_impl_Term t3 w_1 fun t8 w_2 =>
 vcall P n_spec_TermMany #[t8] w_2 fun t9 w_3 =>
 vextract P t9 0 w_3 fun t10 w_4 =>
 vextract P t9 1 w_4 fun t11 w_5 =>
 vcall P n_spec_DeclOk #[v0] w_5 fun t13 w_6 =>
 vun P .not t13 w_6 fun t14 w_7 =>
 vif t14 (
 R (.int .i64 (-1)) w_7) (
 vbin P .gtr T_int true t10 (.int .i64 20) w_7 fun t17 w_8 =>
 vif t17 (
 R (.int .i64 (-1)) w_8) (
 vbin P .gtr T_int true t11 (.int .i64 7) w_8 fun t21 w_9 =>
 vif t21 (
 R (.int .i64 (-1)) w_9) (
 vload P T_impl_Term t3 w_9 fun t24 w_10 =>
 vcall P n_spec_l2Sort #[v0, t24] w_10 fun t25 w_11 =>
 R t25 w_11)))
def A_spec_TermSort : Ann := { ord := [], loops := [], cuts := [] }
theorem k_spec_TermSort (v0 v1 : Value) (w : World) (R : Value → World → Prop) : vc PP A_spec_TermSort ((Tryz.f15.body).getD .skip) (retF PP Tryz.f15.results.toList R) (nthV [v0, v1]) w = F_spec_TermSort PP v0 v1 w R := by kernel_rfl
theorem c_spec_TermSort {v0 v1 : Value} {w : World} {R : Value → World → Prop} (h : F_spec_TermSort PP v0 v1 w R) : vcall PP n_spec_TermSort #[v0, v1] w R :=
  call_of_vc (T := A_spec_TermSort) (c := (Tryz.f15.body).getD .skip) (n := 26) mixed Tryz.func15 rfl rfl (by kernel_rfl) (by kernel_rfl) rfl (by rw [k_spec_TermSort]; exact h)
end Go.Proofs.YtcfgmgjofmbfhaaGreatDoor
end
