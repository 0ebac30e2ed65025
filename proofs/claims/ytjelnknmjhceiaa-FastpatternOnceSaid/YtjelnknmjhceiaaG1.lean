/-
  Printed by wip/tool/gen2.py: verification conditions, and the proof that each suffices.
-/
import Derived.Test.YtjelnknmjhceiaaProg
import Derived.Test.YtjelnknmjhceiaaVcTree
namespace Go.Proofs.Ytjelnknmjhceiaa
set_option linter.unusedSimpArgs false
set_option linter.unusedVariables false
set_option maxRecDepth 20000
open Go IntKind
abbrev fn_main_main : FuncId := 0
abbrev fn_gosem_cut : FuncId := 1
abbrev fn_gosem_cut_init : FuncId := 2
abbrev fn_law46_FastpatternScores : FuncId := 3
abbrev fn_law46_FastpatternChooses : FuncId := 4
abbrev fn_law46_FastpatternGroups : FuncId := 5
abbrev fn_law46_FastpatternOnce : FuncId := 6
abbrev fn_law46_FastpatternBest : FuncId := 7
abbrev fn_law46_FastpatternNecessary : FuncId := 8
abbrev fn_law46_lives : FuncId := 9
abbrev fn_fastpattern_Score : FuncId := 10
abbrev fn_ref46_Score : FuncId := 11
abbrev fn_ref43_Short : FuncId := 12
abbrev fn_fastpattern_Pattern : FuncId := 13
abbrev fn_ref46_Pattern : FuncId := 14
abbrev fn_fastpattern_Choose : FuncId := 15
abbrev fn_ref46_Choose : FuncId := 16
abbrev fn_law46_short : FuncId := 17
abbrev fn_ref46_Same : FuncId := 18
abbrev fn_fastpattern_Groups : FuncId := 19
abbrev fn_ref46_Groups : FuncId := 20
abbrev fn_ref43_Check : FuncId := 21
abbrev fn_content_Match : FuncId := 22
abbrev fn_automaton_Plain : FuncId := 23
abbrev fn_fastpattern_common : FuncId := 24
abbrev fn_ref46_common : FuncId := 25
abbrev fn_strings_Clone : FuncId := 26
abbrev fn_fastpattern_small : FuncId := 27
abbrev fn_ref46_Small : FuncId := 28
abbrev fn_ref46_counts : FuncId := 29
abbrev fn_ref46_ints : FuncId := 30
abbrev fn_fastpattern_place_api_Group : FuncId := 31
abbrev fn_fastpattern_Groups_1 : FuncId := 32
abbrev fn_slices_Equal_int_int : FuncId := 33
abbrev fn_slices_Clone_int_int : FuncId := 34
abbrev fn_fastpattern_place_api_Pattern : FuncId := 35
abbrev fn_fastpattern_Groups_2 : FuncId := 36
abbrev fn_ref46_place : FuncId := 37
abbrev fn_ref46_add : FuncId := 38
abbrev fn_ref43_basic : FuncId := 39
abbrev fn_ref43_typed : FuncId := 40
abbrev fn_ref43_sizes : FuncId := 41
abbrev fn_ref43_addrNames : FuncId := 42
abbrev fn_ref43_portNames : FuncId := 43
abbrev fn_ref43_flowNames : FuncId := 44
abbrev fn_ref43_contents : FuncId := 45
abbrev fn_ref43_tests : FuncId := 46
abbrev fn_ref43_numbers : FuncId := 47
abbrev fn_ref43_prefixes : FuncId := 48
abbrev fn_ref43_fast : FuncId := 49
abbrev fn_content_search_from : FuncId := 50
abbrev fn_automaton_lower : FuncId := 51
abbrev fn_strings_HasSuffix : FuncId := 52
abbrev fn_internal_stringslite_Clone : FuncId := 53
abbrev fn_ref04_IsName : FuncId := 54
abbrev fn_ref43_offset : FuncId := 55
abbrev fn_ref43_ports : FuncId := 56
abbrev fn_ref43_Threshold : FuncId := 57
abbrev fn_ref06_ValidPrefix : FuncId := 58
abbrev fn_content_Test : FuncId := 59
abbrev fn_content_Bounds : FuncId := 60
abbrev fn_content_search_from_1 : FuncId := 61
abbrev fn_content_search_compare : FuncId := 62
abbrev fn_automaton_small : FuncId := 63
abbrev fn_internal_stringslite_HasSuffix : FuncId := 64
abbrev fn_ref04_Letter : FuncId := 65
abbrev fn_ref04_inName : FuncId := 66
abbrev fn_ref43_port : FuncId := 67
abbrev fn_ref06_Valid : FuncId := 68
abbrev fn_ref06_Width : FuncId := 69
abbrev fn_ref06_with : FuncId := 70
abbrev fn_content_At : FuncId := 71
abbrev fn_ref04_Digit : FuncId := 72
abbrev fn_ref06_Bit : FuncId := 73
abbrev fn_content_small : FuncId := 74
abbrev fn_runtime_boundsError_Error : FuncId := 75
abbrev fn_runtime_boundsError_RuntimeError : FuncId := 76
abbrev fn_runtime_errorString_Error : FuncId := 77
abbrev fn_runtime_errorString_RuntimeError : FuncId := 78
abbrev fn_runtime_plainError_Error : FuncId := 79
abbrev fn_runtime_plainError_RuntimeError : FuncId := 80
abbrev fn_runtime_errorAddressString_Error : FuncId := 81
abbrev fn_runtime_errorAddressString_RuntimeError : FuncId := 82
abbrev fn_runtime_TypeAssertionError_Error : FuncId := 83
abbrev fn_runtime_TypeAssertionError_RuntimeError : FuncId := 84
abbrev fn_runtime_PanicNilError_Error : FuncId := 85
abbrev fn_runtime_PanicNilError_RuntimeError : FuncId := 86
abbrev fn_internal_abi_Type_Align : FuncId := 87
abbrev fn_internal_runtime_maps_unhashableTypeError_Error : FuncId := 88
abbrev fn_internal_runtime_maps_unhashableTypeError_RuntimeError : FuncId := 89
abbrev fn_api_Errno_Error : FuncId := 90
abbrev fn_internal_abi_Kind_String : FuncId := 91
abbrev T_t : TypeId := 0
abbrev T_func : TypeId := 1
abbrev T_int64 : TypeId := 2
abbrev T_int : TypeId := 3
abbrev T_bool : TypeId := 4
abbrev T_uint8 : TypeId := 5
abbrev T_abi_BoundsErrorCode : TypeId := 6
abbrev T_struct_x_int64_y_int_signed_bool_code_abi_BoundsErrorCode : TypeId := 7
abbrev T_runtime_boundsError : TypeId := 8
abbrev T_string : TypeId := 9
abbrev T_runtime_errorString : TypeId := 10
abbrev T_runtime_plainError : TypeId := 11
abbrev T_uintptr : TypeId := 12
abbrev T_struct_msg_string_addr_uintptr : TypeId := 13
abbrev T_runtime_errorAddressString : TypeId := 14
abbrev T_p_runtime_TypeAssertionError : TypeId := 15
abbrev T_p_runtime_PanicNilError : TypeId := 16
abbrev T_p_abi_Type : TypeId := 17
abbrev T_struct_typ_p_abi_Type : TypeId := 18
abbrev T_maps_unhashableTypeError : TypeId := 19
abbrev T_interface : TypeId := 20
abbrev T_int32 : TypeId := 21
abbrev T_func_bool : TypeId := 22
abbrev T_func_string_int : TypeId := 23
abbrev T_func_string_bool : TypeId := 24
abbrev T_sl_api_AddrTerm : TypeId := 25
abbrev T_sl_api_PortTerm : TypeId := 26
abbrev T_sl_int : TypeId := 27
abbrev T_sl_api_Content : TypeId := 28
abbrev T_sl_api_Test : TypeId := 29
abbrev T_sl_api_FlowOp : TypeId := 30
abbrev T_struct_Kind_int_By_int_Count_int_Seconds_int : TypeId := 31
abbrev T_api_Threshold : TypeId := 32
abbrev T_struct_Action_int_Proto_int_Src_sl_api_AddrTerm_Dst_sl_api : TypeId := 33
abbrev T_api_Rule : TypeId := 34
abbrev T_func_api_Rule_bool : TypeId := 35
abbrev T_struct_Text_string_Nocase_bool : TypeId := 36
abbrev T_api_Pattern : TypeId := 37
abbrev T_api_Pattern_bool : TypeId := 38
abbrev T_func_api_Rule_api_Pattern_bool : TypeId := 39
abbrev T_func_api_Rule_int : TypeId := 40
abbrev T_sl_api_Rule : TypeId := 41
abbrev T_func_sl_api_Rule_bool : TypeId := 42
abbrev T_func_sl_api_Group_sl_api_Group_bool : TypeId := 43
abbrev T_sl_api_Group : TypeId := 44
abbrev T_func_sl_api_Rule_sl_api_Group : TypeId := 45
abbrev T_sl_api_Pattern : TypeId := 46
abbrev T_sl_sl_int : TypeId := 47
abbrev T_struct_Kind_int_Transforms_sl_int_Patterns_sl_api_Pattern_ : TypeId := 48
abbrev T_api_Group : TypeId := 49
abbrev T_struct_Pattern_string_Nocase_bool_Not_bool_Relative_bool_O : TypeId := 50
abbrev T_api_Content : TypeId := 51
abbrev T_api_Errno : TypeId := 52
abbrev T_func_api_Rule_api_Errno : TypeId := 53
abbrev T_bool_int_int_api_Errno : TypeId := 54
abbrev T_func_sl_api_Content_sl_api_Test_string_int_bool_int_int_ap : TypeId := 55
abbrev T_sl_api_Hit : TypeId := 56
abbrev T_func_sl_api_Pattern_string_sl_api_Hit : TypeId := 57
abbrev T_func_api_Rule_string_bool : TypeId := 58
abbrev T_256_bool : TypeId := 59
abbrev T_func_uint8_bool : TypeId := 60
abbrev T_sl_bool : TypeId := 61
abbrev T_func_string_string : TypeId := 62
abbrev T_func_api_Content_bool : TypeId := 63
abbrev T_func_sl_int_sl_int_bool : TypeId := 64
abbrev T_func_sl_api_Group_func_api_Group_bool_int : TypeId := 65
abbrev T_func_api_Group_bool : TypeId := 66
abbrev T_func_sl_int_sl_int : TypeId := 67
abbrev T_p_api_Group : TypeId := 68
abbrev T_func_sl_api_Pattern_func_api_Pattern_bool_int : TypeId := 69
abbrev T_func_api_Pattern_bool : TypeId := 70
abbrev T_func_sl_api_Group_api_Rule_int : TypeId := 71
abbrev T_func_api_Group_api_Rule_int_api_Group : TypeId := 72
abbrev T_func_sl_api_AddrTerm_bool : TypeId := 73
abbrev T_func_sl_api_PortTerm_bool : TypeId := 74
abbrev T_func_sl_api_FlowOp_bool : TypeId := 75
abbrev T_func_sl_api_Content_api_Errno : TypeId := 76
abbrev T_func_sl_api_Test_bool : TypeId := 77
abbrev T_func_sl_api_Content_bool : TypeId := 78
abbrev T_p_content_search : TypeId := 79
abbrev T_struct_contents_sl_api_Content_tests_sl_api_Test_data_stri : TypeId := 80
abbrev T_content_search : TypeId := 81
abbrev T_int_bool : TypeId := 82
abbrev T_func_int_int_int_bool : TypeId := 83
abbrev T_func_string_string_bool : TypeId := 84
abbrev T_struct_Pattern_int_End_int : TypeId := 85
abbrev T_api_Hit : TypeId := 86
abbrev T_sl_uint8 : TypeId := 87
abbrev T_uint64 : TypeId := 88
abbrev T_struct_V6_bool_Hi_uint64_Lo_uint64 : TypeId := 89
abbrev T_api_Addr : TypeId := 90
abbrev T_struct_Addr_api_Addr_Bits_int : TypeId := 91
abbrev T_api_Prefix : TypeId := 92
abbrev T_struct_Not_bool_Var_string_Prefix_api_Prefix : TypeId := 93
abbrev T_api_AddrTerm : TypeId := 94
abbrev T_struct_Not_bool_Var_string_Lo_int_Hi_int : TypeId := 95
abbrev T_api_PortTerm : TypeId := 96
abbrev T_struct_Op_int_Name_string : TypeId := 97
abbrev T_api_FlowOp : TypeId := 98
abbrev T_func_int_bool_bool : TypeId := 99
abbrev T_struct_Op_int_Size_int_Value_int_Offset_int_Relative_bool_ : TypeId := 100
abbrev T_api_Test : TypeId := 101
abbrev T_uint : TypeId := 102
abbrev T_func_api_Threshold_bool : TypeId := 103
abbrev T_func_api_Prefix_bool : TypeId := 104
abbrev T_func_api_Test_string_int_bool : TypeId := 105
abbrev T_int_int : TypeId := 106
abbrev T_func_api_Content_int_int_int_int : TypeId := 107
abbrev T_func_api_Content_int_bool : TypeId := 108
abbrev T_func_int_bool : TypeId := 109
abbrev T_func_uint8_uint8 : TypeId := 110
abbrev T_p_uint8 : TypeId := 111
abbrev T_func_api_PortTerm_bool : TypeId := 112
abbrev T_func_api_Addr_bool : TypeId := 113
abbrev T_func_api_Addr_int : TypeId := 114
abbrev T_func_api_Addr_int_bool_api_Addr : TypeId := 115
abbrev T_func_api_Content_string_int_bool : TypeId := 116
abbrev T_func_api_Addr_int_bool : TypeId := 117
abbrev T_func_string : TypeId := 118
abbrev T_struct__interface_p_abi_Type_concrete_p_abi_Type_asserted_ : TypeId := 119
abbrev T_runtime_TypeAssertionError : TypeId := 120
abbrev T_0_p_runtime_PanicNilError : TypeId := 121
abbrev T_struct___0_p_runtime_PanicNilError : TypeId := 122
abbrev T_runtime_PanicNilError : TypeId := 123
abbrev T_func_int : TypeId := 124
abbrev T_uint32 : TypeId := 125
abbrev T_abi_TFlag : TypeId := 126
abbrev T_abi_Kind : TypeId := 127
abbrev T_func_unsafe_Pointer_unsafe_Pointer_bool : TypeId := 128
abbrev T_abi_NameOff : TypeId := 129
abbrev T_abi_TypeOff : TypeId := 130
abbrev T_struct_Size__uintptr_PtrBytes_uintptr_Hash_uint32_TFlag_ab : TypeId := 131
abbrev T_abi_Type : TypeId := 132
abbrev T_unsafe_Pointer : TypeId := 133
theorem follows : Try.prog.follows .mixedOrders = true := by kernel_rfl
variable [Gh]
/-! ### intrusion/intrusionlaw46.FastpatternScores -/
def law46_FastpatternScores_v (s_0 : ByteArray) (Q : QT) (h : Heap) : Prop :=
 if (decide (((s_0.size : Nat) : Int) > 300)) = true then (CallT Try.prog fn_law46_lives #[] h fun v h1 => ∃ t6 : Bool, v = .bool t6 ∧ Q (.bool t6) h1) else (CallT Try.prog fn_fastpattern_Score #[.string s_0] h fun v h2 => ∃ t8 : Int, v = .int .i64 t8 ∧ CallT Try.prog fn_ref46_Score #[.string s_0] h2 fun v h3 => ∃ t10 : Int, v = .int .i64 t10 ∧ if (t8 == t10) = true then (CallT Try.prog fn_law46_lives #[] h3 fun v h4 => ∃ t13 : Bool, v = .bool t13 ∧ Q (.bool t13) h4) else (Q (.bool false) h3))
set_option maxRecDepth 100000 in
theorem law46_FastpatternScores_s (s_0 : ByteArray) {Q : QT} {h : Heap} (hk : law46_FastpatternScores_v s_0 Q h) : CallT Try.prog fn_law46_FastpatternScores #[.string s_0] h Q :=
 callU follows Try.func3 (Try.call3 _) rfl rfl [] []
 trivial
 trivial (by as_aux_lemma => kernel_rfl) hk
/-! ### intrusion/intrusionlaw46.FastpatternChooses -/
def law46_FastpatternChooses_v (r_0_0 r_0_1 : Int) (r_0_2a : Option Addr) (r_0_2n r_0_2c : Nat) (r_0_3a : Option Addr) (r_0_3n r_0_3c : Nat) (r_0_4a : Option Addr) (r_0_4n r_0_4c : Nat) (r_0_5a : Option Addr) (r_0_5n r_0_5c : Nat) (r_0_6 : Bool) (r_0_7 r_0_8 r_0_9 : Int) (r_0_10 : ByteArray) (r_0_11 r_0_12 : Int) (r_0_13a : Option Addr) (r_0_13n r_0_13c : Nat) (r_0_14a : Option Addr) (r_0_14n r_0_14c : Nat) (r_0_15a : Option Addr) (r_0_15n r_0_15c : Nat) (r_0_16a : Option Addr) (r_0_16n r_0_16c : Nat) (r_0_17 r_0_18 r_0_19 r_0_20 : Int) (Q : QT) (h : Heap) : Prop :=
 alV h (.cells #[.int .i64 r_0_0, .int .i64 r_0_1, .slice r_0_2a r_0_2n r_0_2c, .slice r_0_3a r_0_3n r_0_3c, .slice r_0_4a r_0_4n r_0_4c, .slice r_0_5a r_0_5n r_0_5c, .bool r_0_6, .int .i64 r_0_7, .int .i64 r_0_8, .int .i64 r_0_9, .string r_0_10, .int .i64 r_0_11, .int .i64 r_0_12, .slice r_0_13a r_0_13n r_0_13c, .slice r_0_14a r_0_14n r_0_14c, .slice r_0_15a r_0_15n r_0_15c, .slice r_0_16a r_0_16n r_0_16c, .int .i64 r_0_17, .int .i64 r_0_18, .int .i64 r_0_19, .int .i64 r_0_20] T_api_Rule) fun t1 h1 => ldI h1 t1 .i64 fun t7_0 => ldI h1 (Addr.add t1 1) .i64 fun t7_1 => ldL h1 (Addr.add t1 2) fun t7_2a t7_2n t7_2c => ldL h1 (Addr.add t1 3) fun t7_3a t7_3n t7_3c => ldL h1 (Addr.add t1 4) fun t7_4a t7_4n t7_4c => ldL h1 (Addr.add t1 5) fun t7_5a t7_5n t7_5c => ldB h1 (Addr.add t1 6) fun t7_6 => ldI h1 (Addr.add t1 7) .i64 fun t7_7 => ldI h1 (Addr.add t1 8) .i64 fun t7_8 => ldI h1 (Addr.add t1 9) .i64 fun t7_9 => ldS h1 (Addr.add t1 10) fun t7_10 => ldI h1 (Addr.add t1 11) .i64 fun t7_11 => ldI h1 (Addr.add t1 12) .i64 fun t7_12 => ldL h1 (Addr.add t1 13) fun t7_13a t7_13n t7_13c => ldL h1 (Addr.add t1 14) fun t7_14a t7_14n t7_14c => ldL h1 (Addr.add t1 15) fun t7_15a t7_15n t7_15c => ldL h1 (Addr.add t1 16) fun t7_16a t7_16n t7_16c => ldI h1 (Addr.add t1 17) .i64 fun t7_17 => ldI h1 (Addr.add t1 18) .i64 fun t7_18 => ldI h1 (Addr.add t1 19) .i64 fun t7_19 => ldI h1 (Addr.add t1 20) .i64 fun t7_20 => CallT Try.prog fn_ref43_Short #[.agg #[.int .i64 t7_0, .int .i64 t7_1, .slice t7_2a t7_2n t7_2c, .slice t7_3a t7_3n t7_3c, .slice t7_4a t7_4n t7_4c, .slice t7_5a t7_5n t7_5c, .bool t7_6, .int .i64 t7_7, .int .i64 t7_8, .int .i64 t7_9, .string t7_10, .int .i64 t7_11, .int .i64 t7_12, .slice t7_13a t7_13n t7_13c, .slice t7_14a t7_14n t7_14c, .slice t7_15a t7_15n t7_15c, .slice t7_16a t7_16n t7_16c, .int .i64 t7_17, .int .i64 t7_18, .int .i64 t7_19, .int .i64 t7_20]] h1 fun v h2 => ∃ t8 : Bool, v = .bool t8 ∧ if (!t8) = true then (CallT Try.prog fn_law46_lives #[] h2 fun v h3 => ∃ t10 : Bool, v = .bool t10 ∧ Q (.bool t10) h3) else (ldI h2 t1 .i64 fun t12_0 => ldI h2 (Addr.add t1 1) .i64 fun t12_1 => ldL h2 (Addr.add t1 2) fun t12_2a t12_2n t12_2c => ldL h2 (Addr.add t1 3) fun t12_3a t12_3n t12_3c => ldL h2 (Addr.add t1 4) fun t12_4a t12_4n t12_4c => ldL h2 (Addr.add t1 5) fun t12_5a t12_5n t12_5c => ldB h2 (Addr.add t1 6) fun t12_6 => ldI h2 (Addr.add t1 7) .i64 fun t12_7 => ldI h2 (Addr.add t1 8) .i64 fun t12_8 => ldI h2 (Addr.add t1 9) .i64 fun t12_9 => ldS h2 (Addr.add t1 10) fun t12_10 => ldI h2 (Addr.add t1 11) .i64 fun t12_11 => ldI h2 (Addr.add t1 12) .i64 fun t12_12 => ldL h2 (Addr.add t1 13) fun t12_13a t12_13n t12_13c => ldL h2 (Addr.add t1 14) fun t12_14a t12_14n t12_14c => ldL h2 (Addr.add t1 15) fun t12_15a t12_15n t12_15c => ldL h2 (Addr.add t1 16) fun t12_16a t12_16n t12_16c => ldI h2 (Addr.add t1 17) .i64 fun t12_17 => ldI h2 (Addr.add t1 18) .i64 fun t12_18 => ldI h2 (Addr.add t1 19) .i64 fun t12_19 => ldI h2 (Addr.add t1 20) .i64 fun t12_20 => CallT Try.prog fn_fastpattern_Pattern #[.agg #[.int .i64 t12_0, .int .i64 t12_1, .slice t12_2a t12_2n t12_2c, .slice t12_3a t12_3n t12_3c, .slice t12_4a t12_4n t12_4c, .slice t12_5a t12_5n t12_5c, .bool t12_6, .int .i64 t12_7, .int .i64 t12_8, .int .i64 t12_9, .string t12_10, .int .i64 t12_11, .int .i64 t12_12, .slice t12_13a t12_13n t12_13c, .slice t12_14a t12_14n t12_14c, .slice t12_15a t12_15n t12_15c, .slice t12_16a t12_16n t12_16c, .int .i64 t12_17, .int .i64 t12_18, .int .i64 t12_19, .int .i64 t12_20]] h2 fun v h4 => ∃ t13_0_0 : ByteArray, ∃ t13_0_1 : Bool, ∃ t13_1 : Bool, v = .tuple #[.agg #[.string t13_0_0, .bool t13_0_1], .bool t13_1] ∧ alV h4 (.cells #[.string (⟨#[]⟩ : ByteArray), .bool false] T_api_Pattern) fun t3 h5 => stN h5 t3 [.string t13_0_0, .bool t13_0_1] 0 fun h6 => ldI h6 t1 .i64 fun t17_0 => ldI h6 (Addr.add t1 1) .i64 fun t17_1 => ldL h6 (Addr.add t1 2) fun t17_2a t17_2n t17_2c => ldL h6 (Addr.add t1 3) fun t17_3a t17_3n t17_3c => ldL h6 (Addr.add t1 4) fun t17_4a t17_4n t17_4c => ldL h6 (Addr.add t1 5) fun t17_5a t17_5n t17_5c => ldB h6 (Addr.add t1 6) fun t17_6 => ldI h6 (Addr.add t1 7) .i64 fun t17_7 => ldI h6 (Addr.add t1 8) .i64 fun t17_8 => ldI h6 (Addr.add t1 9) .i64 fun t17_9 => ldS h6 (Addr.add t1 10) fun t17_10 => ldI h6 (Addr.add t1 11) .i64 fun t17_11 => ldI h6 (Addr.add t1 12) .i64 fun t17_12 => ldL h6 (Addr.add t1 13) fun t17_13a t17_13n t17_13c => ldL h6 (Addr.add t1 14) fun t17_14a t17_14n t17_14c => ldL h6 (Addr.add t1 15) fun t17_15a t17_15n t17_15c => ldL h6 (Addr.add t1 16) fun t17_16a t17_16n t17_16c => ldI h6 (Addr.add t1 17) .i64 fun t17_17 => ldI h6 (Addr.add t1 18) .i64 fun t17_18 => ldI h6 (Addr.add t1 19) .i64 fun t17_19 => ldI h6 (Addr.add t1 20) .i64 fun t17_20 => CallT Try.prog fn_ref46_Pattern #[.agg #[.int .i64 t17_0, .int .i64 t17_1, .slice t17_2a t17_2n t17_2c, .slice t17_3a t17_3n t17_3c, .slice t17_4a t17_4n t17_4c, .slice t17_5a t17_5n t17_5c, .bool t17_6, .int .i64 t17_7, .int .i64 t17_8, .int .i64 t17_9, .string t17_10, .int .i64 t17_11, .int .i64 t17_12, .slice t17_13a t17_13n t17_13c, .slice t17_14a t17_14n t17_14c, .slice t17_15a t17_15n t17_15c, .slice t17_16a t17_16n t17_16c, .int .i64 t17_17, .int .i64 t17_18, .int .i64 t17_19, .int .i64 t17_20]] h6 fun v h7 => ∃ t18_0_0 : ByteArray, ∃ t18_0_1 : Bool, ∃ t18_1 : Bool, v = .tuple #[.agg #[.string t18_0_0, .bool t18_0_1], .bool t18_1] ∧ alV h7 (.cells #[.string (⟨#[]⟩ : ByteArray), .bool false] T_api_Pattern) fun t5 h8 => stN h8 t5 [.string t18_0_0, .bool t18_0_1] 0 fun h9 => ldI h9 t1 .i64 fun t21_0 => ldI h9 (Addr.add t1 1) .i64 fun t21_1 => ldL h9 (Addr.add t1 2) fun t21_2a t21_2n t21_2c => ldL h9 (Addr.add t1 3) fun t21_3a t21_3n t21_3c => ldL h9 (Addr.add t1 4) fun t21_4a t21_4n t21_4c => ldL h9 (Addr.add t1 5) fun t21_5a t21_5n t21_5c => ldB h9 (Addr.add t1 6) fun t21_6 => ldI h9 (Addr.add t1 7) .i64 fun t21_7 => ldI h9 (Addr.add t1 8) .i64 fun t21_8 => ldI h9 (Addr.add t1 9) .i64 fun t21_9 => ldS h9 (Addr.add t1 10) fun t21_10 => ldI h9 (Addr.add t1 11) .i64 fun t21_11 => ldI h9 (Addr.add t1 12) .i64 fun t21_12 => ldL h9 (Addr.add t1 13) fun t21_13a t21_13n t21_13c => ldL h9 (Addr.add t1 14) fun t21_14a t21_14n t21_14c => ldL h9 (Addr.add t1 15) fun t21_15a t21_15n t21_15c => ldL h9 (Addr.add t1 16) fun t21_16a t21_16n t21_16c => ldI h9 (Addr.add t1 17) .i64 fun t21_17 => ldI h9 (Addr.add t1 18) .i64 fun t21_18 => ldI h9 (Addr.add t1 19) .i64 fun t21_19 => ldI h9 (Addr.add t1 20) .i64 fun t21_20 => ldI h9 t1 .i64 fun t23_0 => ldI h9 (Addr.add t1 1) .i64 fun t23_1 => ldL h9 (Addr.add t1 2) fun t23_2a t23_2n t23_2c => ldL h9 (Addr.add t1 3) fun t23_3a t23_3n t23_3c => ldL h9 (Addr.add t1 4) fun t23_4a t23_4n t23_4c => ldL h9 (Addr.add t1 5) fun t23_5a t23_5n t23_5c => ldB h9 (Addr.add t1 6) fun t23_6 => ldI h9 (Addr.add t1 7) .i64 fun t23_7 => ldI h9 (Addr.add t1 8) .i64 fun t23_8 => ldI h9 (Addr.add t1 9) .i64 fun t23_9 => ldS h9 (Addr.add t1 10) fun t23_10 => ldI h9 (Addr.add t1 11) .i64 fun t23_11 => ldI h9 (Addr.add t1 12) .i64 fun t23_12 => ldL h9 (Addr.add t1 13) fun t23_13a t23_13n t23_13c => ldL h9 (Addr.add t1 14) fun t23_14a t23_14n t23_14c => ldL h9 (Addr.add t1 15) fun t23_15a t23_15n t23_15c => ldL h9 (Addr.add t1 16) fun t23_16a t23_16n t23_16c => ldI h9 (Addr.add t1 17) .i64 fun t23_17 => ldI h9 (Addr.add t1 18) .i64 fun t23_18 => ldI h9 (Addr.add t1 19) .i64 fun t23_19 => ldI h9 (Addr.add t1 20) .i64 fun t23_20 => CallT Try.prog fn_fastpattern_Choose #[.agg #[.int .i64 t21_0, .int .i64 t21_1, .slice t21_2a t21_2n t21_2c, .slice t21_3a t21_3n t21_3c, .slice t21_4a t21_4n t21_4c, .slice t21_5a t21_5n t21_5c, .bool t21_6, .int .i64 t21_7, .int .i64 t21_8, .int .i64 t21_9, .string t21_10, .int .i64 t21_11, .int .i64 t21_12, .slice t21_13a t21_13n t21_13c, .slice t21_14a t21_14n t21_14c, .slice t21_15a t21_15n t21_15c, .slice t21_16a t21_16n t21_16c, .int .i64 t21_17, .int .i64 t21_18, .int .i64 t21_19, .int .i64 t21_20]] h9 fun v h10 => ∃ t22 : Int, v = .int .i64 t22 ∧ (ldI h10 t1 .i64 fun t923_0 => ldI h10 (Addr.add t1 1) .i64 fun t923_1 => ldL h10 (Addr.add t1 2) fun t923_2a t923_2n t923_2c => ldL h10 (Addr.add t1 3) fun t923_3a t923_3n t923_3c => ldL h10 (Addr.add t1 4) fun t923_4a t923_4n t923_4c => ldL h10 (Addr.add t1 5) fun t923_5a t923_5n t923_5c => ldB h10 (Addr.add t1 6) fun t923_6 => ldI h10 (Addr.add t1 7) .i64 fun t923_7 => ldI h10 (Addr.add t1 8) .i64 fun t923_8 => ldI h10 (Addr.add t1 9) .i64 fun t923_9 => ldS h10 (Addr.add t1 10) fun t923_10 => ldI h10 (Addr.add t1 11) .i64 fun t923_11 => ldI h10 (Addr.add t1 12) .i64 fun t923_12 => ldL h10 (Addr.add t1 13) fun t923_13a t923_13n t923_13c => ldL h10 (Addr.add t1 14) fun t923_14a t923_14n t923_14c => ldL h10 (Addr.add t1 15) fun t923_15a t923_15n t923_15c => ldL h10 (Addr.add t1 16) fun t923_16a t923_16n t923_16c => ldI h10 (Addr.add t1 17) .i64 fun t923_17 => ldI h10 (Addr.add t1 18) .i64 fun t923_18 => ldI h10 (Addr.add t1 19) .i64 fun t923_19 => ldI h10 (Addr.add t1 20) .i64 fun t923_20 => (.agg #[.int .i64 t923_0, .int .i64 t923_1, .slice t923_2a t923_2n t923_2c, .slice t923_3a t923_3n t923_3c, .slice t923_4a t923_4n t923_4c, .slice t923_5a t923_5n t923_5c, .bool t923_6, .int .i64 t923_7, .int .i64 t923_8, .int .i64 t923_9, .string t923_10, .int .i64 t923_11, .int .i64 t923_12, .slice t923_13a t923_13n t923_13c, .slice t923_14a t923_14n t923_14c, .slice t923_15a t923_15n t923_15c, .slice t923_16a t923_16n t923_16c, .int .i64 t923_17, .int .i64 t923_18, .int .i64 t923_19, .int .i64 t923_20] : Value) = .agg #[.int .i64 t23_0, .int .i64 t23_1, .slice t23_2a t23_2n t23_2c, .slice t23_3a t23_3n t23_3c, .slice t23_4a t23_4n t23_4c, .slice t23_5a t23_5n t23_5c, .bool t23_6, .int .i64 t23_7, .int .i64 t23_8, .int .i64 t23_9, .string t23_10, .int .i64 t23_11, .int .i64 t23_12, .slice t23_13a t23_13n t23_13c, .slice t23_14a t23_14n t23_14c, .slice t23_15a t23_15n t23_15c, .slice t23_16a t23_16n t23_16c, .int .i64 t23_17, .int .i64 t23_18, .int .i64 t23_19, .int .i64 t23_20]) ∧ CallT Try.prog fn_ref46_Choose #[.agg #[.int .i64 t23_0, .int .i64 t23_1, .slice t23_2a t23_2n t23_2c, .slice t23_3a t23_3n t23_3c, .slice t23_4a t23_4n t23_4c, .slice t23_5a t23_5n t23_5c, .bool t23_6, .int .i64 t23_7, .int .i64 t23_8, .int .i64 t23_9, .string t23_10, .int .i64 t23_11, .int .i64 t23_12, .slice t23_13a t23_13n t23_13c, .slice t23_14a t23_14n t23_14c, .slice t23_15a t23_15n t23_15c, .slice t23_16a t23_16n t23_16c, .int .i64 t23_17, .int .i64 t23_18, .int .i64 t23_19, .int .i64 t23_20]] h10 fun v h11 => ∃ t24 : Int, v = .int .i64 t24 ∧ if (t22 == t24) = true then (ldS h11 t3 fun t27_0 => ldB h11 (Addr.add t3 1) fun t27_1 => ldS h11 t5 fun t28_0 => ldB h11 (Addr.add t5 1) fun t28_1 => if ((t27_0 == t28_0) && ((t27_1 == t28_1) && true)) = true then (if (t13_1 == t18_1) = true then (CallT Try.prog fn_law46_lives #[] h11 fun v h12 => ∃ t37 : Bool, v = .bool t37 ∧ Q (.bool t37) h12) else (Q (.bool false) h11)) else (Q (.bool false) h11)) else (Q (.bool false) h11))
set_option maxRecDepth 100000 in
theorem law46_FastpatternChooses_s (r_0_0 r_0_1 : Int) (r_0_2a : Option Addr) (r_0_2n r_0_2c : Nat) (r_0_3a : Option Addr) (r_0_3n r_0_3c : Nat) (r_0_4a : Option Addr) (r_0_4n r_0_4c : Nat) (r_0_5a : Option Addr) (r_0_5n r_0_5c : Nat) (r_0_6 : Bool) (r_0_7 r_0_8 r_0_9 : Int) (r_0_10 : ByteArray) (r_0_11 r_0_12 : Int) (r_0_13a : Option Addr) (r_0_13n r_0_13c : Nat) (r_0_14a : Option Addr) (r_0_14n r_0_14c : Nat) (r_0_15a : Option Addr) (r_0_15n r_0_15c : Nat) (r_0_16a : Option Addr) (r_0_16n r_0_16c : Nat) (r_0_17 r_0_18 r_0_19 r_0_20 : Int) {Q : QT} {h : Heap} (hk : law46_FastpatternChooses_v r_0_0 r_0_1 r_0_2a r_0_2n r_0_2c r_0_3a r_0_3n r_0_3c r_0_4a r_0_4n r_0_4c r_0_5a r_0_5n r_0_5c r_0_6 r_0_7 r_0_8 r_0_9 r_0_10 r_0_11 r_0_12 r_0_13a r_0_13n r_0_13c r_0_14a r_0_14n r_0_14c r_0_15a r_0_15n r_0_15c r_0_16a r_0_16n r_0_16c r_0_17 r_0_18 r_0_19 r_0_20 Q h) : CallT Try.prog fn_law46_FastpatternChooses #[.agg #[.int .i64 r_0_0, .int .i64 r_0_1, .slice r_0_2a r_0_2n r_0_2c, .slice r_0_3a r_0_3n r_0_3c, .slice r_0_4a r_0_4n r_0_4c, .slice r_0_5a r_0_5n r_0_5c, .bool r_0_6, .int .i64 r_0_7, .int .i64 r_0_8, .int .i64 r_0_9, .string r_0_10, .int .i64 r_0_11, .int .i64 r_0_12, .slice r_0_13a r_0_13n r_0_13c, .slice r_0_14a r_0_14n r_0_14c, .slice r_0_15a r_0_15n r_0_15c, .slice r_0_16a r_0_16n r_0_16c, .int .i64 r_0_17, .int .i64 r_0_18, .int .i64 r_0_19, .int .i64 r_0_20]] h Q :=
 callU follows Try.func4 (Try.call4 _) rfl rfl [] []
 trivial
 trivial (by as_aux_lemma => kernel_rfl) hk
/-! ### intrusion/intrusionlaw46.FastpatternGroups -/
def law46_FastpatternGroups_v (l_0a : Option Addr) (l_0n l_0c : Nat) (Q : QT) (h : Heap) : Prop :=
 CallT Try.prog fn_law46_short #[.slice l_0a l_0n l_0c] h fun v h1 => ∃ t4 : Bool, v = .bool t4 ∧ if (!t4) = true then (CallT Try.prog fn_law46_lives #[] h1 fun v h2 => ∃ t6 : Bool, v = .bool t6 ∧ Q (.bool t6) h2) else (CallT Try.prog fn_fastpattern_Groups #[.slice l_0a l_0n l_0c] h1 fun v h3 => ∃ t8a : Option Addr, ∃ t8n : Nat, ∃ t8c : Nat, v = .slice t8a t8n t8c ∧ CallT Try.prog fn_ref46_Groups #[.slice l_0a l_0n l_0c] h3 fun v h4 => ∃ t10a : Option Addr, ∃ t10n : Nat, ∃ t10c : Nat, v = .slice t10a t10n t10c ∧ CallT Try.prog fn_ref46_Same #[.slice t8a t8n t8c, .slice t10a t10n t10c] h4 fun v h5 => ∃ t11 : Bool, v = .bool t11 ∧ if t11 = true then (CallT Try.prog fn_law46_lives #[] h5 fun v h6 => ∃ t13 : Bool, v = .bool t13 ∧ Q (.bool t13) h6) else (Q (.bool false) h5))
set_option maxRecDepth 100000 in
theorem law46_FastpatternGroups_s (l_0a : Option Addr) (l_0n l_0c : Nat) {Q : QT} {h : Heap} (hk : law46_FastpatternGroups_v l_0a l_0n l_0c Q h) : CallT Try.prog fn_law46_FastpatternGroups #[.slice l_0a l_0n l_0c] h Q :=
 callU follows Try.func5 (Try.call5 _) rfl rfl [] []
 trivial
 trivial (by as_aux_lemma => kernel_rfl) hk
/-! ### intrusion/intrusionlaw46.FastpatternOnce -/
def law46_FastpatternOnce_b10 (l_0a : Option Addr) (l_0n l_0c : Nat) (g_3a : Option Addr) (g_3n g_3c : Nat) (seen_4a : Option Addr) (seen_4n seen_4c : Nat) (i_5 k_6 n_7 : Int) (t89 : Bool) (Q : QT) (Kn1 : Int → Heap → Prop) (Kn2 : Int → Heap → Prop) (h : Heap) : Prop :=
 if t89 = true then (Q (.bool false) h) else (idxA n_7 seen_4n (nn seen_4a fun t92 => ldI h (Addr.add t92 ((n_7).toNat * 1)) .i64 fun t93 => idxA n_7 seen_4n (nn seen_4a fun t95 => st1 h (Addr.add t95 ((n_7).toNat * 1)) (.int .i64 (wrap .i64 (t93 + 1))) fun h6 => Kn2 (wrap .i64 (k_6 + 1)) h6)))
def law46_FastpatternOnce_b9 (l_0a : Option Addr) (l_0n l_0c : Nat) (g_3a : Option Addr) (g_3n g_3c : Nat) (seen_4a : Option Addr) (seen_4n seen_4c : Nat) (i_5 k_8 j_9 n_10 : Int) (t192 : Bool) (Q : QT) (Kn1 : Int → Heap → Prop) (Kn5 : Int → Heap → Prop) (Kn6 : Int → Heap → Prop) (h : Heap) : Prop :=
 if t192 = true then (Q (.bool false) h) else (idxA n_10 seen_4n (nn seen_4a fun t195 => ldI h (Addr.add t195 ((n_10).toNat * 1)) .i64 fun t196 => idxA n_10 seen_4n (nn seen_4a fun t198 => st1 h (Addr.add t198 ((n_10).toNat * 1)) (.int .i64 (wrap .i64 (t196 + 1))) fun h10 => Kn6 (wrap .i64 (j_9 + 1)) h10)))
def law46_FastpatternOnce_b8 (l_0a : Option Addr) (l_0n l_0c : Nat) (g_3a : Option Addr) (g_3n g_3c : Nat) (seen_4a : Option Addr) (seen_4n seen_4c : Nat) (i_5 k_8 j_9 n_10 : Int) (Q : QT) (Kn1 : Int → Heap → Prop) (Kn5 : Int → Heap → Prop) (Kn6 : Int → Heap → Prop) (h : Heap) : Prop :=
 idxA n_10 l_0n (nn l_0a fun t174 => ldI h (Addr.add t174 ((n_10).toNat * 21)) .i64 fun t175_0 => ldI h (Addr.add (Addr.add t174 ((n_10).toNat * 21)) 1) .i64 fun t175_1 => ldL h (Addr.add (Addr.add t174 ((n_10).toNat * 21)) 2) fun t175_2a t175_2n t175_2c => ldL h (Addr.add (Addr.add t174 ((n_10).toNat * 21)) 3) fun t175_3a t175_3n t175_3c => ldL h (Addr.add (Addr.add t174 ((n_10).toNat * 21)) 4) fun t175_4a t175_4n t175_4c => ldL h (Addr.add (Addr.add t174 ((n_10).toNat * 21)) 5) fun t175_5a t175_5n t175_5c => ldB h (Addr.add (Addr.add t174 ((n_10).toNat * 21)) 6) fun t175_6 => ldI h (Addr.add (Addr.add t174 ((n_10).toNat * 21)) 7) .i64 fun t175_7 => ldI h (Addr.add (Addr.add t174 ((n_10).toNat * 21)) 8) .i64 fun t175_8 => ldI h (Addr.add (Addr.add t174 ((n_10).toNat * 21)) 9) .i64 fun t175_9 => ldS h (Addr.add (Addr.add t174 ((n_10).toNat * 21)) 10) fun t175_10 => ldI h (Addr.add (Addr.add t174 ((n_10).toNat * 21)) 11) .i64 fun t175_11 => ldI h (Addr.add (Addr.add t174 ((n_10).toNat * 21)) 12) .i64 fun t175_12 => ldL h (Addr.add (Addr.add t174 ((n_10).toNat * 21)) 13) fun t175_13a t175_13n t175_13c => ldL h (Addr.add (Addr.add t174 ((n_10).toNat * 21)) 14) fun t175_14a t175_14n t175_14c => ldL h (Addr.add (Addr.add t174 ((n_10).toNat * 21)) 15) fun t175_15a t175_15n t175_15c => ldL h (Addr.add (Addr.add t174 ((n_10).toNat * 21)) 16) fun t175_16a t175_16n t175_16c => ldI h (Addr.add (Addr.add t174 ((n_10).toNat * 21)) 17) .i64 fun t175_17 => ldI h (Addr.add (Addr.add t174 ((n_10).toNat * 21)) 18) .i64 fun t175_18 => ldI h (Addr.add (Addr.add t174 ((n_10).toNat * 21)) 19) .i64 fun t175_19 => ldI h (Addr.add (Addr.add t174 ((n_10).toNat * 21)) 20) .i64 fun t175_20 => CallT Try.prog fn_fastpattern_Pattern #[.agg #[.int .i64 t175_0, .int .i64 t175_1, .slice t175_2a t175_2n t175_2c, .slice t175_3a t175_3n t175_3c, .slice t175_4a t175_4n t175_4c, .slice t175_5a t175_5n t175_5c, .bool t175_6, .int .i64 t175_7, .int .i64 t175_8, .int .i64 t175_9, .string t175_10, .int .i64 t175_11, .int .i64 t175_12, .slice t175_13a t175_13n t175_13c, .slice t175_14a t175_14n t175_14c, .slice t175_15a t175_15n t175_15c, .slice t175_16a t175_16n t175_16c, .int .i64 t175_17, .int .i64 t175_18, .int .i64 t175_19, .int .i64 t175_20]] h fun v h7 => ∃ t176_0_0 : ByteArray, ∃ t176_0_1 : Bool, ∃ t176_1 : Bool, v = .tuple #[.agg #[.string t176_0_0, .bool t176_0_1], .bool t176_1] ∧ alV h7 (.cells #[.string (⟨#[]⟩ : ByteArray), .bool false] T_api_Pattern) fun t11 h8 => stN h8 t11 [.string t176_0_0, .bool t176_0_1] 0 fun h9 => if (!t176_1) = true then (law46_FastpatternOnce_b9 l_0a l_0n l_0c g_3a g_3n g_3c seen_4a seen_4n seen_4c i_5 k_8 j_9 n_10 true Q Kn1 Kn5 Kn6 h9) else (ldS h9 t11 fun t182_0 => ldB h9 (Addr.add t11 1) fun t182_1 => idxA i_5 g_3n (nn g_3a fun t185 => ldL h9 (Addr.add (Addr.add t185 ((i_5).toNat * 5)) 2) fun t187a t187n t187c => idxA k_8 t187n (nn t187a fun t189 => ldS h9 (Addr.add t189 ((k_8).toNat * 2)) fun t190_0 => ldB h9 (Addr.add (Addr.add t189 ((k_8).toNat * 2)) 1) fun t190_1 => law46_FastpatternOnce_b9 l_0a l_0n l_0c g_3a g_3n g_3c seen_4a seen_4n seen_4c i_5 k_8 j_9 n_10 (!((t182_0 == t190_0) && ((t182_1 == t190_1) && true))) Q Kn1 Kn5 Kn6 h9))))
def law46_FastpatternOnce_l6 (l_0a : Option Addr) (l_0n l_0c : Nat) (g_3a : Option Addr) (g_3n g_3c : Nat) (seen_4a : Option Addr) (seen_4n seen_4c : Nat) (i_5 k_8 : Int) (Q : QT) (Kn1 : Int → Heap → Prop) (Kn5 : Int → Heap → Prop) (j_9 : Int) (h : Heap) (Kn6 : Int → Heap → Prop) : Prop :=
 idxA i_5 g_3n (nn g_3a fun t109 => ldL h (Addr.add (Addr.add t109 ((i_5).toNat * 5)) 3) fun t111a t111n t111c => idxA k_8 t111n (nn t111a fun t113 => ldL h (Addr.add t113 ((k_8).toNat * 1)) fun t114a t114n t114c => if (decide (j_9 < ((t114n : Nat) : Int))) = true then (idxA i_5 g_3n (nn g_3a fun t121 => ldL h (Addr.add (Addr.add t121 ((i_5).toNat * 5)) 3) fun t123a t123n t123c => idxA k_8 t123n (nn t123a fun t125 => ldL h (Addr.add t125 ((k_8).toNat * 1)) fun t126a t126n t126c => idxA j_9 t126n (nn t126a fun t128 => ldI h (Addr.add t128 ((j_9).toNat * 1)) .i64 fun t129 => if (decide (t129 < 0)) = true then (Q (.bool false) h) else (if (decide (t129 ≥ ((l_0n : Nat) : Int))) = true then (Q (.bool false) h) else (idxA t129 l_0n (nn l_0a fun t141 => ldI h (Addr.add (Addr.add t141 ((t129).toNat * 21)) 12) .i64 fun t143 => idxA i_5 g_3n (nn g_3a fun t146 => ldI h (Addr.add t146 ((i_5).toNat * 5)) .i64 fun t148 => if (t143 != t148) = true then (Q (.bool false) h) else (if (decide (j_9 > 0)) = true then (idxA i_5 g_3n (nn g_3a fun t157 => ldL h (Addr.add (Addr.add t157 ((i_5).toNat * 5)) 3) fun t159a t159n t159c => idxA k_8 t159n (nn t159a fun t161 => ldL h (Addr.add t161 ((k_8).toNat * 1)) fun t162a t162n t162c => idxA (wrap .i64 (j_9 - 1)) t162n (nn t162a fun t165 => ldI h (Addr.add t165 (((wrap .i64 (j_9 - 1))).toNat * 1)) .i64 fun t166 => if (decide (t166 ≥ t129)) = true then (Q (.bool false) h) else (law46_FastpatternOnce_b8 l_0a l_0n l_0c g_3a g_3n g_3c seen_4a seen_4n seen_4c i_5 k_8 j_9 t129 Q Kn1 Kn5 Kn6 h))))) else (law46_FastpatternOnce_b8 l_0a l_0n l_0c g_3a g_3n g_3c seen_4a seen_4n seen_4c i_5 k_8 j_9 t129 Q Kn1 Kn5 Kn6 h)))))))))) else (Kn5 (wrap .i64 (k_8 + 1)) h)))
def law46_FastpatternOnce_l5 (l_0a : Option Addr) (l_0n l_0c : Nat) (g_3a : Option Addr) (g_3n g_3c : Nat) (seen_4a : Option Addr) (seen_4n seen_4c : Nat) (i_5 : Int) (Q : QT) (Kn1 : Int → Heap → Prop) (k_8 : Int) (h : Heap) (Kn5 : Int → Heap → Prop) : Prop :=
 idxA i_5 g_3n (nn g_3a fun t99 => ldL h (Addr.add (Addr.add t99 ((i_5).toNat * 5)) 3) fun t101a t101n t101c => if (decide (k_8 < ((t101n : Nat) : Int))) = true then (LoopV (fun (s : Int) h Kn => law46_FastpatternOnce_l6 l_0a l_0n l_0c g_3a g_3n g_3c seen_4a seen_4n seen_4c i_5 k_8 Q Kn1 Kn5 s h Kn) 0 h) else (Kn1 (wrap .i64 (i_5 + 1)) h))
def law46_FastpatternOnce_b3 (l_0a : Option Addr) (l_0n l_0c : Nat) (g_3a : Option Addr) (g_3n g_3c : Nat) (seen_4a : Option Addr) (seen_4n seen_4c : Nat) (i_5 : Int) (Q : QT) (Kn1 : Int → Heap → Prop) (h : Heap) : Prop :=
 LoopV (fun (s : Int) h Kn => law46_FastpatternOnce_l5 l_0a l_0n l_0c g_3a g_3n g_3c seen_4a seen_4n seen_4c i_5 Q Kn1 s h Kn) 0 h
def law46_FastpatternOnce_l2 (l_0a : Option Addr) (l_0n l_0c : Nat) (g_3a : Option Addr) (g_3n g_3c : Nat) (seen_4a : Option Addr) (seen_4n seen_4c : Nat) (i_5 : Int) (Q : QT) (Kn1 : Int → Heap → Prop) (k_6 : Int) (h : Heap) (Kn2 : Int → Heap → Prop) : Prop :=
 idxA i_5 g_3n (nn g_3a fun t46 => ldL h (Addr.add (Addr.add t46 ((i_5).toNat * 5)) 4) fun t48a t48n t48c => if (decide (k_6 < ((t48n : Nat) : Int))) = true then (idxA i_5 g_3n (nn g_3a fun t55 => ldL h (Addr.add (Addr.add t55 ((i_5).toNat * 5)) 4) fun t57a t57n t57c => idxA k_6 t57n (nn t57a fun t59 => ldI h (Addr.add t59 ((k_6).toNat * 1)) .i64 fun t60 => if (decide (t60 < 0)) = true then (law46_FastpatternOnce_b10 l_0a l_0n l_0c g_3a g_3n g_3c seen_4a seen_4n seen_4c i_5 k_6 t60 true Q Kn1 Kn2 h) else (if (decide (t60 ≥ ((l_0n : Nat) : Int))) = true then (law46_FastpatternOnce_b10 l_0a l_0n l_0c g_3a g_3n g_3c seen_4a seen_4n seen_4c i_5 k_6 t60 true Q Kn1 Kn2 h) else (idxA t60 l_0n (nn l_0a fun t72 => ldI h (Addr.add (Addr.add t72 ((t60).toNat * 21)) 12) .i64 fun t74 => idxA i_5 g_3n (nn g_3a fun t77 => ldI h (Addr.add t77 ((i_5).toNat * 5)) .i64 fun t79 => if (t74 != t79) = true then (law46_FastpatternOnce_b10 l_0a l_0n l_0c g_3a g_3n g_3c seen_4a seen_4n seen_4c i_5 k_6 t60 true Q Kn1 Kn2 h) else (idxA t60 l_0n (nn l_0a fun t85 => ldI h (Addr.add t85 ((t60).toNat * 21)) .i64 fun t86_0 => ldI h (Addr.add (Addr.add t85 ((t60).toNat * 21)) 1) .i64 fun t86_1 => ldL h (Addr.add (Addr.add t85 ((t60).toNat * 21)) 2) fun t86_2a t86_2n t86_2c => ldL h (Addr.add (Addr.add t85 ((t60).toNat * 21)) 3) fun t86_3a t86_3n t86_3c => ldL h (Addr.add (Addr.add t85 ((t60).toNat * 21)) 4) fun t86_4a t86_4n t86_4c => ldL h (Addr.add (Addr.add t85 ((t60).toNat * 21)) 5) fun t86_5a t86_5n t86_5c => ldB h (Addr.add (Addr.add t85 ((t60).toNat * 21)) 6) fun t86_6 => ldI h (Addr.add (Addr.add t85 ((t60).toNat * 21)) 7) .i64 fun t86_7 => ldI h (Addr.add (Addr.add t85 ((t60).toNat * 21)) 8) .i64 fun t86_8 => ldI h (Addr.add (Addr.add t85 ((t60).toNat * 21)) 9) .i64 fun t86_9 => ldS h (Addr.add (Addr.add t85 ((t60).toNat * 21)) 10) fun t86_10 => ldI h (Addr.add (Addr.add t85 ((t60).toNat * 21)) 11) .i64 fun t86_11 => ldI h (Addr.add (Addr.add t85 ((t60).toNat * 21)) 12) .i64 fun t86_12 => ldL h (Addr.add (Addr.add t85 ((t60).toNat * 21)) 13) fun t86_13a t86_13n t86_13c => ldL h (Addr.add (Addr.add t85 ((t60).toNat * 21)) 14) fun t86_14a t86_14n t86_14c => ldL h (Addr.add (Addr.add t85 ((t60).toNat * 21)) 15) fun t86_15a t86_15n t86_15c => ldL h (Addr.add (Addr.add t85 ((t60).toNat * 21)) 16) fun t86_16a t86_16n t86_16c => ldI h (Addr.add (Addr.add t85 ((t60).toNat * 21)) 17) .i64 fun t86_17 => ldI h (Addr.add (Addr.add t85 ((t60).toNat * 21)) 18) .i64 fun t86_18 => ldI h (Addr.add (Addr.add t85 ((t60).toNat * 21)) 19) .i64 fun t86_19 => ldI h (Addr.add (Addr.add t85 ((t60).toNat * 21)) 20) .i64 fun t86_20 => CallT Try.prog fn_fastpattern_Choose #[.agg #[.int .i64 t86_0, .int .i64 t86_1, .slice t86_2a t86_2n t86_2c, .slice t86_3a t86_3n t86_3c, .slice t86_4a t86_4n t86_4c, .slice t86_5a t86_5n t86_5c, .bool t86_6, .int .i64 t86_7, .int .i64 t86_8, .int .i64 t86_9, .string t86_10, .int .i64 t86_11, .int .i64 t86_12, .slice t86_13a t86_13n t86_13c, .slice t86_14a t86_14n t86_14c, .slice t86_15a t86_15n t86_15c, .slice t86_16a t86_16n t86_16c, .int .i64 t86_17, .int .i64 t86_18, .int .i64 t86_19, .int .i64 t86_20]] h fun v h5 => ∃ t87 : Int, v = .int .i64 t87 ∧ law46_FastpatternOnce_b10 l_0a l_0n l_0c g_3a g_3n g_3c seen_4a seen_4n seen_4c i_5 k_6 t60 (t87 != (-1)) Q Kn1 Kn2 h5))))))))) else (law46_FastpatternOnce_b3 l_0a l_0n l_0c g_3a g_3n g_3c seen_4a seen_4n seen_4c i_5 Q Kn1 h))
def law46_FastpatternOnce_l7 (seen_4a : Option Addr) (seen_4n seen_4c : Nat) (Q : QT) (i_13 : Int) (h : Heap) (Kn7 : Int → Heap → Prop) : Prop :=
 if (decide (i_13 < ((seen_4n : Nat) : Int))) = true then (idxA i_13 seen_4n (nn seen_4a fun t207 => ldI h (Addr.add t207 ((i_13).toNat * 1)) .i64 fun t208 => if (t208 != 1) = true then (Q (.bool false) h) else (Kn7 (wrap .i64 (i_13 + 1)) h))) else (Q (.bool true) h)
def law46_FastpatternOnce_b4 (seen_4a : Option Addr) (seen_4n seen_4c : Nat) (Q : QT) (h : Heap) : Prop :=
 LoopV (fun (s : Int) h Kn => law46_FastpatternOnce_l7 seen_4a seen_4n seen_4c Q s h Kn) 0 h
def law46_FastpatternOnce_l1 (l_0a : Option Addr) (l_0n l_0c : Nat) (g_3a : Option Addr) (g_3n g_3c : Nat) (seen_4a : Option Addr) (seen_4n seen_4c : Nat) (Q : QT) (i_5 : Int) (h : Heap) (Kn1 : Int → Heap → Prop) : Prop :=
 if (decide (i_5 < ((g_3n : Nat) : Int))) = true then (idxA i_5 g_3n (nn g_3a fun t32 => ldL h (Addr.add (Addr.add t32 ((i_5).toNat * 5)) 3) fun t34a t34n t34c => idxA i_5 g_3n (nn g_3a fun t38 => ldL h (Addr.add (Addr.add t38 ((i_5).toNat * 5)) 2) fun t40a t40n t40c => if (((t34n : Nat) : Int) != ((t40n : Nat) : Int)) = true then (Q (.bool false) h) else (LoopV (fun (s : Int) h Kn => law46_FastpatternOnce_l2 l_0a l_0n l_0c g_3a g_3n g_3c seen_4a seen_4n seen_4c i_5 Q Kn1 s h Kn) 0 h)))) else (law46_FastpatternOnce_b4 seen_4a seen_4n seen_4c Q h)
def law46_FastpatternOnce_v (l_0a : Option Addr) (l_0n l_0c : Nat) (Q : QT) (h : Heap) : Prop :=
 CallT Try.prog fn_law46_lives #[] h fun v h1 => ∃ t14 : Bool, v = .bool t14 ∧ if (!t14) = true then (Q (.bool false) h1) else (CallT Try.prog fn_law46_short #[.slice l_0a l_0n l_0c] h1 fun v h2 => ∃ t17 : Bool, v = .bool t17 ∧ if (!t17) = true then (Q (.bool true) h2) else (CallT Try.prog fn_fastpattern_Groups #[.slice l_0a l_0n l_0c] h2 fun v h3 => ∃ t20a : Option Addr, ∃ t20n : Nat, ∃ t20c : Nat, v = .slice t20a t20n t20c ∧ mkSlV Try.prog T_sl_int (.int .i64 ((l_0n : Nat) : Int)) (.int .i64 ((l_0n : Nat) : Int)) h3 fun v h4 => ∃ t23a : Option Addr, ∃ t23n : Nat, ∃ t23c : Nat, v = .slice t23a t23n t23c ∧ LoopV (fun (s : Int) h Kn => law46_FastpatternOnce_l1 l_0a l_0n l_0c t20a t20n t20c t23a t23n t23c Q s h Kn) 0 h4))
set_option maxRecDepth 100000 in
theorem law46_FastpatternOnce_s (l_0a : Option Addr) (l_0n l_0c : Nat) {Q : QT} {h : Heap} (hk : law46_FastpatternOnce_v l_0a l_0n l_0c Q h) : CallT Try.prog fn_law46_FastpatternOnce #[.slice l_0a l_0n l_0c] h Q :=
 callU follows Try.func6 (Try.call6 _) rfl rfl [(66, fun e h => dL (e 4) fun seen_4a seen_4n seen_4c => law46_FastpatternOnce_b4 seen_4a seen_4n seen_4c Q h)] [(18, fun e h => dL (e 0) fun l_0a l_0n l_0c => dL (e 3) fun g_3a g_3n g_3c => dL (e 4) fun seen_4a seen_4n seen_4c => dI .i64 (e 5) fun i_5 => LoopV (fun (s : Int) h Kn => law46_FastpatternOnce_l1 l_0a l_0n l_0c g_3a g_3n g_3c seen_4a seen_4n seen_4c Q s h Kn) i_5 h), (68, fun e h => dL (e 4) fun seen_4a seen_4n seen_4c => dI .i64 (e 13) fun i_13 => LoopV (fun (s : Int) h Kn => law46_FastpatternOnce_l7 seen_4a seen_4n seen_4c Q s h Kn) i_13 h)]
 ⟨fun e h _ hk => by
 have F := Ag.nil (e := e)
 have ⟨seen_4a, seen_4n, seen_4c, F, hk⟩ := eL F hk
 exact cutU F (by as_aux_lemma => kernel_rfl) hk, trivial⟩
 ⟨⟨by kernel_rfl, fun e h he hk => by
 have F := Ag.nil (e := e)
 have ⟨l_0a, l_0n, l_0c, F, hk⟩ := eL F hk
 have ⟨g_3a, g_3n, g_3c, F, hk⟩ := eL F hk
 have ⟨seen_4a, seen_4n, seen_4c, F, hk⟩ := eL F hk
 have ⟨i_5, F, hk⟩ := eI F hk
 exact loopU (s0 := i_5) follows (fun _ h => by cases h) he F (fun s => [(5, .int .i64 s)]) (by kernel_rfl) (F.take 1) hk (fun Kn1 e h => dI .i64 (e 5) fun i_5 => Kn1 i_5 h) (fun Kn1 e h hk => by
  have F := Ag.nil (e := e)
  have ⟨i_5, F, hk⟩ := eI F hk
  exact ⟨i_5, F, hk⟩)
  (fun Kn1 => [(40, fun e h => dL (e 0) fun l_0a l_0n l_0c => dL (e 3) fun g_3a g_3n g_3c => dL (e 4) fun seen_4a seen_4n seen_4c => dI .i64 (e 5) fun i_5 => law46_FastpatternOnce_b3 l_0a l_0n l_0c g_3a g_3n g_3c seen_4a seen_4n seen_4c i_5 Q Kn1 h)]) (fun Kn1 => [(28, fun e h => dL (e 0) fun l_0a l_0n l_0c => dL (e 3) fun g_3a g_3n g_3c => dL (e 4) fun seen_4a seen_4n seen_4c => dI .i64 (e 5) fun i_5 => dI .i64 (e 6) fun k_6 => LoopV (fun (s : Int) h Kn => law46_FastpatternOnce_l2 l_0a l_0n l_0c g_3a g_3n g_3c seen_4a seen_4n seen_4c i_5 Q Kn1 s h Kn) k_6 h), (42, fun e h => dL (e 0) fun l_0a l_0n l_0c => dL (e 3) fun g_3a g_3n g_3c => dL (e 4) fun seen_4a seen_4n seen_4c => dI .i64 (e 5) fun i_5 => dI .i64 (e 8) fun k_8 => LoopV (fun (s : Int) h Kn => law46_FastpatternOnce_l5 l_0a l_0n l_0c g_3a g_3n g_3c seen_4a seen_4n seen_4c i_5 Q Kn1 s h Kn) k_8 h)])
  (fun Kn1 => ⟨fun e h _ hk => by
 have F := Ag.nil (e := e)
 have ⟨l_0a, l_0n, l_0c, F, hk⟩ := eL F hk
 have ⟨g_3a, g_3n, g_3c, F, hk⟩ := eL F hk
 have ⟨seen_4a, seen_4n, seen_4c, F, hk⟩ := eL F hk
 have ⟨i_5, F, hk⟩ := eI F hk
 exact cutU F (by as_aux_lemma => kernel_rfl) hk, trivial⟩)
  (fun Kn1 => ⟨⟨by kernel_rfl, fun e h he hk => by
 have F := Ag.nil (e := e)
 have ⟨l_0a, l_0n, l_0c, F, hk⟩ := eL F hk
 have ⟨g_3a, g_3n, g_3c, F, hk⟩ := eL F hk
 have ⟨seen_4a, seen_4n, seen_4c, F, hk⟩ := eL F hk
 have ⟨i_5, F, hk⟩ := eI F hk
 have ⟨k_6, F, hk⟩ := eI F hk
 exact loopU (s0 := k_6) follows (keep_sub (by kernel_rfl)) he F (fun s => [(6, .int .i64 s)]) (by kernel_rfl) (F.take 1) hk (fun Kn2 e h => dI .i64 (e 6) fun k_6 => Kn2 k_6 h) (fun Kn2 e h hk => by
  have F := Ag.nil (e := e)
  have ⟨k_6, F, hk⟩ := eI F hk
  exact ⟨k_6, F, hk⟩)
  (fun Kn2 => [(36, fun e h => dL (e 0) fun l_0a l_0n l_0c => dL (e 3) fun g_3a g_3n g_3c => dL (e 4) fun seen_4a seen_4n seen_4c => dI .i64 (e 5) fun i_5 => dI .i64 (e 6) fun k_6 => dI .i64 (e 7) fun n_7 => dB (e 89) fun t89 => law46_FastpatternOnce_b10 l_0a l_0n l_0c g_3a g_3n g_3c seen_4a seen_4n seen_4c i_5 k_6 n_7 t89 Q Kn1 Kn2 h)]) (fun Kn2 => [])
  (fun Kn2 => ⟨fun e h _ hk => by
 have F := Ag.nil (e := e)
 have ⟨l_0a, l_0n, l_0c, F, hk⟩ := eL F hk
 have ⟨g_3a, g_3n, g_3c, F, hk⟩ := eL F hk
 have ⟨seen_4a, seen_4n, seen_4c, F, hk⟩ := eL F hk
 have ⟨i_5, F, hk⟩ := eI F hk
 have ⟨k_6, F, hk⟩ := eI F hk
 have ⟨n_7, F, hk⟩ := eI F hk
 have ⟨t89, F, hk⟩ := eB F hk
 exact cutU F (by as_aux_lemma => kernel_rfl) hk, trivial⟩)
  (fun Kn2 => trivial) (fun e s h Kn2 => by as_aux_lemma => kernel_rfl)⟩, ⟨by kernel_rfl, fun e h he hk => by
 have F := Ag.nil (e := e)
 have ⟨l_0a, l_0n, l_0c, F, hk⟩ := eL F hk
 have ⟨g_3a, g_3n, g_3c, F, hk⟩ := eL F hk
 have ⟨seen_4a, seen_4n, seen_4c, F, hk⟩ := eL F hk
 have ⟨i_5, F, hk⟩ := eI F hk
 have ⟨k_8, F, hk⟩ := eI F hk
 exact loopU (s0 := k_8) follows (keep_sub (by kernel_rfl)) he F (fun s => [(8, .int .i64 s)]) (by kernel_rfl) (F.take 1) hk (fun Kn5 e h => dI .i64 (e 8) fun k_8 => Kn5 k_8 h) (fun Kn5 e h hk => by
  have F := Ag.nil (e := e)
  have ⟨k_8, F, hk⟩ := eI F hk
  exact ⟨k_8, F, hk⟩)
  (fun Kn5 => []) (fun Kn5 => [(48, fun e h => dL (e 0) fun l_0a l_0n l_0c => dL (e 3) fun g_3a g_3n g_3c => dL (e 4) fun seen_4a seen_4n seen_4c => dI .i64 (e 5) fun i_5 => dI .i64 (e 8) fun k_8 => dI .i64 (e 9) fun j_9 => LoopV (fun (s : Int) h Kn => law46_FastpatternOnce_l6 l_0a l_0n l_0c g_3a g_3n g_3c seen_4a seen_4n seen_4c i_5 k_8 Q Kn1 Kn5 s h Kn) j_9 h)])
  (fun Kn5 => trivial)
  (fun Kn5 => ⟨⟨by kernel_rfl, fun e h he hk => by
 have F := Ag.nil (e := e)
 have ⟨l_0a, l_0n, l_0c, F, hk⟩ := eL F hk
 have ⟨g_3a, g_3n, g_3c, F, hk⟩ := eL F hk
 have ⟨seen_4a, seen_4n, seen_4c, F, hk⟩ := eL F hk
 have ⟨i_5, F, hk⟩ := eI F hk
 have ⟨k_8, F, hk⟩ := eI F hk
 have ⟨j_9, F, hk⟩ := eI F hk
 exact loopU (s0 := j_9) follows (keep_sub (by kernel_rfl)) he F (fun s => [(9, .int .i64 s)]) (by kernel_rfl) (F.take 1) hk (fun Kn6 e h => dI .i64 (e 9) fun j_9 => Kn6 j_9 h) (fun Kn6 e h hk => by
  have F := Ag.nil (e := e)
  have ⟨j_9, F, hk⟩ := eI F hk
  exact ⟨j_9, F, hk⟩)
  (fun Kn6 => [(58, fun e h => dL (e 0) fun l_0a l_0n l_0c => dL (e 3) fun g_3a g_3n g_3c => dL (e 4) fun seen_4a seen_4n seen_4c => dI .i64 (e 5) fun i_5 => dI .i64 (e 8) fun k_8 => dI .i64 (e 9) fun j_9 => dI .i64 (e 10) fun n_10 => law46_FastpatternOnce_b8 l_0a l_0n l_0c g_3a g_3n g_3c seen_4a seen_4n seen_4c i_5 k_8 j_9 n_10 Q Kn1 Kn5 Kn6 h), (62, fun e h => dL (e 0) fun l_0a l_0n l_0c => dL (e 3) fun g_3a g_3n g_3c => dL (e 4) fun seen_4a seen_4n seen_4c => dI .i64 (e 5) fun i_5 => dI .i64 (e 8) fun k_8 => dI .i64 (e 9) fun j_9 => dI .i64 (e 10) fun n_10 => dB (e 192) fun t192 => law46_FastpatternOnce_b9 l_0a l_0n l_0c g_3a g_3n g_3c seen_4a seen_4n seen_4c i_5 k_8 j_9 n_10 t192 Q Kn1 Kn5 Kn6 h)]) (fun Kn6 => [])
  (fun Kn6 => ⟨fun e h _ hk => by
 have F := Ag.nil (e := e)
 have ⟨l_0a, l_0n, l_0c, F, hk⟩ := eL F hk
 have ⟨g_3a, g_3n, g_3c, F, hk⟩ := eL F hk
 have ⟨seen_4a, seen_4n, seen_4c, F, hk⟩ := eL F hk
 have ⟨i_5, F, hk⟩ := eI F hk
 have ⟨k_8, F, hk⟩ := eI F hk
 have ⟨j_9, F, hk⟩ := eI F hk
 have ⟨n_10, F, hk⟩ := eI F hk
 exact cutU F (by as_aux_lemma => kernel_rfl) hk, fun e h _ hk => by
 have F := Ag.nil (e := e)
 have ⟨l_0a, l_0n, l_0c, F, hk⟩ := eL F hk
 have ⟨g_3a, g_3n, g_3c, F, hk⟩ := eL F hk
 have ⟨seen_4a, seen_4n, seen_4c, F, hk⟩ := eL F hk
 have ⟨i_5, F, hk⟩ := eI F hk
 have ⟨k_8, F, hk⟩ := eI F hk
 have ⟨j_9, F, hk⟩ := eI F hk
 have ⟨n_10, F, hk⟩ := eI F hk
 have ⟨t192, F, hk⟩ := eB F hk
 exact cutU F (by as_aux_lemma => kernel_rfl) hk, trivial⟩)
  (fun Kn6 => trivial) (fun e s h Kn6 => by as_aux_lemma => kernel_rfl)⟩, trivial⟩) (fun e s h Kn5 => by as_aux_lemma => kernel_rfl)⟩, trivial⟩) (fun e s h Kn1 => by as_aux_lemma => kernel_rfl)⟩, ⟨by kernel_rfl, fun e h he hk => by
 have F := Ag.nil (e := e)
 have ⟨seen_4a, seen_4n, seen_4c, F, hk⟩ := eL F hk
 have ⟨i_13, F, hk⟩ := eI F hk
 exact loopU (s0 := i_13) follows (fun _ h => by cases h) he F (fun s => [(13, .int .i64 s)]) (by kernel_rfl) (F.take 1) hk (fun Kn7 e h => dI .i64 (e 13) fun i_13 => Kn7 i_13 h) (fun Kn7 e h hk => by
  have F := Ag.nil (e := e)
  have ⟨i_13, F, hk⟩ := eI F hk
  exact ⟨i_13, F, hk⟩)
  (fun Kn7 => []) (fun Kn7 => [])
  (fun Kn7 => trivial)
  (fun Kn7 => trivial) (fun e s h Kn7 => by as_aux_lemma => kernel_rfl)⟩, trivial⟩ (by as_aux_lemma => kernel_rfl) hk
/-! ### intrusion/intrusionlaw46.FastpatternBest -/
def law46_FastpatternBest_l1 (r_1 : Addr) (i_3 : Int) (Q : QT) (k_4 : Int) (h : Heap) (Kn1 : Int → Heap → Prop) : Prop :=
 ldL h (Addr.add r_1 14) fun t45a t45n t45c => if (decide (k_4 < ((t45n : Nat) : Int))) = true then (ldL h (Addr.add r_1 14) fun t51a t51n t51c => idxA k_4 t51n (nn t51a fun t53 => ldS h (Addr.add t53 ((k_4).toNat * 7)) fun t54_0 => ldB h (Addr.add (Addr.add t53 ((k_4).toNat * 7)) 1) fun t54_1 => ldB h (Addr.add (Addr.add t53 ((k_4).toNat * 7)) 2) fun t54_2 => ldB h (Addr.add (Addr.add t53 ((k_4).toNat * 7)) 3) fun t54_3 => ldI h (Addr.add (Addr.add t53 ((k_4).toNat * 7)) 4) .i64 fun t54_4 => ldI h (Addr.add (Addr.add t53 ((k_4).toNat * 7)) 5) .i64 fun t54_5 => ldB h (Addr.add (Addr.add t53 ((k_4).toNat * 7)) 6) fun t54_6 => alV h (.cells #[.string (⟨#[]⟩ : ByteArray), .bool false, .bool false, .bool false, .int .i64 0, .int .i64 0, .bool false] T_api_Content) fun t5 h5 => stN h5 t5 [.string t54_0, .bool t54_1, .bool t54_2, .bool t54_3, .int .i64 t54_4, .int .i64 t54_5, .bool t54_6] 0 fun h6 => ldB h6 (Addr.add t5 2) fun t56 => if t56 = true then (Kn1 (wrap .i64 (k_4 + 1)) h6) else (ldS h6 t5 fun t59 => if (t59.toList == (⟨#[]⟩ : ByteArray).toList) = true then (Kn1 (wrap .i64 (k_4 + 1)) h6) else (if (decide (i_3 < 0)) = true then (Q (.bool false) h6) else (ldB h6 (Addr.add t5 6) fun t66 => if t66 = true then (ldL h6 (Addr.add r_1 14) fun t69a t69n t69c => idxA i_3 t69n (nn t69a fun t71 => ldB h6 (Addr.add (Addr.add t71 ((i_3).toNat * 7)) 6) fun t73 => if (!t73) = true then (Q (.bool false) h6) else (ldL h6 (Addr.add r_1 14) fun t79a t79n t79c => idxA i_3 t79n (nn t79a fun t81 => ldB h6 (Addr.add (Addr.add t81 ((i_3).toNat * 7)) 6) fun t83 => if (!t83) = true then (ldS h6 t5 fun t87 => ldL h6 (Addr.add r_1 14) fun t90a t90n t90c => idxA i_3 t90n (nn t90a fun t92 => ldS h6 (Addr.add t92 ((i_3).toNat * 7)) fun t94 => CallT Try.prog fn_fastpattern_Score #[.string t87] h6 fun v h7 => ∃ t88 : Int, v = .int .i64 t88 ∧ (ldL h7 (Addr.add r_1 14) fun t990a t990n t990c => (.slice t990a t990n t990c : Value) = .slice t90a t90n t90c) ∧ (ldS h7 (Addr.add t92 ((i_3).toNat * 7)) fun t994 => (.string t994 : Value) = .string t94) ∧ CallT Try.prog fn_fastpattern_Score #[.string t94] h7 fun v h8 => ∃ t95 : Int, v = .int .i64 t95 ∧ if (decide (t88 > t95)) = true then (Q (.bool false) h8) else (Kn1 (wrap .i64 (k_4 + 1)) h8))) else (Kn1 (wrap .i64 (k_4 + 1)) h6))))) else (ldL h6 (Addr.add r_1 14) fun t79a t79n t79c => idxA i_3 t79n (nn t79a fun t81 => ldB h6 (Addr.add (Addr.add t81 ((i_3).toNat * 7)) 6) fun t83 => if (!t83) = true then (ldS h6 t5 fun t87 => ldL h6 (Addr.add r_1 14) fun t90a t90n t90c => idxA i_3 t90n (nn t90a fun t92 => ldS h6 (Addr.add t92 ((i_3).toNat * 7)) fun t94 => CallT Try.prog fn_fastpattern_Score #[.string t87] h6 fun v h9 => ∃ t88 : Int, v = .int .i64 t88 ∧ (ldL h9 (Addr.add r_1 14) fun t990a t990n t990c => (.slice t990a t990n t990c : Value) = .slice t90a t90n t90c) ∧ (ldS h9 (Addr.add t92 ((i_3).toNat * 7)) fun t994 => (.string t994 : Value) = .string t94) ∧ CallT Try.prog fn_fastpattern_Score #[.string t94] h9 fun v h10 => ∃ t95 : Int, v = .int .i64 t95 ∧ if (decide (t88 > t95)) = true then (Q (.bool false) h10) else (Kn1 (wrap .i64 (k_4 + 1)) h10))) else (Kn1 (wrap .i64 (k_4 + 1)) h6)))))))) else (Q (.bool true) h)
def law46_FastpatternBest_v (r_0_0 r_0_1 : Int) (r_0_2a : Option Addr) (r_0_2n r_0_2c : Nat) (r_0_3a : Option Addr) (r_0_3n r_0_3c : Nat) (r_0_4a : Option Addr) (r_0_4n r_0_4c : Nat) (r_0_5a : Option Addr) (r_0_5n r_0_5c : Nat) (r_0_6 : Bool) (r_0_7 r_0_8 r_0_9 : Int) (r_0_10 : ByteArray) (r_0_11 r_0_12 : Int) (r_0_13a : Option Addr) (r_0_13n r_0_13c : Nat) (r_0_14a : Option Addr) (r_0_14n r_0_14c : Nat) (r_0_15a : Option Addr) (r_0_15n r_0_15c : Nat) (r_0_16a : Option Addr) (r_0_16n r_0_16c : Nat) (r_0_17 r_0_18 r_0_19 r_0_20 : Int) (Q : QT) (h : Heap) : Prop :=
 alV h (.cells #[.int .i64 r_0_0, .int .i64 r_0_1, .slice r_0_2a r_0_2n r_0_2c, .slice r_0_3a r_0_3n r_0_3c, .slice r_0_4a r_0_4n r_0_4c, .slice r_0_5a r_0_5n r_0_5c, .bool r_0_6, .int .i64 r_0_7, .int .i64 r_0_8, .int .i64 r_0_9, .string r_0_10, .int .i64 r_0_11, .int .i64 r_0_12, .slice r_0_13a r_0_13n r_0_13c, .slice r_0_14a r_0_14n r_0_14c, .slice r_0_15a r_0_15n r_0_15c, .slice r_0_16a r_0_16n r_0_16c, .int .i64 r_0_17, .int .i64 r_0_18, .int .i64 r_0_19, .int .i64 r_0_20] T_api_Rule) fun t1 h1 => CallT Try.prog fn_law46_lives #[] h1 fun v h2 => ∃ t6 : Bool, v = .bool t6 ∧ if (!t6) = true then (Q (.bool false) h2) else (ldI h2 t1 .i64 fun t8_0 => ldI h2 (Addr.add t1 1) .i64 fun t8_1 => ldL h2 (Addr.add t1 2) fun t8_2a t8_2n t8_2c => ldL h2 (Addr.add t1 3) fun t8_3a t8_3n t8_3c => ldL h2 (Addr.add t1 4) fun t8_4a t8_4n t8_4c => ldL h2 (Addr.add t1 5) fun t8_5a t8_5n t8_5c => ldB h2 (Addr.add t1 6) fun t8_6 => ldI h2 (Addr.add t1 7) .i64 fun t8_7 => ldI h2 (Addr.add t1 8) .i64 fun t8_8 => ldI h2 (Addr.add t1 9) .i64 fun t8_9 => ldS h2 (Addr.add t1 10) fun t8_10 => ldI h2 (Addr.add t1 11) .i64 fun t8_11 => ldI h2 (Addr.add t1 12) .i64 fun t8_12 => ldL h2 (Addr.add t1 13) fun t8_13a t8_13n t8_13c => ldL h2 (Addr.add t1 14) fun t8_14a t8_14n t8_14c => ldL h2 (Addr.add t1 15) fun t8_15a t8_15n t8_15c => ldL h2 (Addr.add t1 16) fun t8_16a t8_16n t8_16c => ldI h2 (Addr.add t1 17) .i64 fun t8_17 => ldI h2 (Addr.add t1 18) .i64 fun t8_18 => ldI h2 (Addr.add t1 19) .i64 fun t8_19 => ldI h2 (Addr.add t1 20) .i64 fun t8_20 => CallT Try.prog fn_ref43_Short #[.agg #[.int .i64 t8_0, .int .i64 t8_1, .slice t8_2a t8_2n t8_2c, .slice t8_3a t8_3n t8_3c, .slice t8_4a t8_4n t8_4c, .slice t8_5a t8_5n t8_5c, .bool t8_6, .int .i64 t8_7, .int .i64 t8_8, .int .i64 t8_9, .string t8_10, .int .i64 t8_11, .int .i64 t8_12, .slice t8_13a t8_13n t8_13c, .slice t8_14a t8_14n t8_14c, .slice t8_15a t8_15n t8_15c, .slice t8_16a t8_16n t8_16c, .int .i64 t8_17, .int .i64 t8_18, .int .i64 t8_19, .int .i64 t8_20]] h2 fun v h3 => ∃ t9 : Bool, v = .bool t9 ∧ if (!t9) = true then (Q (.bool true) h3) else (ldI h3 t1 .i64 fun t11_0 => ldI h3 (Addr.add t1 1) .i64 fun t11_1 => ldL h3 (Addr.add t1 2) fun t11_2a t11_2n t11_2c => ldL h3 (Addr.add t1 3) fun t11_3a t11_3n t11_3c => ldL h3 (Addr.add t1 4) fun t11_4a t11_4n t11_4c => ldL h3 (Addr.add t1 5) fun t11_5a t11_5n t11_5c => ldB h3 (Addr.add t1 6) fun t11_6 => ldI h3 (Addr.add t1 7) .i64 fun t11_7 => ldI h3 (Addr.add t1 8) .i64 fun t11_8 => ldI h3 (Addr.add t1 9) .i64 fun t11_9 => ldS h3 (Addr.add t1 10) fun t11_10 => ldI h3 (Addr.add t1 11) .i64 fun t11_11 => ldI h3 (Addr.add t1 12) .i64 fun t11_12 => ldL h3 (Addr.add t1 13) fun t11_13a t11_13n t11_13c => ldL h3 (Addr.add t1 14) fun t11_14a t11_14n t11_14c => ldL h3 (Addr.add t1 15) fun t11_15a t11_15n t11_15c => ldL h3 (Addr.add t1 16) fun t11_16a t11_16n t11_16c => ldI h3 (Addr.add t1 17) .i64 fun t11_17 => ldI h3 (Addr.add t1 18) .i64 fun t11_18 => ldI h3 (Addr.add t1 19) .i64 fun t11_19 => ldI h3 (Addr.add t1 20) .i64 fun t11_20 => CallT Try.prog fn_fastpattern_Choose #[.agg #[.int .i64 t11_0, .int .i64 t11_1, .slice t11_2a t11_2n t11_2c, .slice t11_3a t11_3n t11_3c, .slice t11_4a t11_4n t11_4c, .slice t11_5a t11_5n t11_5c, .bool t11_6, .int .i64 t11_7, .int .i64 t11_8, .int .i64 t11_9, .string t11_10, .int .i64 t11_11, .int .i64 t11_12, .slice t11_13a t11_13n t11_13c, .slice t11_14a t11_14n t11_14c, .slice t11_15a t11_15n t11_15c, .slice t11_16a t11_16n t11_16c, .int .i64 t11_17, .int .i64 t11_18, .int .i64 t11_19, .int .i64 t11_20]] h3 fun v h4 => ∃ t12 : Int, v = .int .i64 t12 ∧ if (decide (t12 < (-1))) = true then (Q (.bool false) h4) else (ldL h4 (Addr.add t1 14) fun t18a t18n t18c => if (decide (t12 ≥ ((t18n : Nat) : Int))) = true then (Q (.bool false) h4) else (if (decide (t12 ≥ 0)) = true then (ldL h4 (Addr.add t1 14) fun t27a t27n t27c => idxA t12 t27n (nn t27a fun t29 => ldB h4 (Addr.add (Addr.add t29 ((t12).toNat * 7)) 2) fun t31 => if t31 = true then (Q (.bool false) h4) else (ldL h4 (Addr.add t1 14) fun t34a t34n t34c => idxA t12 t34n (nn t34a fun t36 => ldS h4 (Addr.add t36 ((t12).toNat * 7)) fun t38 => if (t38.toList == (⟨#[]⟩ : ByteArray).toList) = true then (Q (.bool false) h4) else (LoopV (fun (s : Int) h Kn => law46_FastpatternBest_l1 t1 t12 Q s h Kn) 0 h4))))) else (LoopV (fun (s : Int) h Kn => law46_FastpatternBest_l1 t1 t12 Q s h Kn) 0 h4)))))
set_option maxRecDepth 100000 in
theorem law46_FastpatternBest_s (r_0_0 r_0_1 : Int) (r_0_2a : Option Addr) (r_0_2n r_0_2c : Nat) (r_0_3a : Option Addr) (r_0_3n r_0_3c : Nat) (r_0_4a : Option Addr) (r_0_4n r_0_4c : Nat) (r_0_5a : Option Addr) (r_0_5n r_0_5c : Nat) (r_0_6 : Bool) (r_0_7 r_0_8 r_0_9 : Int) (r_0_10 : ByteArray) (r_0_11 r_0_12 : Int) (r_0_13a : Option Addr) (r_0_13n r_0_13c : Nat) (r_0_14a : Option Addr) (r_0_14n r_0_14c : Nat) (r_0_15a : Option Addr) (r_0_15n r_0_15c : Nat) (r_0_16a : Option Addr) (r_0_16n r_0_16c : Nat) (r_0_17 r_0_18 r_0_19 r_0_20 : Int) {Q : QT} {h : Heap} (hk : law46_FastpatternBest_v r_0_0 r_0_1 r_0_2a r_0_2n r_0_2c r_0_3a r_0_3n r_0_3c r_0_4a r_0_4n r_0_4c r_0_5a r_0_5n r_0_5c r_0_6 r_0_7 r_0_8 r_0_9 r_0_10 r_0_11 r_0_12 r_0_13a r_0_13n r_0_13c r_0_14a r_0_14n r_0_14c r_0_15a r_0_15n r_0_15c r_0_16a r_0_16n r_0_16c r_0_17 r_0_18 r_0_19 r_0_20 Q h) : CallT Try.prog fn_law46_FastpatternBest #[.agg #[.int .i64 r_0_0, .int .i64 r_0_1, .slice r_0_2a r_0_2n r_0_2c, .slice r_0_3a r_0_3n r_0_3c, .slice r_0_4a r_0_4n r_0_4c, .slice r_0_5a r_0_5n r_0_5c, .bool r_0_6, .int .i64 r_0_7, .int .i64 r_0_8, .int .i64 r_0_9, .string r_0_10, .int .i64 r_0_11, .int .i64 r_0_12, .slice r_0_13a r_0_13n r_0_13c, .slice r_0_14a r_0_14n r_0_14c, .slice r_0_15a r_0_15n r_0_15c, .slice r_0_16a r_0_16n r_0_16c, .int .i64 r_0_17, .int .i64 r_0_18, .int .i64 r_0_19, .int .i64 r_0_20]] h Q :=
 callU follows Try.func7 (Try.call7 _) rfl rfl [] [(20, fun e h => dA (e 1) fun r_1 => dI .i64 (e 3) fun i_3 => dI .i64 (e 4) fun k_4 => LoopV (fun (s : Int) h Kn => law46_FastpatternBest_l1 r_1 i_3 Q s h Kn) k_4 h)]
 trivial
 ⟨⟨by kernel_rfl, fun e h he hk => by
 have F := Ag.nil (e := e)
 have ⟨r_1, F, hk⟩ := eA F hk
 have ⟨i_3, F, hk⟩ := eI F hk
 have ⟨k_4, F, hk⟩ := eI F hk
 exact loopU (s0 := k_4) follows (fun _ h => by cases h) he F (fun s => [(4, .int .i64 s)]) (by kernel_rfl) (F.take 1) hk (fun Kn1 e h => dI .i64 (e 4) fun k_4 => Kn1 k_4 h) (fun Kn1 e h hk => by
  have F := Ag.nil (e := e)
  have ⟨k_4, F, hk⟩ := eI F hk
  exact ⟨k_4, F, hk⟩)
  (fun Kn1 => []) (fun Kn1 => [])
  (fun Kn1 => trivial)
  (fun Kn1 => trivial) (fun e s h Kn1 => by as_aux_lemma => kernel_rfl)⟩, trivial⟩ (by as_aux_lemma => kernel_rfl) hk
/-! ### intrusion/intrusionlaw46.FastpatternNecessary -/
def law46_FastpatternNecessary_b1 (data_1 : ByteArray) (r_2 : Addr) (t20 : Bool) (Q : QT) (h : Heap) : Prop :=
 if t20 = true then (Q (.bool true) h) else (ldI h r_2 .i64 fun t22_0 => ldI h (Addr.add r_2 1) .i64 fun t22_1 => ldL h (Addr.add r_2 2) fun t22_2a t22_2n t22_2c => ldL h (Addr.add r_2 3) fun t22_3a t22_3n t22_3c => ldL h (Addr.add r_2 4) fun t22_4a t22_4n t22_4c => ldL h (Addr.add r_2 5) fun t22_5a t22_5n t22_5c => ldB h (Addr.add r_2 6) fun t22_6 => ldI h (Addr.add r_2 7) .i64 fun t22_7 => ldI h (Addr.add r_2 8) .i64 fun t22_8 => ldI h (Addr.add r_2 9) .i64 fun t22_9 => ldS h (Addr.add r_2 10) fun t22_10 => ldI h (Addr.add r_2 11) .i64 fun t22_11 => ldI h (Addr.add r_2 12) .i64 fun t22_12 => ldL h (Addr.add r_2 13) fun t22_13a t22_13n t22_13c => ldL h (Addr.add r_2 14) fun t22_14a t22_14n t22_14c => ldL h (Addr.add r_2 15) fun t22_15a t22_15n t22_15c => ldL h (Addr.add r_2 16) fun t22_16a t22_16n t22_16c => ldI h (Addr.add r_2 17) .i64 fun t22_17 => ldI h (Addr.add r_2 18) .i64 fun t22_18 => ldI h (Addr.add r_2 19) .i64 fun t22_19 => ldI h (Addr.add r_2 20) .i64 fun t22_20 => CallT Try.prog fn_fastpattern_Pattern #[.agg #[.int .i64 t22_0, .int .i64 t22_1, .slice t22_2a t22_2n t22_2c, .slice t22_3a t22_3n t22_3c, .slice t22_4a t22_4n t22_4c, .slice t22_5a t22_5n t22_5c, .bool t22_6, .int .i64 t22_7, .int .i64 t22_8, .int .i64 t22_9, .string t22_10, .int .i64 t22_11, .int .i64 t22_12, .slice t22_13a t22_13n t22_13c, .slice t22_14a t22_14n t22_14c, .slice t22_15a t22_15n t22_15c, .slice t22_16a t22_16n t22_16c, .int .i64 t22_17, .int .i64 t22_18, .int .i64 t22_19, .int .i64 t22_20]] h fun v h4 => ∃ t23_0_0 : ByteArray, ∃ t23_0_1 : Bool, ∃ t23_1 : Bool, v = .tuple #[.agg #[.string t23_0_0, .bool t23_0_1], .bool t23_1] ∧ alV h4 (.cells #[.string (⟨#[]⟩ : ByteArray), .bool false] T_api_Pattern) fun t5 h5 => stN h5 t5 [.string t23_0_0, .bool t23_0_1] 0 fun h6 => if (!t23_1) = true then (ldI h6 r_2 .i64 fun t28_0 => ldI h6 (Addr.add r_2 1) .i64 fun t28_1 => ldL h6 (Addr.add r_2 2) fun t28_2a t28_2n t28_2c => ldL h6 (Addr.add r_2 3) fun t28_3a t28_3n t28_3c => ldL h6 (Addr.add r_2 4) fun t28_4a t28_4n t28_4c => ldL h6 (Addr.add r_2 5) fun t28_5a t28_5n t28_5c => ldB h6 (Addr.add r_2 6) fun t28_6 => ldI h6 (Addr.add r_2 7) .i64 fun t28_7 => ldI h6 (Addr.add r_2 8) .i64 fun t28_8 => ldI h6 (Addr.add r_2 9) .i64 fun t28_9 => ldS h6 (Addr.add r_2 10) fun t28_10 => ldI h6 (Addr.add r_2 11) .i64 fun t28_11 => ldI h6 (Addr.add r_2 12) .i64 fun t28_12 => ldL h6 (Addr.add r_2 13) fun t28_13a t28_13n t28_13c => ldL h6 (Addr.add r_2 14) fun t28_14a t28_14n t28_14c => ldL h6 (Addr.add r_2 15) fun t28_15a t28_15n t28_15c => ldL h6 (Addr.add r_2 16) fun t28_16a t28_16n t28_16c => ldI h6 (Addr.add r_2 17) .i64 fun t28_17 => ldI h6 (Addr.add r_2 18) .i64 fun t28_18 => ldI h6 (Addr.add r_2 19) .i64 fun t28_19 => ldI h6 (Addr.add r_2 20) .i64 fun t28_20 => CallT Try.prog fn_fastpattern_Choose #[.agg #[.int .i64 t28_0, .int .i64 t28_1, .slice t28_2a t28_2n t28_2c, .slice t28_3a t28_3n t28_3c, .slice t28_4a t28_4n t28_4c, .slice t28_5a t28_5n t28_5c, .bool t28_6, .int .i64 t28_7, .int .i64 t28_8, .int .i64 t28_9, .string t28_10, .int .i64 t28_11, .int .i64 t28_12, .slice t28_13a t28_13n t28_13c, .slice t28_14a t28_14n t28_14c, .slice t28_15a t28_15n t28_15c, .slice t28_16a t28_16n t28_16c, .int .i64 t28_17, .int .i64 t28_18, .int .i64 t28_19, .int .i64 t28_20]] h6 fun v h7 => ∃ t29 : Int, v = .int .i64 t29 ∧ Q (.bool (t29 == (-1))) h7) else (ldL h6 (Addr.add r_2 14) fun t33a t33n t33c => ldL h6 (Addr.add r_2 15) fun t35a t35n t35c => CallT Try.prog fn_content_Match #[.slice t33a t33n t33c, .slice t35a t35n t35c, .string data_1, .int .i64 3000] h6 fun v h8 => ∃ t37_0 : Bool, ∃ t37_1 : Int, ∃ t37_2 : Int, ∃ t37_3 : Int, v = .tuple #[.bool t37_0, .int .i64 t37_1, .int .i64 t37_2, .int .i64 t37_3] ∧ if (!t37_0) = true then (Q (.bool true) h8) else (ldS h8 t5 fun t45_0 => ldB h8 (Addr.add t5 1) fun t45_1 => alV h8 (.cells #[.string t45_0, .bool t45_1] T_api_Pattern) fun t46 h9 => CallT Try.prog fn_automaton_Plain #[.slice (some t46) 1 1, .string data_1] h9 fun v h10 => ∃ t48a : Option Addr, ∃ t48n : Nat, ∃ t48c : Nat, v = .slice t48a t48n t48c ∧ Q (.bool (decide (((t48n : Nat) : Int) > 0))) h10)))
def law46_FastpatternNecessary_v (r_0_0 r_0_1 : Int) (r_0_2a : Option Addr) (r_0_2n r_0_2c : Nat) (r_0_3a : Option Addr) (r_0_3n r_0_3c : Nat) (r_0_4a : Option Addr) (r_0_4n r_0_4c : Nat) (r_0_5a : Option Addr) (r_0_5n r_0_5c : Nat) (r_0_6 : Bool) (r_0_7 r_0_8 r_0_9 : Int) (r_0_10 : ByteArray) (r_0_11 r_0_12 : Int) (r_0_13a : Option Addr) (r_0_13n r_0_13c : Nat) (r_0_14a : Option Addr) (r_0_14n r_0_14c : Nat) (r_0_15a : Option Addr) (r_0_15n r_0_15c : Nat) (r_0_16a : Option Addr) (r_0_16n r_0_16c : Nat) (r_0_17 r_0_18 r_0_19 r_0_20 : Int) (data_1 : ByteArray) (Q : QT) (h : Heap) : Prop :=
 alV h (.cells #[.int .i64 r_0_0, .int .i64 r_0_1, .slice r_0_2a r_0_2n r_0_2c, .slice r_0_3a r_0_3n r_0_3c, .slice r_0_4a r_0_4n r_0_4c, .slice r_0_5a r_0_5n r_0_5c, .bool r_0_6, .int .i64 r_0_7, .int .i64 r_0_8, .int .i64 r_0_9, .string r_0_10, .int .i64 r_0_11, .int .i64 r_0_12, .slice r_0_13a r_0_13n r_0_13c, .slice r_0_14a r_0_14n r_0_14c, .slice r_0_15a r_0_15n r_0_15c, .slice r_0_16a r_0_16n r_0_16c, .int .i64 r_0_17, .int .i64 r_0_18, .int .i64 r_0_19, .int .i64 r_0_20] T_api_Rule) fun t2 h1 => CallT Try.prog fn_law46_lives #[] h1 fun v h2 => ∃ t11 : Bool, v = .bool t11 ∧ if (!t11) = true then (Q (.bool false) h2) else (ldI h2 t2 .i64 fun t13_0 => ldI h2 (Addr.add t2 1) .i64 fun t13_1 => ldL h2 (Addr.add t2 2) fun t13_2a t13_2n t13_2c => ldL h2 (Addr.add t2 3) fun t13_3a t13_3n t13_3c => ldL h2 (Addr.add t2 4) fun t13_4a t13_4n t13_4c => ldL h2 (Addr.add t2 5) fun t13_5a t13_5n t13_5c => ldB h2 (Addr.add t2 6) fun t13_6 => ldI h2 (Addr.add t2 7) .i64 fun t13_7 => ldI h2 (Addr.add t2 8) .i64 fun t13_8 => ldI h2 (Addr.add t2 9) .i64 fun t13_9 => ldS h2 (Addr.add t2 10) fun t13_10 => ldI h2 (Addr.add t2 11) .i64 fun t13_11 => ldI h2 (Addr.add t2 12) .i64 fun t13_12 => ldL h2 (Addr.add t2 13) fun t13_13a t13_13n t13_13c => ldL h2 (Addr.add t2 14) fun t13_14a t13_14n t13_14c => ldL h2 (Addr.add t2 15) fun t13_15a t13_15n t13_15c => ldL h2 (Addr.add t2 16) fun t13_16a t13_16n t13_16c => ldI h2 (Addr.add t2 17) .i64 fun t13_17 => ldI h2 (Addr.add t2 18) .i64 fun t13_18 => ldI h2 (Addr.add t2 19) .i64 fun t13_19 => ldI h2 (Addr.add t2 20) .i64 fun t13_20 => CallT Try.prog fn_ref43_Check #[.agg #[.int .i64 t13_0, .int .i64 t13_1, .slice t13_2a t13_2n t13_2c, .slice t13_3a t13_3n t13_3c, .slice t13_4a t13_4n t13_4c, .slice t13_5a t13_5n t13_5c, .bool t13_6, .int .i64 t13_7, .int .i64 t13_8, .int .i64 t13_9, .string t13_10, .int .i64 t13_11, .int .i64 t13_12, .slice t13_13a t13_13n t13_13c, .slice t13_14a t13_14n t13_14c, .slice t13_15a t13_15n t13_15c, .slice t13_16a t13_16n t13_16c, .int .i64 t13_17, .int .i64 t13_18, .int .i64 t13_19, .int .i64 t13_20]] h2 fun v h3 => ∃ t14 : Int, v = .int .i64 t14 ∧ if (t14 != 0) = true then (law46_FastpatternNecessary_b1 data_1 t2 true Q h3) else (law46_FastpatternNecessary_b1 data_1 t2 (decide (((data_1.size : Nat) : Int) > 200)) Q h3))
set_option maxRecDepth 100000 in
theorem law46_FastpatternNecessary_s (r_0_0 r_0_1 : Int) (r_0_2a : Option Addr) (r_0_2n r_0_2c : Nat) (r_0_3a : Option Addr) (r_0_3n r_0_3c : Nat) (r_0_4a : Option Addr) (r_0_4n r_0_4c : Nat) (r_0_5a : Option Addr) (r_0_5n r_0_5c : Nat) (r_0_6 : Bool) (r_0_7 r_0_8 r_0_9 : Int) (r_0_10 : ByteArray) (r_0_11 r_0_12 : Int) (r_0_13a : Option Addr) (r_0_13n r_0_13c : Nat) (r_0_14a : Option Addr) (r_0_14n r_0_14c : Nat) (r_0_15a : Option Addr) (r_0_15n r_0_15c : Nat) (r_0_16a : Option Addr) (r_0_16n r_0_16c : Nat) (r_0_17 r_0_18 r_0_19 r_0_20 : Int) (data_1 : ByteArray) {Q : QT} {h : Heap} (hk : law46_FastpatternNecessary_v r_0_0 r_0_1 r_0_2a r_0_2n r_0_2c r_0_3a r_0_3n r_0_3c r_0_4a r_0_4n r_0_4c r_0_5a r_0_5n r_0_5c r_0_6 r_0_7 r_0_8 r_0_9 r_0_10 r_0_11 r_0_12 r_0_13a r_0_13n r_0_13c r_0_14a r_0_14n r_0_14c r_0_15a r_0_15n r_0_15c r_0_16a r_0_16n r_0_16c r_0_17 r_0_18 r_0_19 r_0_20 data_1 Q h) : CallT Try.prog fn_law46_FastpatternNecessary #[.agg #[.int .i64 r_0_0, .int .i64 r_0_1, .slice r_0_2a r_0_2n r_0_2c, .slice r_0_3a r_0_3n r_0_3c, .slice r_0_4a r_0_4n r_0_4c, .slice r_0_5a r_0_5n r_0_5c, .bool r_0_6, .int .i64 r_0_7, .int .i64 r_0_8, .int .i64 r_0_9, .string r_0_10, .int .i64 r_0_11, .int .i64 r_0_12, .slice r_0_13a r_0_13n r_0_13c, .slice r_0_14a r_0_14n r_0_14c, .slice r_0_15a r_0_15n r_0_15c, .slice r_0_16a r_0_16n r_0_16c, .int .i64 r_0_17, .int .i64 r_0_18, .int .i64 r_0_19, .int .i64 r_0_20], .string data_1] h Q :=
 callU follows Try.func8 (Try.call8 _) rfl rfl [(10, fun e h => dS (e 1) fun data_1 => dA (e 2) fun r_2 => dB (e 20) fun t20 => law46_FastpatternNecessary_b1 data_1 r_2 t20 Q h)] []
 ⟨fun e h _ hk => by
 have F := Ag.nil (e := e)
 have ⟨data_1, F, hk⟩ := eS F hk
 have ⟨r_2, F, hk⟩ := eA F hk
 have ⟨t20, F, hk⟩ := eB F hk
 exact cutU F (by as_aux_lemma => kernel_rfl) hk, trivial⟩
 trivial (by as_aux_lemma => kernel_rfl) hk
/-! ### intrusion/intrusionlaw46.lives -/
def law46_lives_v (Q : QT) (h : Heap) : Prop :=
 alV h (.cells #[.string (⟨#[97, 97]⟩ : ByteArray), .bool false, .bool false, .bool false, .int .i64 0, .int .i64 0, .bool false, .string (⟨#[61]⟩ : ByteArray), .bool false, .bool false, .bool false, .int .i64 0, .int .i64 0, .bool false, .string (⟨#[60]⟩ : ByteArray), .bool false, .bool false, .bool false, .int .i64 0, .int .i64 0, .bool false] T_api_Content) fun t11 h1 => alV h1 (.cells #[.int .i64 0, .int .i64 0, .slice none 0 0, .slice none 0 0, .slice none 0 0, .slice none 0 0, .bool false, .int .i64 0, .int .i64 0, .int .i64 0, .string (⟨#[]⟩ : ByteArray), .int .i64 0, .int .i64 0, .slice none 0 0, .slice none 0 0, .slice none 0 0, .slice none 0 0, .int .i64 0, .int .i64 0, .int .i64 0, .int .i64 0] T_api_Rule) fun t1 h2 => stN h2 t1 [.int .i64 0, .int .i64 0, .slice none 0 0, .slice none 0 0, .slice none 0 0, .slice none 0 0, .bool false, .int .i64 0, .int .i64 0, .int .i64 0, .string (⟨#[]⟩ : ByteArray), .int .i64 0, .int .i64 4, .slice none 0 0, .slice (some t11) 3 3, .slice none 0 0, .slice none 0 0, .int .i64 0, .int .i64 0, .int .i64 0, .int .i64 0] 0 fun h3 => alV h3 (.cells #[.string (⟨#[71, 69, 84]⟩ : ByteArray), .bool true, .bool false, .bool false, .int .i64 0, .int .i64 0, .bool false] T_api_Content) fun t14 h4 => alV h4 (.cells #[.int .i64 0, .int .i64 0, .slice none 0 0, .slice none 0 0, .slice none 0 0, .slice none 0 0, .bool false, .int .i64 0, .int .i64 0, .int .i64 0, .string (⟨#[]⟩ : ByteArray), .int .i64 0, .int .i64 0, .slice none 0 0, .slice none 0 0, .slice none 0 0, .slice none 0 0, .int .i64 0, .int .i64 0, .int .i64 0, .int .i64 0] T_api_Rule) fun t2 h5 => stN h5 t2 [.int .i64 0, .int .i64 0, .slice none 0 0, .slice none 0 0, .slice none 0 0, .slice none 0 0, .bool false, .int .i64 0, .int .i64 0, .int .i64 0, .string (⟨#[]⟩ : ByteArray), .int .i64 0, .int .i64 4, .slice none 0 0, .slice (some t14) 1 1, .slice none 0 0, .slice none 0 0, .int .i64 0, .int .i64 0, .int .i64 0, .int .i64 0] 0 fun h6 => ldI h6 t2 .i64 fun t17_0 => ldI h6 (Addr.add t2 1) .i64 fun t17_1 => ldL h6 (Addr.add t2 2) fun t17_2a t17_2n t17_2c => ldL h6 (Addr.add t2 3) fun t17_3a t17_3n t17_3c => ldL h6 (Addr.add t2 4) fun t17_4a t17_4n t17_4c => ldL h6 (Addr.add t2 5) fun t17_5a t17_5n t17_5c => ldB h6 (Addr.add t2 6) fun t17_6 => ldI h6 (Addr.add t2 7) .i64 fun t17_7 => ldI h6 (Addr.add t2 8) .i64 fun t17_8 => ldI h6 (Addr.add t2 9) .i64 fun t17_9 => ldS h6 (Addr.add t2 10) fun t17_10 => ldI h6 (Addr.add t2 11) .i64 fun t17_11 => ldI h6 (Addr.add t2 12) .i64 fun t17_12 => ldL h6 (Addr.add t2 13) fun t17_13a t17_13n t17_13c => ldL h6 (Addr.add t2 14) fun t17_14a t17_14n t17_14c => ldL h6 (Addr.add t2 15) fun t17_15a t17_15n t17_15c => ldL h6 (Addr.add t2 16) fun t17_16a t17_16n t17_16c => ldI h6 (Addr.add t2 17) .i64 fun t17_17 => ldI h6 (Addr.add t2 18) .i64 fun t17_18 => ldI h6 (Addr.add t2 19) .i64 fun t17_19 => ldI h6 (Addr.add t2 20) .i64 fun t17_20 => CallT Try.prog fn_fastpattern_Pattern #[.agg #[.int .i64 t17_0, .int .i64 t17_1, .slice t17_2a t17_2n t17_2c, .slice t17_3a t17_3n t17_3c, .slice t17_4a t17_4n t17_4c, .slice t17_5a t17_5n t17_5c, .bool t17_6, .int .i64 t17_7, .int .i64 t17_8, .int .i64 t17_9, .string t17_10, .int .i64 t17_11, .int .i64 t17_12, .slice t17_13a t17_13n t17_13c, .slice t17_14a t17_14n t17_14c, .slice t17_15a t17_15n t17_15c, .slice t17_16a t17_16n t17_16c, .int .i64 t17_17, .int .i64 t17_18, .int .i64 t17_19, .int .i64 t17_20]] h6 fun v h7 => ∃ t18_0_0 : ByteArray, ∃ t18_0_1 : Bool, ∃ t18_1 : Bool, v = .tuple #[.agg #[.string t18_0_0, .bool t18_0_1], .bool t18_1] ∧ alV h7 (.cells #[.string (⟨#[]⟩ : ByteArray), .bool false] T_api_Pattern) fun t3 h8 => stN h8 t3 [.string t18_0_0, .bool t18_0_1] 0 fun h9 => CallT Try.prog fn_fastpattern_Pattern #[.agg #[.int .i64 0, .int .i64 0, .slice none 0 0, .slice none 0 0, .slice none 0 0, .slice none 0 0, .bool false, .int .i64 0, .int .i64 0, .int .i64 0, .string (⟨#[]⟩ : ByteArray), .int .i64 0, .int .i64 0, .slice none 0 0, .slice none 0 0, .slice none 0 0, .slice none 0 0, .int .i64 0, .int .i64 0, .int .i64 0, .int .i64 0]] h9 fun v h10 => ∃ t23_0_0 : ByteArray, ∃ t23_0_1 : Bool, ∃ t23_1 : Bool, v = .tuple #[.agg #[.string t23_0_0, .bool t23_0_1], .bool t23_1] ∧ alV h10 (.cells #[.string (⟨#[]⟩ : ByteArray), .bool false] T_api_Pattern) fun t5 h11 => stN h11 t5 [.string t23_0_0, .bool t23_0_1] 0 fun h12 => ldI h12 t2 .i64 fun t26_0 => ldI h12 (Addr.add t2 1) .i64 fun t26_1 => ldL h12 (Addr.add t2 2) fun t26_2a t26_2n t26_2c => ldL h12 (Addr.add t2 3) fun t26_3a t26_3n t26_3c => ldL h12 (Addr.add t2 4) fun t26_4a t26_4n t26_4c => ldL h12 (Addr.add t2 5) fun t26_5a t26_5n t26_5c => ldB h12 (Addr.add t2 6) fun t26_6 => ldI h12 (Addr.add t2 7) .i64 fun t26_7 => ldI h12 (Addr.add t2 8) .i64 fun t26_8 => ldI h12 (Addr.add t2 9) .i64 fun t26_9 => ldS h12 (Addr.add t2 10) fun t26_10 => ldI h12 (Addr.add t2 11) .i64 fun t26_11 => ldI h12 (Addr.add t2 12) .i64 fun t26_12 => ldL h12 (Addr.add t2 13) fun t26_13a t26_13n t26_13c => ldL h12 (Addr.add t2 14) fun t26_14a t26_14n t26_14c => ldL h12 (Addr.add t2 15) fun t26_15a t26_15n t26_15c => ldL h12 (Addr.add t2 16) fun t26_16a t26_16n t26_16c => ldI h12 (Addr.add t2 17) .i64 fun t26_17 => ldI h12 (Addr.add t2 18) .i64 fun t26_18 => ldI h12 (Addr.add t2 19) .i64 fun t26_19 => ldI h12 (Addr.add t2 20) .i64 fun t26_20 => ldI h12 t1 .i64 fun t27_0 => ldI h12 (Addr.add t1 1) .i64 fun t27_1 => ldL h12 (Addr.add t1 2) fun t27_2a t27_2n t27_2c => ldL h12 (Addr.add t1 3) fun t27_3a t27_3n t27_3c => ldL h12 (Addr.add t1 4) fun t27_4a t27_4n t27_4c => ldL h12 (Addr.add t1 5) fun t27_5a t27_5n t27_5c => ldB h12 (Addr.add t1 6) fun t27_6 => ldI h12 (Addr.add t1 7) .i64 fun t27_7 => ldI h12 (Addr.add t1 8) .i64 fun t27_8 => ldI h12 (Addr.add t1 9) .i64 fun t27_9 => ldS h12 (Addr.add t1 10) fun t27_10 => ldI h12 (Addr.add t1 11) .i64 fun t27_11 => ldI h12 (Addr.add t1 12) .i64 fun t27_12 => ldL h12 (Addr.add t1 13) fun t27_13a t27_13n t27_13c => ldL h12 (Addr.add t1 14) fun t27_14a t27_14n t27_14c => ldL h12 (Addr.add t1 15) fun t27_15a t27_15n t27_15c => ldL h12 (Addr.add t1 16) fun t27_16a t27_16n t27_16c => ldI h12 (Addr.add t1 17) .i64 fun t27_17 => ldI h12 (Addr.add t1 18) .i64 fun t27_18 => ldI h12 (Addr.add t1 19) .i64 fun t27_19 => ldI h12 (Addr.add t1 20) .i64 fun t27_20 => ldI h12 t2 .i64 fun t28_0 => ldI h12 (Addr.add t2 1) .i64 fun t28_1 => ldL h12 (Addr.add t2 2) fun t28_2a t28_2n t28_2c => ldL h12 (Addr.add t2 3) fun t28_3a t28_3n t28_3c => ldL h12 (Addr.add t2 4) fun t28_4a t28_4n t28_4c => ldL h12 (Addr.add t2 5) fun t28_5a t28_5n t28_5c => ldB h12 (Addr.add t2 6) fun t28_6 => ldI h12 (Addr.add t2 7) .i64 fun t28_7 => ldI h12 (Addr.add t2 8) .i64 fun t28_8 => ldI h12 (Addr.add t2 9) .i64 fun t28_9 => ldS h12 (Addr.add t2 10) fun t28_10 => ldI h12 (Addr.add t2 11) .i64 fun t28_11 => ldI h12 (Addr.add t2 12) .i64 fun t28_12 => ldL h12 (Addr.add t2 13) fun t28_13a t28_13n t28_13c => ldL h12 (Addr.add t2 14) fun t28_14a t28_14n t28_14c => ldL h12 (Addr.add t2 15) fun t28_15a t28_15n t28_15c => ldL h12 (Addr.add t2 16) fun t28_16a t28_16n t28_16c => ldI h12 (Addr.add t2 17) .i64 fun t28_17 => ldI h12 (Addr.add t2 18) .i64 fun t28_18 => ldI h12 (Addr.add t2 19) .i64 fun t28_19 => ldI h12 (Addr.add t2 20) .i64 fun t28_20 => alV h12 (.cells #[.int .i64 t26_0, .int .i64 t26_1, .slice t26_2a t26_2n t26_2c, .slice t26_3a t26_3n t26_3c, .slice t26_4a t26_4n t26_4c, .slice t26_5a t26_5n t26_5c, .bool t26_6, .int .i64 t26_7, .int .i64 t26_8, .int .i64 t26_9, .string t26_10, .int .i64 t26_11, .int .i64 t26_12, .slice t26_13a t26_13n t26_13c, .slice t26_14a t26_14n t26_14c, .slice t26_15a t26_15n t26_15c, .slice t26_16a t26_16n t26_16c, .int .i64 t26_17, .int .i64 t26_18, .int .i64 t26_19, .int .i64 t26_20, .int .i64 t27_0, .int .i64 t27_1, .slice t27_2a t27_2n t27_2c, .slice t27_3a t27_3n t27_3c, .slice t27_4a t27_4n t27_4c, .slice t27_5a t27_5n t27_5c, .bool t27_6, .int .i64 t27_7, .int .i64 t27_8, .int .i64 t27_9, .string t27_10, .int .i64 t27_11, .int .i64 t27_12, .slice t27_13a t27_13n t27_13c, .slice t27_14a t27_14n t27_14c, .slice t27_15a t27_15n t27_15c, .slice t27_16a t27_16n t27_16c, .int .i64 t27_17, .int .i64 t27_18, .int .i64 t27_19, .int .i64 t27_20, .int .i64 t28_0, .int .i64 t28_1, .slice t28_2a t28_2n t28_2c, .slice t28_3a t28_3n t28_3c, .slice t28_4a t28_4n t28_4c, .slice t28_5a t28_5n t28_5c, .bool t28_6, .int .i64 t28_7, .int .i64 t28_8, .int .i64 t28_9, .string t28_10, .int .i64 t28_11, .int .i64 t28_12, .slice t28_13a t28_13n t28_13c, .slice t28_14a t28_14n t28_14c, .slice t28_15a t28_15n t28_15c, .slice t28_16a t28_16n t28_16c, .int .i64 t28_17, .int .i64 t28_18, .int .i64 t28_19, .int .i64 t28_20, .int .i64 0, .int .i64 0, .slice none 0 0, .slice none 0 0, .slice none 0 0, .slice none 0 0, .bool false, .int .i64 0, .int .i64 0, .int .i64 0, .string (⟨#[]⟩ : ByteArray), .int .i64 0, .int .i64 4, .slice none 0 0, .slice none 0 0, .slice none 0 0, .slice none 0 0, .int .i64 0, .int .i64 0, .int .i64 0, .int .i64 0] T_api_Rule) fun t30 h13 => CallT Try.prog fn_fastpattern_Groups #[.slice (some t30) 4 4] h13 fun v h14 => ∃ t31a : Option Addr, ∃ t31n : Nat, ∃ t31c : Nat, v = .slice t31a t31n t31c ∧ CallT Try.prog fn_fastpattern_Score #[.string (⟨#[97, 61]⟩ : ByteArray)] h14 fun v h15 => ∃ t32 : Int, v = .int .i64 t32 ∧ if (t32 == 26) = true then (CallT Try.prog fn_fastpattern_Score #[.string (⟨#[97, 97, 97, 97, 97, 97, 97, 97, 97, 97]⟩ : ByteArray)] h15 fun v h16 => ∃ t35 : Int, v = .int .i64 t35 ∧ if (t35 == 1) = true then (ldI h16 t1 .i64 fun t39_0 => ldI h16 (Addr.add t1 1) .i64 fun t39_1 => ldL h16 (Addr.add t1 2) fun t39_2a t39_2n t39_2c => ldL h16 (Addr.add t1 3) fun t39_3a t39_3n t39_3c => ldL h16 (Addr.add t1 4) fun t39_4a t39_4n t39_4c => ldL h16 (Addr.add t1 5) fun t39_5a t39_5n t39_5c => ldB h16 (Addr.add t1 6) fun t39_6 => ldI h16 (Addr.add t1 7) .i64 fun t39_7 => ldI h16 (Addr.add t1 8) .i64 fun t39_8 => ldI h16 (Addr.add t1 9) .i64 fun t39_9 => ldS h16 (Addr.add t1 10) fun t39_10 => ldI h16 (Addr.add t1 11) .i64 fun t39_11 => ldI h16 (Addr.add t1 12) .i64 fun t39_12 => ldL h16 (Addr.add t1 13) fun t39_13a t39_13n t39_13c => ldL h16 (Addr.add t1 14) fun t39_14a t39_14n t39_14c => ldL h16 (Addr.add t1 15) fun t39_15a t39_15n t39_15c => ldL h16 (Addr.add t1 16) fun t39_16a t39_16n t39_16c => ldI h16 (Addr.add t1 17) .i64 fun t39_17 => ldI h16 (Addr.add t1 18) .i64 fun t39_18 => ldI h16 (Addr.add t1 19) .i64 fun t39_19 => ldI h16 (Addr.add t1 20) .i64 fun t39_20 => CallT Try.prog fn_fastpattern_Choose #[.agg #[.int .i64 t39_0, .int .i64 t39_1, .slice t39_2a t39_2n t39_2c, .slice t39_3a t39_3n t39_3c, .slice t39_4a t39_4n t39_4c, .slice t39_5a t39_5n t39_5c, .bool t39_6, .int .i64 t39_7, .int .i64 t39_8, .int .i64 t39_9, .string t39_10, .int .i64 t39_11, .int .i64 t39_12, .slice t39_13a t39_13n t39_13c, .slice t39_14a t39_14n t39_14c, .slice t39_15a t39_15n t39_15c, .slice t39_16a t39_16n t39_16c, .int .i64 t39_17, .int .i64 t39_18, .int .i64 t39_19, .int .i64 t39_20]] h16 fun v h17 => ∃ t40 : Int, v = .int .i64 t40 ∧ if (t40 == 1) = true then (ldS h17 t3 fun t44_0 => ldB h17 (Addr.add t3 1) fun t44_1 => if ((t44_0 == (⟨#[103, 101, 116]⟩ : ByteArray)) && ((t44_1 == true) && true)) = true then (if t18_1 = true then (if (!t23_1) = true then (if (((t31n : Nat) : Int) == 1) = true then (idxA (0 : Int) t31n (nn t31a fun t62 => ldL h17 (Addr.add (Addr.add t62 (((0 : Int)).toNat * 5)) 2) fun t64a t64n t64c => if (((t64n : Nat) : Int) == 2) = true then (idxA (0 : Int) t31n (nn t31a fun t70 => ldL h17 (Addr.add (Addr.add t70 (((0 : Int)).toNat * 5)) 3) fun t72a t72n t72c => if (((t72n : Nat) : Int) == 2) = true then (idxA (0 : Int) t31n (nn t31a fun t78 => ldL h17 (Addr.add (Addr.add t78 (((0 : Int)).toNat * 5)) 3) fun t80a t80n t80c => idxA (0 : Int) t80n (nn t80a fun t81 => ldL h17 (Addr.add t81 (((0 : Int)).toNat * 1)) fun t82a t82n t82c => if (((t82n : Nat) : Int) == 2) = true then (idxA (0 : Int) t31n (nn t31a fun t88 => ldL h17 (Addr.add (Addr.add t88 (((0 : Int)).toNat * 5)) 4) fun t90a t90n t90c => if (((t90n : Nat) : Int) == 1) = true then (idxA (0 : Int) t31n (nn t31a fun t96 => ldL h17 (Addr.add (Addr.add t96 (((0 : Int)).toNat * 5)) 4) fun t98a t98n t98c => idxA (0 : Int) t98n (nn t98a fun t99 => ldI h17 (Addr.add t99 (((0 : Int)).toNat * 1)) .i64 fun t100 => Q (.bool (t100 == 3)) h17))) else (Q (.bool false) h17))) else (Q (.bool false) h17)))) else (Q (.bool false) h17))) else (Q (.bool false) h17))) else (Q (.bool false) h17)) else (Q (.bool false) h17)) else (Q (.bool false) h17)) else (Q (.bool false) h17)) else (Q (.bool false) h17)) else (Q (.bool false) h16)) else (Q (.bool false) h15)
set_option maxRecDepth 100000 in
theorem law46_lives_s {Q : QT} {h : Heap} (hk : law46_lives_v Q h) : CallT Try.prog fn_law46_lives #[] h Q :=
 callU follows Try.func9 (Try.call9 _) rfl rfl [] []
 trivial
 trivial (by as_aux_lemma => kernel_rfl) hk
/-! ### intrusion/fastpattern.Score -/
def fastpattern_Score_b2 (s_0 : ByteArray) (seen_3 : Addr) (n_4 i_5 t11 t12 : Int) (Q : QT) (Kn1 : Int × Int → Heap → Prop) (h : Heap) : Prop :=
 idxS s_0 i_5 fun t29 => CallT Try.prog fn_fastpattern_common #[.int .u8 t29] h fun v h3 => ∃ t30 : Bool, v = .bool t30 ∧ if t30 = true then (Kn1 (wrap .i64 (n_4 - 8), wrap .i64 (t12 + 1)) h3) else (Kn1 (n_4, wrap .i64 (t12 + 1)) h3)
def fastpattern_Score_b3 (n_4 : Int) (Q : QT) (h : Heap) : Prop :=
 Q (.int .i64 (if (1 : Int) > n_4 then (1 : Int) else n_4)) h
def fastpattern_Score_l1 (s_0 : ByteArray) (seen_3 : Addr) (t11 : Int) (Q : QT) (n_4 t12 : Int) (h : Heap) (Kn1 : Int × Int → Heap → Prop) : Prop :=
 if (decide (t12 < t11)) = true then (idxS s_0 t12 fun t17 => idxA t17 256 (ldB h (Addr.add seen_3 ((t17).toNat * 1)) fun t19 => if (!t19) = true then (idxS s_0 t12 fun t23 => idxA t23 256 (st1 h (Addr.add seen_3 ((t23).toNat * 1)) (.bool true) fun h2 => fastpattern_Score_b2 s_0 seen_3 (wrap .i64 (n_4 + 16)) t12 t11 t12 Q Kn1 h2)) else (fastpattern_Score_b2 s_0 seen_3 n_4 t12 t11 t12 Q Kn1 h))) else (fastpattern_Score_b3 n_4 Q h)
def fastpattern_Score_v (s_0 : ByteArray) (Q : QT) (h : Heap) : Prop :=
 if (s_0.toList == (⟨#[]⟩ : ByteArray).toList) = true then (Q (.int .i64 0) h) else (alV h (.cells #[.bool false, .bool false, .bool false, .bool false, .bool false, .bool false, .bool false, .bool false, .bool false, .bool false, .bool false, .bool false, .bool false, .bool false, .bool false, .bool false, .bool false, .bool false, .bool false, .bool false, .bool false, .bool false, .bool false, .bool false, .bool false, .bool false, .bool false, .bool false, .bool false, .bool false, .bool false, .bool false, .bool false, .bool false, .bool false, .bool false, .bool false, .bool false, .bool false, .bool false, .bool false, .bool false, .bool false, .bool false, .bool false, .bool false, .bool false, .bool false, .bool false, .bool false, .bool false, .bool false, .bool false, .bool false, .bool false, .bool false, .bool false, .bool false, .bool false, .bool false, .bool false, .bool false, .bool false, .bool false, .bool false, .bool false, .bool false, .bool false, .bool false, .bool false, .bool false, .bool false, .bool false, .bool false, .bool false, .bool false, .bool false, .bool false, .bool false, .bool false, .bool false, .bool false, .bool false, .bool false, .bool false, .bool false, .bool false, .bool false, .bool false, .bool false, .bool false, .bool false, .bool false, .bool false, .bool false, .bool false, .bool false, .bool false, .bool false, .bool false, .bool false, .bool false, .bool false, .bool false, .bool false, .bool false, .bool false, .bool false, .bool false, .bool false, .bool false, .bool false, .bool false, .bool false, .bool false, .bool false, .bool false, .bool false, .bool false, .bool false, .bool false, .bool false, .bool false, .bool false, .bool false, .bool false, .bool false, .bool false, .bool false, .bool false, .bool false, .bool false, .bool false, .bool false, .bool false, .bool false, .bool false, .bool false, .bool false, .bool false, .bool false, .bool false, .bool false, .bool false, .bool false, .bool false, .bool false, .bool false, .bool false, .bool false, .bool false, .bool false, .bool false, .bool false, .bool false, .bool false, .bool false, .bool false, .bool false, .bool false, .bool false, .bool false, .bool false, .bool false, .bool false, .bool false, .bool false, .bool false, .bool false, .bool false, .bool false, .bool false, .bool false, .bool false, .bool false, .bool false, .bool false, .bool false, .bool false, .bool false, .bool false, .bool false, .bool false, .bool false, .bool false, .bool false, .bool false, .bool false, .bool false, .bool false, .bool false, .bool false, .bool false, .bool false, .bool false, .bool false, .bool false, .bool false, .bool false, .bool false, .bool false, .bool false, .bool false, .bool false, .bool false, .bool false, .bool false, .bool false, .bool false, .bool false, .bool false, .bool false, .bool false, .bool false, .bool false, .bool false, .bool false, .bool false, .bool false, .bool false, .bool false, .bool false, .bool false, .bool false, .bool false, .bool false, .bool false, .bool false, .bool false, .bool false, .bool false, .bool false, .bool false, .bool false, .bool false, .bool false, .bool false, .bool false, .bool false, .bool false, .bool false, .bool false, .bool false, .bool false, .bool false, .bool false, .bool false, .bool false, .bool false, .bool false, .bool false, .bool false, .bool false, .bool false, .bool false, .bool false] T_256_bool) fun t3 h1 => LoopV (fun (s : Int × Int) h Kn => fastpattern_Score_l1 s_0 t3 ((s_0.size : Nat) : Int) Q s.1 s.2 h Kn) (((s_0.size : Nat) : Int), 0) h1)
set_option maxRecDepth 100000 in
theorem fastpattern_Score_s (s_0 : ByteArray) {Q : QT} {h : Heap} (hk : fastpattern_Score_v s_0 Q h) : CallT Try.prog fn_fastpattern_Score #[.string s_0] h Q :=
 callU follows Try.func10 (Try.call10 _) rfl rfl [(30, fun e h => dI .i64 (e 4) fun n_4 => fastpattern_Score_b3 n_4 Q h)] [(14, fun e h => dS (e 0) fun s_0 => dA (e 3) fun seen_3 => dI .i64 (e 11) fun t11 => dI .i64 (e 4) fun n_4 => dI .i64 (e 12) fun t12 => LoopV (fun (s : Int × Int) h Kn => fastpattern_Score_l1 s_0 seen_3 t11 Q s.1 s.2 h Kn) (n_4, t12) h)]
 ⟨fun e h _ hk => by
 have F := Ag.nil (e := e)
 have ⟨n_4, F, hk⟩ := eI F hk
 exact cutU F (by as_aux_lemma => kernel_rfl) hk, trivial⟩
 ⟨⟨by kernel_rfl, fun e h he hk => by
 have F := Ag.nil (e := e)
 have ⟨s_0, F, hk⟩ := eS F hk
 have ⟨seen_3, F, hk⟩ := eA F hk
 have ⟨t11, F, hk⟩ := eI F hk
 have ⟨n_4, F, hk⟩ := eI F hk
 have ⟨t12, F, hk⟩ := eI F hk
 exact loopU (s0 := (n_4, t12)) follows (fun _ h => by cases h) he F (fun s => [(12, .int .i64 s.2), (4, .int .i64 s.1)]) (by kernel_rfl) (F.take 2) hk (fun Kn1 e h => dI .i64 (e 4) fun n_4 => dI .i64 (e 12) fun t12 => Kn1 (n_4, t12) h) (fun Kn1 e h hk => by
  have F := Ag.nil (e := e)
  have ⟨n_4, F, hk⟩ := eI F hk
  have ⟨t12, F, hk⟩ := eI F hk
  exact ⟨(n_4, t12), F, hk⟩)
  (fun Kn1 => [(24, fun e h => dS (e 0) fun s_0 => dA (e 3) fun seen_3 => dI .i64 (e 4) fun n_4 => dI .i64 (e 5) fun i_5 => dI .i64 (e 11) fun t11 => dI .i64 (e 12) fun t12 => fastpattern_Score_b2 s_0 seen_3 n_4 i_5 t11 t12 Q Kn1 h)]) (fun Kn1 => [])
  (fun Kn1 => ⟨fun e h _ hk => by
 have F := Ag.nil (e := e)
 have ⟨s_0, F, hk⟩ := eS F hk
 have ⟨seen_3, F, hk⟩ := eA F hk
 have ⟨n_4, F, hk⟩ := eI F hk
 have ⟨i_5, F, hk⟩ := eI F hk
 have ⟨t11, F, hk⟩ := eI F hk
 have ⟨t12, F, hk⟩ := eI F hk
 exact cutU F (by as_aux_lemma => kernel_rfl) hk, trivial⟩)
  (fun Kn1 => trivial) (fun e s h Kn1 => by as_aux_lemma => kernel_rfl)⟩, trivial⟩ (by as_aux_lemma => kernel_rfl) hk
/-! ### intrusion/intrusionref46.Score -/
def ref46_Score_b2 (s_0 : ByteArray) (n_3 : Int) (seen_4a : Option Addr) (seen_4n seen_4c : Nat) (i_5 : Int) (Q : QT) (Kn1 : Int × Int → Heap → Prop) (h : Heap) : Prop :=
 idxS s_0 i_5 fun t29 => idxA t29 seen_4n (nn seen_4a fun t30 => st1 h (Addr.add t30 ((t29).toNat * 1)) (.bool true) fun h2 => idxS s_0 i_5 fun t33 => CallT Try.prog fn_ref46_common #[.int .u8 t33] h2 fun v h3 => ∃ t34 : Bool, v = .bool t34 ∧ if t34 = true then (Kn1 (wrap .i64 (n_3 - 8), wrap .i64 (i_5 + 1)) h3) else (Kn1 (n_3, wrap .i64 (i_5 + 1)) h3))
def ref46_Score_b3 (n_3 : Int) (Q : QT) (h : Heap) : Prop :=
 Q (.int .i64 (if (1 : Int) > n_3 then (1 : Int) else n_3)) h
def ref46_Score_l1 (s_0 : ByteArray) (seen_4a : Option Addr) (seen_4n seen_4c : Nat) (Q : QT) (n_3 i_5 : Int) (h : Heap) (Kn1 : Int × Int → Heap → Prop) : Prop :=
 if (decide (i_5 < ((s_0.size : Nat) : Int))) = true then (idxS s_0 i_5 fun t20 => idxA t20 seen_4n (nn seen_4a fun t21 => ldB h (Addr.add t21 ((t20).toNat * 1)) fun t22 => if (!t22) = true then (ref46_Score_b2 s_0 (wrap .i64 (n_3 + 16)) seen_4a seen_4n seen_4c i_5 Q Kn1 h) else (ref46_Score_b2 s_0 n_3 seen_4a seen_4n seen_4c i_5 Q Kn1 h))) else (ref46_Score_b3 n_3 Q h)
def ref46_Score_v (s_0 : ByteArray) (Q : QT) (h : Heap) : Prop :=
 if (s_0.toList == (⟨#[]⟩ : ByteArray).toList) = true then (Q (.int .i64 0) h) else (mkSlV Try.prog T_sl_bool (.int .i64 256) (.int .i64 256) h fun v h1 => ∃ t10a : Option Addr, ∃ t10n : Nat, ∃ t10c : Nat, v = .slice t10a t10n t10c ∧ LoopV (fun (s : Int × Int) h Kn => ref46_Score_l1 s_0 t10a t10n t10c Q s.1 s.2 h Kn) (((s_0.size : Nat) : Int), 0) h1)
set_option maxRecDepth 100000 in
theorem ref46_Score_s (s_0 : ByteArray) {Q : QT} {h : Heap} (hk : ref46_Score_v s_0 Q h) : CallT Try.prog fn_ref46_Score #[.string s_0] h Q :=
 callU follows Try.func11 (Try.call11 _) rfl rfl [(28, fun e h => dI .i64 (e 3) fun n_3 => ref46_Score_b3 n_3 Q h)] [(14, fun e h => dS (e 0) fun s_0 => dL (e 4) fun seen_4a seen_4n seen_4c => dI .i64 (e 3) fun n_3 => dI .i64 (e 5) fun i_5 => LoopV (fun (s : Int × Int) h Kn => ref46_Score_l1 s_0 seen_4a seen_4n seen_4c Q s.1 s.2 h Kn) (n_3, i_5) h)]
 ⟨fun e h _ hk => by
 have F := Ag.nil (e := e)
 have ⟨n_3, F, hk⟩ := eI F hk
 exact cutU F (by as_aux_lemma => kernel_rfl) hk, trivial⟩
 ⟨⟨by kernel_rfl, fun e h he hk => by
 have F := Ag.nil (e := e)
 have ⟨s_0, F, hk⟩ := eS F hk
 have ⟨seen_4a, seen_4n, seen_4c, F, hk⟩ := eL F hk
 have ⟨n_3, F, hk⟩ := eI F hk
 have ⟨i_5, F, hk⟩ := eI F hk
 exact loopU (s0 := (n_3, i_5)) follows (fun _ h => by cases h) he F (fun s => [(5, .int .i64 s.2), (3, .int .i64 s.1)]) (by kernel_rfl) (F.take 2) hk (fun Kn1 e h => dI .i64 (e 3) fun n_3 => dI .i64 (e 5) fun i_5 => Kn1 (n_3, i_5) h) (fun Kn1 e h hk => by
  have F := Ag.nil (e := e)
  have ⟨n_3, F, hk⟩ := eI F hk
  have ⟨i_5, F, hk⟩ := eI F hk
  exact ⟨(n_3, i_5), F, hk⟩)
  (fun Kn1 => [(22, fun e h => dS (e 0) fun s_0 => dI .i64 (e 3) fun n_3 => dL (e 4) fun seen_4a seen_4n seen_4c => dI .i64 (e 5) fun i_5 => ref46_Score_b2 s_0 n_3 seen_4a seen_4n seen_4c i_5 Q Kn1 h)]) (fun Kn1 => [])
  (fun Kn1 => ⟨fun e h _ hk => by
 have F := Ag.nil (e := e)
 have ⟨s_0, F, hk⟩ := eS F hk
 have ⟨n_3, F, hk⟩ := eI F hk
 have ⟨seen_4a, seen_4n, seen_4c, F, hk⟩ := eL F hk
 have ⟨i_5, F, hk⟩ := eI F hk
 exact cutU F (by as_aux_lemma => kernel_rfl) hk, trivial⟩)
  (fun Kn1 => trivial) (fun e s h Kn1 => by as_aux_lemma => kernel_rfl)⟩, trivial⟩ (by as_aux_lemma => kernel_rfl) hk
/-! ### intrusion/intrusionref43.Short -/
def ref43_Short_l1 (r_1 : Addr) (Q : QT) (i_3 : Int) (h : Heap) (Kn1 : Int → Heap → Prop) : Prop :=
 ldL h (Addr.add r_1 14) fun t58a t58n t58c => if (decide (i_3 < ((t58n : Nat) : Int))) = true then (ldL h (Addr.add r_1 14) fun t64a t64n t64c => idxA i_3 t64n (nn t64a fun t66 => ldS h (Addr.add t66 ((i_3).toNat * 7)) fun t68 => if (decide (((t68.size : Nat) : Int) > 200)) = true then (Q (.bool false) h) else (Kn1 (wrap .i64 (i_3 + 1)) h))) else (Q (.bool true) h)
def ref43_Short_v (r_0_0 r_0_1 : Int) (r_0_2a : Option Addr) (r_0_2n r_0_2c : Nat) (r_0_3a : Option Addr) (r_0_3n r_0_3c : Nat) (r_0_4a : Option Addr) (r_0_4n r_0_4c : Nat) (r_0_5a : Option Addr) (r_0_5n r_0_5c : Nat) (r_0_6 : Bool) (r_0_7 r_0_8 r_0_9 : Int) (r_0_10 : ByteArray) (r_0_11 r_0_12 : Int) (r_0_13a : Option Addr) (r_0_13n r_0_13c : Nat) (r_0_14a : Option Addr) (r_0_14n r_0_14c : Nat) (r_0_15a : Option Addr) (r_0_15n r_0_15c : Nat) (r_0_16a : Option Addr) (r_0_16n r_0_16c : Nat) (r_0_17 r_0_18 r_0_19 r_0_20 : Int) (Q : QT) (h : Heap) : Prop :=
 alV h (.cells #[.int .i64 r_0_0, .int .i64 r_0_1, .slice r_0_2a r_0_2n r_0_2c, .slice r_0_3a r_0_3n r_0_3c, .slice r_0_4a r_0_4n r_0_4c, .slice r_0_5a r_0_5n r_0_5c, .bool r_0_6, .int .i64 r_0_7, .int .i64 r_0_8, .int .i64 r_0_9, .string r_0_10, .int .i64 r_0_11, .int .i64 r_0_12, .slice r_0_13a r_0_13n r_0_13c, .slice r_0_14a r_0_14n r_0_14c, .slice r_0_15a r_0_15n r_0_15c, .slice r_0_16a r_0_16n r_0_16c, .int .i64 r_0_17, .int .i64 r_0_18, .int .i64 r_0_19, .int .i64 r_0_20] T_api_Rule) fun t1 h1 => ldL h1 (Addr.add t1 2) fun t5a t5n t5c => if (decide (((t5n : Nat) : Int) > 70)) = true then (Q (.bool false) h1) else (ldL h1 (Addr.add t1 3) fun t10a t10n t10c => if (decide (((t10n : Nat) : Int) > 70)) = true then (Q (.bool false) h1) else (ldL h1 (Addr.add t1 4) fun t16a t16n t16c => if (decide (((t16n : Nat) : Int) > 70)) = true then (Q (.bool false) h1) else (ldL h1 (Addr.add t1 5) fun t22a t22n t22c => if (decide (((t22n : Nat) : Int) > 70)) = true then (Q (.bool false) h1) else (ldL h1 (Addr.add t1 13) fun t28a t28n t28c => if (decide (((t28n : Nat) : Int) > 70)) = true then (Q (.bool false) h1) else (ldL h1 (Addr.add t1 14) fun t34a t34n t34c => if (decide (((t34n : Nat) : Int) > 70)) = true then (Q (.bool false) h1) else (ldL h1 (Addr.add t1 15) fun t40a t40n t40c => if (decide (((t40n : Nat) : Int) > 70)) = true then (Q (.bool false) h1) else (ldL h1 (Addr.add t1 16) fun t46a t46n t46c => if (decide (((t46n : Nat) : Int) > 70)) = true then (Q (.bool false) h1) else (ldS h1 (Addr.add t1 10) fun t52 => if (decide (((t52.size : Nat) : Int) > 200)) = true then (Q (.bool false) h1) else (LoopV (fun (s : Int) h Kn => ref43_Short_l1 t1 Q s h Kn) 0 h1)))))))))
set_option maxRecDepth 100000 in
theorem ref43_Short_s (r_0_0 r_0_1 : Int) (r_0_2a : Option Addr) (r_0_2n r_0_2c : Nat) (r_0_3a : Option Addr) (r_0_3n r_0_3c : Nat) (r_0_4a : Option Addr) (r_0_4n r_0_4c : Nat) (r_0_5a : Option Addr) (r_0_5n r_0_5c : Nat) (r_0_6 : Bool) (r_0_7 r_0_8 r_0_9 : Int) (r_0_10 : ByteArray) (r_0_11 r_0_12 : Int) (r_0_13a : Option Addr) (r_0_13n r_0_13c : Nat) (r_0_14a : Option Addr) (r_0_14n r_0_14c : Nat) (r_0_15a : Option Addr) (r_0_15n r_0_15c : Nat) (r_0_16a : Option Addr) (r_0_16n r_0_16c : Nat) (r_0_17 r_0_18 r_0_19 r_0_20 : Int) {Q : QT} {h : Heap} (hk : ref43_Short_v r_0_0 r_0_1 r_0_2a r_0_2n r_0_2c r_0_3a r_0_3n r_0_3c r_0_4a r_0_4n r_0_4c r_0_5a r_0_5n r_0_5c r_0_6 r_0_7 r_0_8 r_0_9 r_0_10 r_0_11 r_0_12 r_0_13a r_0_13n r_0_13c r_0_14a r_0_14n r_0_14c r_0_15a r_0_15n r_0_15c r_0_16a r_0_16n r_0_16c r_0_17 r_0_18 r_0_19 r_0_20 Q h) : CallT Try.prog fn_ref43_Short #[.agg #[.int .i64 r_0_0, .int .i64 r_0_1, .slice r_0_2a r_0_2n r_0_2c, .slice r_0_3a r_0_3n r_0_3c, .slice r_0_4a r_0_4n r_0_4c, .slice r_0_5a r_0_5n r_0_5c, .bool r_0_6, .int .i64 r_0_7, .int .i64 r_0_8, .int .i64 r_0_9, .string r_0_10, .int .i64 r_0_11, .int .i64 r_0_12, .slice r_0_13a r_0_13n r_0_13c, .slice r_0_14a r_0_14n r_0_14c, .slice r_0_15a r_0_15n r_0_15c, .slice r_0_16a r_0_16n r_0_16c, .int .i64 r_0_17, .int .i64 r_0_18, .int .i64 r_0_19, .int .i64 r_0_20]] h Q :=
 callU follows Try.func12 (Try.call12 _) rfl rfl [] [(10, fun e h => dA (e 1) fun r_1 => dI .i64 (e 3) fun i_3 => LoopV (fun (s : Int) h Kn => ref43_Short_l1 r_1 Q s h Kn) i_3 h)]
 trivial
 ⟨⟨by kernel_rfl, fun e h he hk => by
 have F := Ag.nil (e := e)
 have ⟨r_1, F, hk⟩ := eA F hk
 have ⟨i_3, F, hk⟩ := eI F hk
 exact loopU (s0 := i_3) follows (fun _ h => by cases h) he F (fun s => [(3, .int .i64 s)]) (by kernel_rfl) (F.take 1) hk (fun Kn1 e h => dI .i64 (e 3) fun i_3 => Kn1 i_3 h) (fun Kn1 e h hk => by
  have F := Ag.nil (e := e)
  have ⟨i_3, F, hk⟩ := eI F hk
  exact ⟨i_3, F, hk⟩)
  (fun Kn1 => []) (fun Kn1 => [])
  (fun Kn1 => trivial)
  (fun Kn1 => trivial) (fun e s h Kn1 => by as_aux_lemma => kernel_rfl)⟩, trivial⟩ (by as_aux_lemma => kernel_rfl) hk
/-! ### intrusion/fastpattern.Pattern -/
def fastpattern_Pattern_b1 (t2 p_5 : Addr) (Q : QT) (h : Heap) : Prop :=
 ldS h p_5 fun t31_0 => ldB h (Addr.add p_5 1) fun t31_1 => stN h t2 [.string t31_0, .bool t31_1] 0 fun h13 => ldS h13 t2 fun r0_0 => ldB h13 (Addr.add t2 1) fun r0_1 => Q (.tuple #[.agg #[.string r0_0, .bool r0_1], .bool true]) h13
def fastpattern_Pattern_b2 (t2 p_5 : Addr) (Q : QT) (h : Heap) : Prop :=
 ldB h (Addr.add p_5 1) fun t26 => if t26 = true then (ldS h p_5 fun t28 => CallT Try.prog fn_fastpattern_small #[.string t28] h fun v h11 => ∃ t29 : ByteArray, v = .string t29 ∧ st1 h11 p_5 (.string t29) fun h12 => fastpattern_Pattern_b1 t2 p_5 Q h12) else (fastpattern_Pattern_b1 t2 p_5 Q h)
def fastpattern_Pattern_v (r_0_0 r_0_1 : Int) (r_0_2a : Option Addr) (r_0_2n r_0_2c : Nat) (r_0_3a : Option Addr) (r_0_3n r_0_3c : Nat) (r_0_4a : Option Addr) (r_0_4n r_0_4c : Nat) (r_0_5a : Option Addr) (r_0_5n r_0_5c : Nat) (r_0_6 : Bool) (r_0_7 r_0_8 r_0_9 : Int) (r_0_10 : ByteArray) (r_0_11 r_0_12 : Int) (r_0_13a : Option Addr) (r_0_13n r_0_13c : Nat) (r_0_14a : Option Addr) (r_0_14n r_0_14c : Nat) (r_0_15a : Option Addr) (r_0_15n r_0_15c : Nat) (r_0_16a : Option Addr) (r_0_16n r_0_16c : Nat) (r_0_17 r_0_18 r_0_19 r_0_20 : Int) (Q : QT) (h : Heap) : Prop :=
 alV h (.cells #[.int .i64 r_0_0, .int .i64 r_0_1, .slice r_0_2a r_0_2n r_0_2c, .slice r_0_3a r_0_3n r_0_3c, .slice r_0_4a r_0_4n r_0_4c, .slice r_0_5a r_0_5n r_0_5c, .bool r_0_6, .int .i64 r_0_7, .int .i64 r_0_8, .int .i64 r_0_9, .string r_0_10, .int .i64 r_0_11, .int .i64 r_0_12, .slice r_0_13a r_0_13n r_0_13c, .slice r_0_14a r_0_14n r_0_14c, .slice r_0_15a r_0_15n r_0_15c, .slice r_0_16a r_0_16n r_0_16c, .int .i64 r_0_17, .int .i64 r_0_18, .int .i64 r_0_19, .int .i64 r_0_20] T_api_Rule) fun t1 h1 => alV h1 (.cells #[.string (⟨#[]⟩ : ByteArray), .bool false] T_api_Pattern) fun t2 h2 => ldI h2 t1 .i64 fun t6_0 => ldI h2 (Addr.add t1 1) .i64 fun t6_1 => ldL h2 (Addr.add t1 2) fun t6_2a t6_2n t6_2c => ldL h2 (Addr.add t1 3) fun t6_3a t6_3n t6_3c => ldL h2 (Addr.add t1 4) fun t6_4a t6_4n t6_4c => ldL h2 (Addr.add t1 5) fun t6_5a t6_5n t6_5c => ldB h2 (Addr.add t1 6) fun t6_6 => ldI h2 (Addr.add t1 7) .i64 fun t6_7 => ldI h2 (Addr.add t1 8) .i64 fun t6_8 => ldI h2 (Addr.add t1 9) .i64 fun t6_9 => ldS h2 (Addr.add t1 10) fun t6_10 => ldI h2 (Addr.add t1 11) .i64 fun t6_11 => ldI h2 (Addr.add t1 12) .i64 fun t6_12 => ldL h2 (Addr.add t1 13) fun t6_13a t6_13n t6_13c => ldL h2 (Addr.add t1 14) fun t6_14a t6_14n t6_14c => ldL h2 (Addr.add t1 15) fun t6_15a t6_15n t6_15c => ldL h2 (Addr.add t1 16) fun t6_16a t6_16n t6_16c => ldI h2 (Addr.add t1 17) .i64 fun t6_17 => ldI h2 (Addr.add t1 18) .i64 fun t6_18 => ldI h2 (Addr.add t1 19) .i64 fun t6_19 => ldI h2 (Addr.add t1 20) .i64 fun t6_20 => CallT Try.prog fn_fastpattern_Choose #[.agg #[.int .i64 t6_0, .int .i64 t6_1, .slice t6_2a t6_2n t6_2c, .slice t6_3a t6_3n t6_3c, .slice t6_4a t6_4n t6_4c, .slice t6_5a t6_5n t6_5c, .bool t6_6, .int .i64 t6_7, .int .i64 t6_8, .int .i64 t6_9, .string t6_10, .int .i64 t6_11, .int .i64 t6_12, .slice t6_13a t6_13n t6_13c, .slice t6_14a t6_14n t6_14c, .slice t6_15a t6_15n t6_15c, .slice t6_16a t6_16n t6_16c, .int .i64 t6_17, .int .i64 t6_18, .int .i64 t6_19, .int .i64 t6_20]] h2 fun v h3 => ∃ t7 : Int, v = .int .i64 t7 ∧ if (decide (t7 < 0)) = true then (stN h3 t2 [.string (⟨#[]⟩ : ByteArray), .bool false] 0 fun h4 => ldS h4 t2 fun r0_0 => ldB h4 (Addr.add t2 1) fun r0_1 => Q (.tuple #[.agg #[.string r0_0, .bool r0_1], .bool false]) h4) else (ldL h3 (Addr.add t1 14) fun t12a t12n t12c => idxA t7 t12n (nn t12a fun t14 => ldS h3 (Addr.add t14 ((t7).toNat * 7)) fun t16 => ldL h3 (Addr.add t1 14) fun t19a t19n t19c => idxA t7 t19n (nn t19a fun t21 => ldB h3 (Addr.add (Addr.add t21 ((t7).toNat * 7)) 1) fun t23 => (CallT Try.prog fn_strings_Clone #[.string t16] h3 fun v h5 => ∃ t17 : ByteArray, v = .string t17 ∧ (ldL h5 (Addr.add t1 14) fun t919a t919n t919c => (.slice t919a t919n t919c : Value) = .slice t19a t19n t19c) ∧ (ldB h5 (Addr.add (Addr.add t21 ((t7).toNat * 7)) 1) fun t923 => (.bool t923 : Value) = .bool t23) ∧ alV h5 (.cells #[.string (⟨#[]⟩ : ByteArray), .bool false] T_api_Pattern) fun t5 h6 => (ldL h6 (Addr.add t1 14) fun t912a t912n t912c => (.slice t912a t912n t912c : Value) = .slice t12a t12n t12c) ∧ (ldS h6 (Addr.add t14 ((t7).toNat * 7)) fun t916 => (.string t916 : Value) = .string t16) ∧ (ldL h6 (Addr.add t1 14) fun t919a t919n t919c => (.slice t919a t919n t919c : Value) = .slice t19a t19n t19c) ∧ (ldB h6 (Addr.add (Addr.add t21 ((t7).toNat * 7)) 1) fun t923 => (.bool t923 : Value) = .bool t23) ∧ stN h6 t5 [.string t17, .bool t23] 0 fun h7 => fastpattern_Pattern_b2 t2 t5 Q h7) ∧ (alV h3 (.cells #[.string (⟨#[]⟩ : ByteArray), .bool false] T_api_Pattern) fun t5 h8 => (ldL h8 (Addr.add t1 14) fun t912a t912n t912c => (.slice t912a t912n t912c : Value) = .slice t12a t12n t12c) ∧ (ldS h8 (Addr.add t14 ((t7).toNat * 7)) fun t916 => (.string t916 : Value) = .string t16) ∧ (ldL h8 (Addr.add t1 14) fun t919a t919n t919c => (.slice t919a t919n t919c : Value) = .slice t19a t19n t19c) ∧ (ldB h8 (Addr.add (Addr.add t21 ((t7).toNat * 7)) 1) fun t923 => (.bool t923 : Value) = .bool t23) ∧ CallT Try.prog fn_strings_Clone #[.string t16] h8 fun v h9 => ∃ t17 : ByteArray, v = .string t17 ∧ (ldL h9 (Addr.add t1 14) fun t919a t919n t919c => (.slice t919a t919n t919c : Value) = .slice t19a t19n t19c) ∧ (ldB h9 (Addr.add (Addr.add t21 ((t7).toNat * 7)) 1) fun t923 => (.bool t923 : Value) = .bool t23) ∧ stN h9 t5 [.string t17, .bool t23] 0 fun h10 => fastpattern_Pattern_b2 t2 t5 Q h10))))
set_option maxRecDepth 100000 in
theorem fastpattern_Pattern_s (r_0_0 r_0_1 : Int) (r_0_2a : Option Addr) (r_0_2n r_0_2c : Nat) (r_0_3a : Option Addr) (r_0_3n r_0_3c : Nat) (r_0_4a : Option Addr) (r_0_4n r_0_4c : Nat) (r_0_5a : Option Addr) (r_0_5n r_0_5c : Nat) (r_0_6 : Bool) (r_0_7 r_0_8 r_0_9 : Int) (r_0_10 : ByteArray) (r_0_11 r_0_12 : Int) (r_0_13a : Option Addr) (r_0_13n r_0_13c : Nat) (r_0_14a : Option Addr) (r_0_14n r_0_14c : Nat) (r_0_15a : Option Addr) (r_0_15n r_0_15c : Nat) (r_0_16a : Option Addr) (r_0_16n r_0_16c : Nat) (r_0_17 r_0_18 r_0_19 r_0_20 : Int) {Q : QT} {h : Heap} (hk : fastpattern_Pattern_v r_0_0 r_0_1 r_0_2a r_0_2n r_0_2c r_0_3a r_0_3n r_0_3c r_0_4a r_0_4n r_0_4c r_0_5a r_0_5n r_0_5c r_0_6 r_0_7 r_0_8 r_0_9 r_0_10 r_0_11 r_0_12 r_0_13a r_0_13n r_0_13c r_0_14a r_0_14n r_0_14c r_0_15a r_0_15n r_0_15c r_0_16a r_0_16n r_0_16c r_0_17 r_0_18 r_0_19 r_0_20 Q h) : CallT Try.prog fn_fastpattern_Pattern #[.agg #[.int .i64 r_0_0, .int .i64 r_0_1, .slice r_0_2a r_0_2n r_0_2c, .slice r_0_3a r_0_3n r_0_3c, .slice r_0_4a r_0_4n r_0_4c, .slice r_0_5a r_0_5n r_0_5c, .bool r_0_6, .int .i64 r_0_7, .int .i64 r_0_8, .int .i64 r_0_9, .string r_0_10, .int .i64 r_0_11, .int .i64 r_0_12, .slice r_0_13a r_0_13n r_0_13c, .slice r_0_14a r_0_14n r_0_14c, .slice r_0_15a r_0_15n r_0_15c, .slice r_0_16a r_0_16n r_0_16c, .int .i64 r_0_17, .int .i64 r_0_18, .int .i64 r_0_19, .int .i64 r_0_20]] h Q :=
 callU follows Try.func13 (Try.call13 _) rfl rfl [(12, fun e h => dA (e 2) fun t2 => dA (e 5) fun p_5 => fastpattern_Pattern_b2 t2 p_5 Q h), (16, fun e h => dA (e 2) fun t2 => dA (e 5) fun p_5 => fastpattern_Pattern_b1 t2 p_5 Q h)] []
 ⟨fun e h _ hk => by
 have F := Ag.nil (e := e)
 have ⟨t2, F, hk⟩ := eA F hk
 have ⟨p_5, F, hk⟩ := eA F hk
 exact cutU F (by as_aux_lemma => kernel_rfl) hk, fun e h _ hk => by
 have F := Ag.nil (e := e)
 have ⟨t2, F, hk⟩ := eA F hk
 have ⟨p_5, F, hk⟩ := eA F hk
 exact cutU F (by as_aux_lemma => kernel_rfl) hk, trivial⟩
 trivial (by as_aux_lemma => kernel_rfl) hk
/-! ### intrusion/intrusionref46.Pattern -/
def ref46_Pattern_v (r_0_0 r_0_1 : Int) (r_0_2a : Option Addr) (r_0_2n r_0_2c : Nat) (r_0_3a : Option Addr) (r_0_3n r_0_3c : Nat) (r_0_4a : Option Addr) (r_0_4n r_0_4c : Nat) (r_0_5a : Option Addr) (r_0_5n r_0_5c : Nat) (r_0_6 : Bool) (r_0_7 r_0_8 r_0_9 : Int) (r_0_10 : ByteArray) (r_0_11 r_0_12 : Int) (r_0_13a : Option Addr) (r_0_13n r_0_13c : Nat) (r_0_14a : Option Addr) (r_0_14n r_0_14c : Nat) (r_0_15a : Option Addr) (r_0_15n r_0_15c : Nat) (r_0_16a : Option Addr) (r_0_16n r_0_16c : Nat) (r_0_17 r_0_18 r_0_19 r_0_20 : Int) (Q : QT) (h : Heap) : Prop :=
 alV h (.cells #[.int .i64 r_0_0, .int .i64 r_0_1, .slice r_0_2a r_0_2n r_0_2c, .slice r_0_3a r_0_3n r_0_3c, .slice r_0_4a r_0_4n r_0_4c, .slice r_0_5a r_0_5n r_0_5c, .bool r_0_6, .int .i64 r_0_7, .int .i64 r_0_8, .int .i64 r_0_9, .string r_0_10, .int .i64 r_0_11, .int .i64 r_0_12, .slice r_0_13a r_0_13n r_0_13c, .slice r_0_14a r_0_14n r_0_14c, .slice r_0_15a r_0_15n r_0_15c, .slice r_0_16a r_0_16n r_0_16c, .int .i64 r_0_17, .int .i64 r_0_18, .int .i64 r_0_19, .int .i64 r_0_20] T_api_Rule) fun t1 h1 => alV h1 (.cells #[.string (⟨#[]⟩ : ByteArray), .bool false] T_api_Pattern) fun t2 h2 => ldI h2 t1 .i64 fun t6_0 => ldI h2 (Addr.add t1 1) .i64 fun t6_1 => ldL h2 (Addr.add t1 2) fun t6_2a t6_2n t6_2c => ldL h2 (Addr.add t1 3) fun t6_3a t6_3n t6_3c => ldL h2 (Addr.add t1 4) fun t6_4a t6_4n t6_4c => ldL h2 (Addr.add t1 5) fun t6_5a t6_5n t6_5c => ldB h2 (Addr.add t1 6) fun t6_6 => ldI h2 (Addr.add t1 7) .i64 fun t6_7 => ldI h2 (Addr.add t1 8) .i64 fun t6_8 => ldI h2 (Addr.add t1 9) .i64 fun t6_9 => ldS h2 (Addr.add t1 10) fun t6_10 => ldI h2 (Addr.add t1 11) .i64 fun t6_11 => ldI h2 (Addr.add t1 12) .i64 fun t6_12 => ldL h2 (Addr.add t1 13) fun t6_13a t6_13n t6_13c => ldL h2 (Addr.add t1 14) fun t6_14a t6_14n t6_14c => ldL h2 (Addr.add t1 15) fun t6_15a t6_15n t6_15c => ldL h2 (Addr.add t1 16) fun t6_16a t6_16n t6_16c => ldI h2 (Addr.add t1 17) .i64 fun t6_17 => ldI h2 (Addr.add t1 18) .i64 fun t6_18 => ldI h2 (Addr.add t1 19) .i64 fun t6_19 => ldI h2 (Addr.add t1 20) .i64 fun t6_20 => CallT Try.prog fn_ref46_Choose #[.agg #[.int .i64 t6_0, .int .i64 t6_1, .slice t6_2a t6_2n t6_2c, .slice t6_3a t6_3n t6_3c, .slice t6_4a t6_4n t6_4c, .slice t6_5a t6_5n t6_5c, .bool t6_6, .int .i64 t6_7, .int .i64 t6_8, .int .i64 t6_9, .string t6_10, .int .i64 t6_11, .int .i64 t6_12, .slice t6_13a t6_13n t6_13c, .slice t6_14a t6_14n t6_14c, .slice t6_15a t6_15n t6_15c, .slice t6_16a t6_16n t6_16c, .int .i64 t6_17, .int .i64 t6_18, .int .i64 t6_19, .int .i64 t6_20]] h2 fun v h3 => ∃ t7 : Int, v = .int .i64 t7 ∧ if (decide (t7 < 0)) = true then (stN h3 t2 [.string (⟨#[]⟩ : ByteArray), .bool false] 0 fun h4 => ldS h4 t2 fun r0_0 => ldB h4 (Addr.add t2 1) fun r0_1 => Q (.tuple #[.agg #[.string r0_0, .bool r0_1], .bool false]) h4) else (ldL h3 (Addr.add t1 14) fun t12a t12n t12c => idxA t7 t12n (nn t12a fun t14 => ldS h3 (Addr.add t14 ((t7).toNat * 7)) fun t15_0 => ldB h3 (Addr.add (Addr.add t14 ((t7).toNat * 7)) 1) fun t15_1 => ldB h3 (Addr.add (Addr.add t14 ((t7).toNat * 7)) 2) fun t15_2 => ldB h3 (Addr.add (Addr.add t14 ((t7).toNat * 7)) 3) fun t15_3 => ldI h3 (Addr.add (Addr.add t14 ((t7).toNat * 7)) 4) .i64 fun t15_4 => ldI h3 (Addr.add (Addr.add t14 ((t7).toNat * 7)) 5) .i64 fun t15_5 => ldB h3 (Addr.add (Addr.add t14 ((t7).toNat * 7)) 6) fun t15_6 => alV h3 (.cells #[.string (⟨#[]⟩ : ByteArray), .bool false, .bool false, .bool false, .int .i64 0, .int .i64 0, .bool false] T_api_Content) fun t5 h5 => stN h5 t5 [.string t15_0, .bool t15_1, .bool t15_2, .bool t15_3, .int .i64 t15_4, .int .i64 t15_5, .bool t15_6] 0 fun h6 => ldB h6 (Addr.add t5 1) fun t17 => if t17 = true then (ldS h6 t5 fun t19 => CallT Try.prog fn_ref46_Small #[.string t19] h6 fun v h7 => ∃ t20 : ByteArray, v = .string t20 ∧ stN h7 t2 [.string t20, .bool true] 0 fun h8 => ldS h8 t2 fun r0_0 => ldB h8 (Addr.add t2 1) fun r0_1 => Q (.tuple #[.agg #[.string r0_0, .bool r0_1], .bool true]) h8) else (ldS h6 t5 fun t23 => stN h6 t2 [.string t23, .bool false] 0 fun h9 => ldS h9 t2 fun r0_0 => ldB h9 (Addr.add t2 1) fun r0_1 => Q (.tuple #[.agg #[.string r0_0, .bool r0_1], .bool true]) h9)))
set_option maxRecDepth 100000 in
theorem ref46_Pattern_s (r_0_0 r_0_1 : Int) (r_0_2a : Option Addr) (r_0_2n r_0_2c : Nat) (r_0_3a : Option Addr) (r_0_3n r_0_3c : Nat) (r_0_4a : Option Addr) (r_0_4n r_0_4c : Nat) (r_0_5a : Option Addr) (r_0_5n r_0_5c : Nat) (r_0_6 : Bool) (r_0_7 r_0_8 r_0_9 : Int) (r_0_10 : ByteArray) (r_0_11 r_0_12 : Int) (r_0_13a : Option Addr) (r_0_13n r_0_13c : Nat) (r_0_14a : Option Addr) (r_0_14n r_0_14c : Nat) (r_0_15a : Option Addr) (r_0_15n r_0_15c : Nat) (r_0_16a : Option Addr) (r_0_16n r_0_16c : Nat) (r_0_17 r_0_18 r_0_19 r_0_20 : Int) {Q : QT} {h : Heap} (hk : ref46_Pattern_v r_0_0 r_0_1 r_0_2a r_0_2n r_0_2c r_0_3a r_0_3n r_0_3c r_0_4a r_0_4n r_0_4c r_0_5a r_0_5n r_0_5c r_0_6 r_0_7 r_0_8 r_0_9 r_0_10 r_0_11 r_0_12 r_0_13a r_0_13n r_0_13c r_0_14a r_0_14n r_0_14c r_0_15a r_0_15n r_0_15c r_0_16a r_0_16n r_0_16c r_0_17 r_0_18 r_0_19 r_0_20 Q h) : CallT Try.prog fn_ref46_Pattern #[.agg #[.int .i64 r_0_0, .int .i64 r_0_1, .slice r_0_2a r_0_2n r_0_2c, .slice r_0_3a r_0_3n r_0_3c, .slice r_0_4a r_0_4n r_0_4c, .slice r_0_5a r_0_5n r_0_5c, .bool r_0_6, .int .i64 r_0_7, .int .i64 r_0_8, .int .i64 r_0_9, .string r_0_10, .int .i64 r_0_11, .int .i64 r_0_12, .slice r_0_13a r_0_13n r_0_13c, .slice r_0_14a r_0_14n r_0_14c, .slice r_0_15a r_0_15n r_0_15c, .slice r_0_16a r_0_16n r_0_16c, .int .i64 r_0_17, .int .i64 r_0_18, .int .i64 r_0_19, .int .i64 r_0_20]] h Q :=
 callU follows Try.func14 (Try.call14 _) rfl rfl [] []
 trivial
 trivial (by as_aux_lemma => kernel_rfl) hk
/-! ### intrusion/fastpattern.Choose -/
def fastpattern_Choose_l1 (r_1 : Addr) (t10a : Option Addr) (t10n t10c : Nat) (t11 : Int) (Q : QT) (best_3 t12 : Int) (h : Heap) (Kn1 : Int × Int → Heap → Prop) : Prop :=
 if (decide (t12 < t11)) = true then (idxA t12 t10n (nn t10a fun t15 => ldS h (Addr.add t15 ((t12).toNat * 7)) fun t16_0 => ldB h (Addr.add (Addr.add t15 ((t12).toNat * 7)) 1) fun t16_1 => ldB h (Addr.add (Addr.add t15 ((t12).toNat * 7)) 2) fun t16_2 => ldB h (Addr.add (Addr.add t15 ((t12).toNat * 7)) 3) fun t16_3 => ldI h (Addr.add (Addr.add t15 ((t12).toNat * 7)) 4) .i64 fun t16_4 => ldI h (Addr.add (Addr.add t15 ((t12).toNat * 7)) 5) .i64 fun t16_5 => ldB h (Addr.add (Addr.add t15 ((t12).toNat * 7)) 6) fun t16_6 => alV h (.cells #[.string (⟨#[]⟩ : ByteArray), .bool false, .bool false, .bool false, .int .i64 0, .int .i64 0, .bool false] T_api_Content) fun t5 h2 => stN h2 t5 [.string t16_0, .bool t16_1, .bool t16_2, .bool t16_3, .int .i64 t16_4, .int .i64 t16_5, .bool t16_6] 0 fun h3 => ldB h3 (Addr.add t5 2) fun t18 => if t18 = true then (Kn1 (best_3, wrap .i64 (t12 + 1)) h3) else (ldS h3 t5 fun t21 => if (t21.toList == (⟨#[]⟩ : ByteArray).toList) = true then (Kn1 (best_3, wrap .i64 (t12 + 1)) h3) else (ldB h3 (Addr.add t5 6) fun t25 => if t25 = true then (Q (.int .i64 t12) h3) else (if (decide (best_3 < 0)) = true then (Kn1 (t12, wrap .i64 (t12 + 1)) h3) else (ldL h3 (Addr.add r_1 14) fun t31a t31n t31c => idxA best_3 t31n (nn t31a fun t33 => ldS h3 (Addr.add t33 ((best_3).toNat * 7)) fun t34_0 => ldB h3 (Addr.add (Addr.add t33 ((best_3).toNat * 7)) 1) fun t34_1 => ldB h3 (Addr.add (Addr.add t33 ((best_3).toNat * 7)) 2) fun t34_2 => ldB h3 (Addr.add (Addr.add t33 ((best_3).toNat * 7)) 3) fun t34_3 => ldI h3 (Addr.add (Addr.add t33 ((best_3).toNat * 7)) 4) .i64 fun t34_4 => ldI h3 (Addr.add (Addr.add t33 ((best_3).toNat * 7)) 5) .i64 fun t34_5 => ldB h3 (Addr.add (Addr.add t33 ((best_3).toNat * 7)) 6) fun t34_6 => alV h3 (.cells #[.string (⟨#[]⟩ : ByteArray), .bool false, .bool false, .bool false, .int .i64 0, .int .i64 0, .bool false] T_api_Content) fun t6 h4 => stN h4 t6 [.string t34_0, .bool t34_1, .bool t34_2, .bool t34_3, .int .i64 t34_4, .int .i64 t34_5, .bool t34_6] 0 fun h5 => ldS h5 t5 fun t36 => ldS h5 t6 fun t39 => CallT Try.prog fn_fastpattern_Score #[.string t36] h5 fun v h6 => ∃ t37 : Int, v = .int .i64 t37 ∧ (ldS h6 t6 fun t939 => (.string t939 : Value) = .string t39) ∧ CallT Try.prog fn_fastpattern_Score #[.string t39] h6 fun v h7 => ∃ t40 : Int, v = .int .i64 t40 ∧ if (decide (t37 > t40)) = true then (Kn1 (t12, wrap .i64 (t12 + 1)) h7) else (if (t37 == t40) = true then (ldS h7 t5 fun t50 => ldS h7 t6 fun t53 => if (decide (((t50.size : Nat) : Int) > ((t53.size : Nat) : Int))) = true then (Kn1 (t12, wrap .i64 (t12 + 1)) h7) else (Kn1 (best_3, wrap .i64 (t12 + 1)) h7)) else (Kn1 (best_3, wrap .i64 (t12 + 1)) h7))))))))) else (Q (.int .i64 best_3) h)
def fastpattern_Choose_v (r_0_0 r_0_1 : Int) (r_0_2a : Option Addr) (r_0_2n r_0_2c : Nat) (r_0_3a : Option Addr) (r_0_3n r_0_3c : Nat) (r_0_4a : Option Addr) (r_0_4n r_0_4c : Nat) (r_0_5a : Option Addr) (r_0_5n r_0_5c : Nat) (r_0_6 : Bool) (r_0_7 r_0_8 r_0_9 : Int) (r_0_10 : ByteArray) (r_0_11 r_0_12 : Int) (r_0_13a : Option Addr) (r_0_13n r_0_13c : Nat) (r_0_14a : Option Addr) (r_0_14n r_0_14c : Nat) (r_0_15a : Option Addr) (r_0_15n r_0_15c : Nat) (r_0_16a : Option Addr) (r_0_16n r_0_16c : Nat) (r_0_17 r_0_18 r_0_19 r_0_20 : Int) (Q : QT) (h : Heap) : Prop :=
 alV h (.cells #[.int .i64 r_0_0, .int .i64 r_0_1, .slice r_0_2a r_0_2n r_0_2c, .slice r_0_3a r_0_3n r_0_3c, .slice r_0_4a r_0_4n r_0_4c, .slice r_0_5a r_0_5n r_0_5c, .bool r_0_6, .int .i64 r_0_7, .int .i64 r_0_8, .int .i64 r_0_9, .string r_0_10, .int .i64 r_0_11, .int .i64 r_0_12, .slice r_0_13a r_0_13n r_0_13c, .slice r_0_14a r_0_14n r_0_14c, .slice r_0_15a r_0_15n r_0_15c, .slice r_0_16a r_0_16n r_0_16c, .int .i64 r_0_17, .int .i64 r_0_18, .int .i64 r_0_19, .int .i64 r_0_20] T_api_Rule) fun t1 h1 => ldL h1 (Addr.add t1 14) fun t10a t10n t10c => LoopV (fun (s : Int × Int) h Kn => fastpattern_Choose_l1 t1 t10a t10n t10c ((t10n : Nat) : Int) Q s.1 s.2 h Kn) ((-1), 0) h1
set_option maxRecDepth 100000 in
theorem fastpattern_Choose_s (r_0_0 r_0_1 : Int) (r_0_2a : Option Addr) (r_0_2n r_0_2c : Nat) (r_0_3a : Option Addr) (r_0_3n r_0_3c : Nat) (r_0_4a : Option Addr) (r_0_4n r_0_4c : Nat) (r_0_5a : Option Addr) (r_0_5n r_0_5c : Nat) (r_0_6 : Bool) (r_0_7 r_0_8 r_0_9 : Int) (r_0_10 : ByteArray) (r_0_11 r_0_12 : Int) (r_0_13a : Option Addr) (r_0_13n r_0_13c : Nat) (r_0_14a : Option Addr) (r_0_14n r_0_14c : Nat) (r_0_15a : Option Addr) (r_0_15n r_0_15c : Nat) (r_0_16a : Option Addr) (r_0_16n r_0_16c : Nat) (r_0_17 r_0_18 r_0_19 r_0_20 : Int) {Q : QT} {h : Heap} (hk : fastpattern_Choose_v r_0_0 r_0_1 r_0_2a r_0_2n r_0_2c r_0_3a r_0_3n r_0_3c r_0_4a r_0_4n r_0_4c r_0_5a r_0_5n r_0_5c r_0_6 r_0_7 r_0_8 r_0_9 r_0_10 r_0_11 r_0_12 r_0_13a r_0_13n r_0_13c r_0_14a r_0_14n r_0_14c r_0_15a r_0_15n r_0_15c r_0_16a r_0_16n r_0_16c r_0_17 r_0_18 r_0_19 r_0_20 Q h) : CallT Try.prog fn_fastpattern_Choose #[.agg #[.int .i64 r_0_0, .int .i64 r_0_1, .slice r_0_2a r_0_2n r_0_2c, .slice r_0_3a r_0_3n r_0_3c, .slice r_0_4a r_0_4n r_0_4c, .slice r_0_5a r_0_5n r_0_5c, .bool r_0_6, .int .i64 r_0_7, .int .i64 r_0_8, .int .i64 r_0_9, .string r_0_10, .int .i64 r_0_11, .int .i64 r_0_12, .slice r_0_13a r_0_13n r_0_13c, .slice r_0_14a r_0_14n r_0_14c, .slice r_0_15a r_0_15n r_0_15c, .slice r_0_16a r_0_16n r_0_16c, .int .i64 r_0_17, .int .i64 r_0_18, .int .i64 r_0_19, .int .i64 r_0_20]] h Q :=
 callU follows Try.func15 (Try.call15 _) rfl rfl [] [(8, fun e h => dA (e 1) fun r_1 => dL (e 10) fun t10a t10n t10c => dI .i64 (e 11) fun t11 => dI .i64 (e 3) fun best_3 => dI .i64 (e 12) fun t12 => LoopV (fun (s : Int × Int) h Kn => fastpattern_Choose_l1 r_1 t10a t10n t10c t11 Q s.1 s.2 h Kn) (best_3, t12) h)]
 trivial
 ⟨⟨by kernel_rfl, fun e h he hk => by
 have F := Ag.nil (e := e)
 have ⟨r_1, F, hk⟩ := eA F hk
 have ⟨t10a, t10n, t10c, F, hk⟩ := eL F hk
 have ⟨t11, F, hk⟩ := eI F hk
 have ⟨best_3, F, hk⟩ := eI F hk
 have ⟨t12, F, hk⟩ := eI F hk
 exact loopU (s0 := (best_3, t12)) follows (fun _ h => by cases h) he F (fun s => [(12, .int .i64 s.2), (3, .int .i64 s.1)]) (by kernel_rfl) (F.take 2) hk (fun Kn1 e h => dI .i64 (e 3) fun best_3 => dI .i64 (e 12) fun t12 => Kn1 (best_3, t12) h) (fun Kn1 e h hk => by
  have F := Ag.nil (e := e)
  have ⟨best_3, F, hk⟩ := eI F hk
  have ⟨t12, F, hk⟩ := eI F hk
  exact ⟨(best_3, t12), F, hk⟩)
  (fun Kn1 => []) (fun Kn1 => [])
  (fun Kn1 => trivial)
  (fun Kn1 => trivial) (fun e s h Kn1 => by as_aux_lemma => kernel_rfl)⟩, trivial⟩ (by as_aux_lemma => kernel_rfl) hk
/-! ### intrusion/intrusionref46.Choose -/
def ref46_Choose_l1 (r_1 : Addr) (Q : QT) (best_3 i_4 : Int) (h : Heap) (Kn1 : Int × Int → Heap → Prop) : Prop :=
 ldL h (Addr.add r_1 14) fun t9a t9n t9c => if (decide (i_4 < ((t9n : Nat) : Int))) = true then (ldL h (Addr.add r_1 14) fun t15a t15n t15c => idxA i_4 t15n (nn t15a fun t17 => ldS h (Addr.add t17 ((i_4).toNat * 7)) fun t18_0 => ldB h (Addr.add (Addr.add t17 ((i_4).toNat * 7)) 1) fun t18_1 => ldB h (Addr.add (Addr.add t17 ((i_4).toNat * 7)) 2) fun t18_2 => ldB h (Addr.add (Addr.add t17 ((i_4).toNat * 7)) 3) fun t18_3 => ldI h (Addr.add (Addr.add t17 ((i_4).toNat * 7)) 4) .i64 fun t18_4 => ldI h (Addr.add (Addr.add t17 ((i_4).toNat * 7)) 5) .i64 fun t18_5 => ldB h (Addr.add (Addr.add t17 ((i_4).toNat * 7)) 6) fun t18_6 => alV h (.cells #[.string (⟨#[]⟩ : ByteArray), .bool false, .bool false, .bool false, .int .i64 0, .int .i64 0, .bool false] T_api_Content) fun t5 h2 => stN h2 t5 [.string t18_0, .bool t18_1, .bool t18_2, .bool t18_3, .int .i64 t18_4, .int .i64 t18_5, .bool t18_6] 0 fun h3 => ldS h3 t5 fun t19_0 => ldB h3 (Addr.add t5 1) fun t19_1 => ldB h3 (Addr.add t5 2) fun t19_2 => ldB h3 (Addr.add t5 3) fun t19_3 => ldI h3 (Addr.add t5 4) .i64 fun t19_4 => ldI h3 (Addr.add t5 5) .i64 fun t19_5 => ldB h3 (Addr.add t5 6) fun t19_6 => CallT Try.prog fn_ref46_counts #[.agg #[.string t19_0, .bool t19_1, .bool t19_2, .bool t19_3, .int .i64 t19_4, .int .i64 t19_5, .bool t19_6]] h3 fun v h4 => ∃ t20 : Bool, v = .bool t20 ∧ if (!t20) = true then (Kn1 (best_3, wrap .i64 (i_4 + 1)) h4) else (ldB h4 (Addr.add t5 6) fun t23 => if t23 = true then (Q (.int .i64 i_4) h4) else (if (decide (best_3 < 0)) = true then (Kn1 (i_4, wrap .i64 (i_4 + 1)) h4) else (ldL h4 (Addr.add r_1 14) fun t29a t29n t29c => idxA best_3 t29n (nn t29a fun t31 => ldS h4 (Addr.add t31 ((best_3).toNat * 7)) fun t33 => ldS h4 t5 fun t35 => CallT Try.prog fn_ref46_Score #[.string t35] h4 fun v h5 => ∃ t36 : Int, v = .int .i64 t36 ∧ CallT Try.prog fn_ref46_Score #[.string t33] h5 fun v h6 => ∃ t38 : Int, v = .int .i64 t38 ∧ if (decide (t36 > t38)) = true then (Kn1 (i_4, wrap .i64 (i_4 + 1)) h6) else (ldS h6 t5 fun t42 => CallT Try.prog fn_ref46_Score #[.string t42] h6 fun v h7 => ∃ t43 : Int, v = .int .i64 t43 ∧ CallT Try.prog fn_ref46_Score #[.string t33] h7 fun v h8 => ∃ t45 : Int, v = .int .i64 t45 ∧ if (t43 == t45) = true then (ldS h8 t5 fun t49 => if (decide (((t49.size : Nat) : Int) > ((t33.size : Nat) : Int))) = true then (Kn1 (i_4, wrap .i64 (i_4 + 1)) h8) else (Kn1 (best_3, wrap .i64 (i_4 + 1)) h8)) else (Kn1 (best_3, wrap .i64 (i_4 + 1)) h8)))))))) else (Q (.int .i64 best_3) h)
def ref46_Choose_v (r_0_0 r_0_1 : Int) (r_0_2a : Option Addr) (r_0_2n r_0_2c : Nat) (r_0_3a : Option Addr) (r_0_3n r_0_3c : Nat) (r_0_4a : Option Addr) (r_0_4n r_0_4c : Nat) (r_0_5a : Option Addr) (r_0_5n r_0_5c : Nat) (r_0_6 : Bool) (r_0_7 r_0_8 r_0_9 : Int) (r_0_10 : ByteArray) (r_0_11 r_0_12 : Int) (r_0_13a : Option Addr) (r_0_13n r_0_13c : Nat) (r_0_14a : Option Addr) (r_0_14n r_0_14c : Nat) (r_0_15a : Option Addr) (r_0_15n r_0_15c : Nat) (r_0_16a : Option Addr) (r_0_16n r_0_16c : Nat) (r_0_17 r_0_18 r_0_19 r_0_20 : Int) (Q : QT) (h : Heap) : Prop :=
 alV h (.cells #[.int .i64 r_0_0, .int .i64 r_0_1, .slice r_0_2a r_0_2n r_0_2c, .slice r_0_3a r_0_3n r_0_3c, .slice r_0_4a r_0_4n r_0_4c, .slice r_0_5a r_0_5n r_0_5c, .bool r_0_6, .int .i64 r_0_7, .int .i64 r_0_8, .int .i64 r_0_9, .string r_0_10, .int .i64 r_0_11, .int .i64 r_0_12, .slice r_0_13a r_0_13n r_0_13c, .slice r_0_14a r_0_14n r_0_14c, .slice r_0_15a r_0_15n r_0_15c, .slice r_0_16a r_0_16n r_0_16c, .int .i64 r_0_17, .int .i64 r_0_18, .int .i64 r_0_19, .int .i64 r_0_20] T_api_Rule) fun t1 h1 => LoopV (fun (s : Int × Int) h Kn => ref46_Choose_l1 t1 Q s.1 s.2 h Kn) ((-1), 0) h1
set_option maxRecDepth 100000 in
theorem ref46_Choose_s (r_0_0 r_0_1 : Int) (r_0_2a : Option Addr) (r_0_2n r_0_2c : Nat) (r_0_3a : Option Addr) (r_0_3n r_0_3c : Nat) (r_0_4a : Option Addr) (r_0_4n r_0_4c : Nat) (r_0_5a : Option Addr) (r_0_5n r_0_5c : Nat) (r_0_6 : Bool) (r_0_7 r_0_8 r_0_9 : Int) (r_0_10 : ByteArray) (r_0_11 r_0_12 : Int) (r_0_13a : Option Addr) (r_0_13n r_0_13c : Nat) (r_0_14a : Option Addr) (r_0_14n r_0_14c : Nat) (r_0_15a : Option Addr) (r_0_15n r_0_15c : Nat) (r_0_16a : Option Addr) (r_0_16n r_0_16c : Nat) (r_0_17 r_0_18 r_0_19 r_0_20 : Int) {Q : QT} {h : Heap} (hk : ref46_Choose_v r_0_0 r_0_1 r_0_2a r_0_2n r_0_2c r_0_3a r_0_3n r_0_3c r_0_4a r_0_4n r_0_4c r_0_5a r_0_5n r_0_5c r_0_6 r_0_7 r_0_8 r_0_9 r_0_10 r_0_11 r_0_12 r_0_13a r_0_13n r_0_13c r_0_14a r_0_14n r_0_14c r_0_15a r_0_15n r_0_15c r_0_16a r_0_16n r_0_16c r_0_17 r_0_18 r_0_19 r_0_20 Q h) : CallT Try.prog fn_ref46_Choose #[.agg #[.int .i64 r_0_0, .int .i64 r_0_1, .slice r_0_2a r_0_2n r_0_2c, .slice r_0_3a r_0_3n r_0_3c, .slice r_0_4a r_0_4n r_0_4c, .slice r_0_5a r_0_5n r_0_5c, .bool r_0_6, .int .i64 r_0_7, .int .i64 r_0_8, .int .i64 r_0_9, .string r_0_10, .int .i64 r_0_11, .int .i64 r_0_12, .slice r_0_13a r_0_13n r_0_13c, .slice r_0_14a r_0_14n r_0_14c, .slice r_0_15a r_0_15n r_0_15c, .slice r_0_16a r_0_16n r_0_16c, .int .i64 r_0_17, .int .i64 r_0_18, .int .i64 r_0_19, .int .i64 r_0_20]] h Q :=
 callU follows Try.func16 (Try.call16 _) rfl rfl [] [(8, fun e h => dA (e 1) fun r_1 => dI .i64 (e 3) fun best_3 => dI .i64 (e 4) fun i_4 => LoopV (fun (s : Int × Int) h Kn => ref46_Choose_l1 r_1 Q s.1 s.2 h Kn) (best_3, i_4) h)]
 trivial
 ⟨⟨by kernel_rfl, fun e h he hk => by
 have F := Ag.nil (e := e)
 have ⟨r_1, F, hk⟩ := eA F hk
 have ⟨best_3, F, hk⟩ := eI F hk
 have ⟨i_4, F, hk⟩ := eI F hk
 exact loopU (s0 := (best_3, i_4)) follows (fun _ h => by cases h) he F (fun s => [(4, .int .i64 s.2), (3, .int .i64 s.1)]) (by kernel_rfl) (F.take 2) hk (fun Kn1 e h => dI .i64 (e 3) fun best_3 => dI .i64 (e 4) fun i_4 => Kn1 (best_3, i_4) h) (fun Kn1 e h hk => by
  have F := Ag.nil (e := e)
  have ⟨best_3, F, hk⟩ := eI F hk
  have ⟨i_4, F, hk⟩ := eI F hk
  exact ⟨(best_3, i_4), F, hk⟩)
  (fun Kn1 => []) (fun Kn1 => [])
  (fun Kn1 => trivial)
  (fun Kn1 => trivial) (fun e s h Kn1 => by as_aux_lemma => kernel_rfl)⟩, trivial⟩ (by as_aux_lemma => kernel_rfl) hk
/-! ### intrusion/intrusionlaw46.short -/
def law46_short_b2 (l_0a : Option Addr) (l_0n l_0c : Nat) (Q : QT) (h : Heap) : Prop :=
 Q (.bool (decide (((l_0n : Nat) : Int) ≤ 40))) h
def law46_short_l1 (l_0a : Option Addr) (l_0n l_0c : Nat) (Q : QT) (i_3 : Int) (h : Heap) (Kn1 : Int → Heap → Prop) : Prop :=
 if (decide (i_3 < ((l_0n : Nat) : Int))) = true then (if (decide (i_3 < 41)) = true then (idxA i_3 l_0n (nn l_0a fun t16 => ldI h (Addr.add t16 ((i_3).toNat * 21)) .i64 fun t17_0 => ldI h (Addr.add (Addr.add t16 ((i_3).toNat * 21)) 1) .i64 fun t17_1 => ldL h (Addr.add (Addr.add t16 ((i_3).toNat * 21)) 2) fun t17_2a t17_2n t17_2c => ldL h (Addr.add (Addr.add t16 ((i_3).toNat * 21)) 3) fun t17_3a t17_3n t17_3c => ldL h (Addr.add (Addr.add t16 ((i_3).toNat * 21)) 4) fun t17_4a t17_4n t17_4c => ldL h (Addr.add (Addr.add t16 ((i_3).toNat * 21)) 5) fun t17_5a t17_5n t17_5c => ldB h (Addr.add (Addr.add t16 ((i_3).toNat * 21)) 6) fun t17_6 => ldI h (Addr.add (Addr.add t16 ((i_3).toNat * 21)) 7) .i64 fun t17_7 => ldI h (Addr.add (Addr.add t16 ((i_3).toNat * 21)) 8) .i64 fun t17_8 => ldI h (Addr.add (Addr.add t16 ((i_3).toNat * 21)) 9) .i64 fun t17_9 => ldS h (Addr.add (Addr.add t16 ((i_3).toNat * 21)) 10) fun t17_10 => ldI h (Addr.add (Addr.add t16 ((i_3).toNat * 21)) 11) .i64 fun t17_11 => ldI h (Addr.add (Addr.add t16 ((i_3).toNat * 21)) 12) .i64 fun t17_12 => ldL h (Addr.add (Addr.add t16 ((i_3).toNat * 21)) 13) fun t17_13a t17_13n t17_13c => ldL h (Addr.add (Addr.add t16 ((i_3).toNat * 21)) 14) fun t17_14a t17_14n t17_14c => ldL h (Addr.add (Addr.add t16 ((i_3).toNat * 21)) 15) fun t17_15a t17_15n t17_15c => ldL h (Addr.add (Addr.add t16 ((i_3).toNat * 21)) 16) fun t17_16a t17_16n t17_16c => ldI h (Addr.add (Addr.add t16 ((i_3).toNat * 21)) 17) .i64 fun t17_17 => ldI h (Addr.add (Addr.add t16 ((i_3).toNat * 21)) 18) .i64 fun t17_18 => ldI h (Addr.add (Addr.add t16 ((i_3).toNat * 21)) 19) .i64 fun t17_19 => ldI h (Addr.add (Addr.add t16 ((i_3).toNat * 21)) 20) .i64 fun t17_20 => CallT Try.prog fn_ref43_Short #[.agg #[.int .i64 t17_0, .int .i64 t17_1, .slice t17_2a t17_2n t17_2c, .slice t17_3a t17_3n t17_3c, .slice t17_4a t17_4n t17_4c, .slice t17_5a t17_5n t17_5c, .bool t17_6, .int .i64 t17_7, .int .i64 t17_8, .int .i64 t17_9, .string t17_10, .int .i64 t17_11, .int .i64 t17_12, .slice t17_13a t17_13n t17_13c, .slice t17_14a t17_14n t17_14c, .slice t17_15a t17_15n t17_15c, .slice t17_16a t17_16n t17_16c, .int .i64 t17_17, .int .i64 t17_18, .int .i64 t17_19, .int .i64 t17_20]] h fun v h1 => ∃ t18 : Bool, v = .bool t18 ∧ if (!t18) = true then (Q (.bool false) h1) else (Kn1 (wrap .i64 (i_3 + 1)) h1))) else (law46_short_b2 l_0a l_0n l_0c Q h)) else (law46_short_b2 l_0a l_0n l_0c Q h)
def law46_short_v (l_0a : Option Addr) (l_0n l_0c : Nat) (Q : QT) (h : Heap) : Prop :=
 LoopV (fun (s : Int) h Kn => law46_short_l1 l_0a l_0n l_0c Q s h Kn) 0 h
set_option maxRecDepth 100000 in
theorem law46_short_s (l_0a : Option Addr) (l_0n l_0c : Nat) {Q : QT} {h : Heap} (hk : law46_short_v l_0a l_0n l_0c Q h) : CallT Try.prog fn_law46_short #[.slice l_0a l_0n l_0c] h Q :=
 callU follows Try.func17 (Try.call17 _) rfl rfl [(14, fun e h => dL (e 0) fun l_0a l_0n l_0c => law46_short_b2 l_0a l_0n l_0c Q h)] [(6, fun e h => dL (e 0) fun l_0a l_0n l_0c => dI .i64 (e 3) fun i_3 => LoopV (fun (s : Int) h Kn => law46_short_l1 l_0a l_0n l_0c Q s h Kn) i_3 h)]
 ⟨fun e h _ hk => by
 have F := Ag.nil (e := e)
 have ⟨l_0a, l_0n, l_0c, F, hk⟩ := eL F hk
 exact cutU F (by as_aux_lemma => kernel_rfl) hk, trivial⟩
 ⟨⟨by kernel_rfl, fun e h he hk => by
 have F := Ag.nil (e := e)
 have ⟨l_0a, l_0n, l_0c, F, hk⟩ := eL F hk
 have ⟨i_3, F, hk⟩ := eI F hk
 exact loopU (s0 := i_3) follows (fun _ h => by cases h) he F (fun s => [(3, .int .i64 s)]) (by kernel_rfl) (F.take 1) hk (fun Kn1 e h => dI .i64 (e 3) fun i_3 => Kn1 i_3 h) (fun Kn1 e h hk => by
  have F := Ag.nil (e := e)
  have ⟨i_3, F, hk⟩ := eI F hk
  exact ⟨i_3, F, hk⟩)
  (fun Kn1 => []) (fun Kn1 => [])
  (fun Kn1 => trivial)
  (fun Kn1 => trivial) (fun e s h Kn1 => by as_aux_lemma => kernel_rfl)⟩, trivial⟩ (by as_aux_lemma => kernel_rfl) hk
/-! ### intrusion/intrusionref46.Same -/
def ref46_Same_l4 (a_0a : Option Addr) (a_0n a_0c : Nat) (b_1a : Option Addr) (b_1n b_1c : Nat) (i_5 : Int) (x_6 y_7 : Addr) (Q : QT) (Kn1 : Int → Heap → Prop) (k_9 : Int) (h : Heap) (Kn4 : Int → Heap → Prop) : Prop :=
 ldL h (Addr.add x_6 3) fun t88a t88n t88c => if (decide (k_9 < ((t88n : Nat) : Int))) = true then (ldL h (Addr.add x_6 3) fun t94a t94n t94c => idxA k_9 t94n (nn t94a fun t96 => ldL h (Addr.add t96 ((k_9).toNat * 1)) fun t97a t97n t97c => ldL h (Addr.add y_7 3) fun t99a t99n t99c => idxA k_9 t99n (nn t99a fun t101 => ldL h (Addr.add t101 ((k_9).toNat * 1)) fun t102a t102n t102c => CallT Try.prog fn_ref46_ints #[.slice t97a t97n t97c, .slice t102a t102n t102c] h fun v h11 => ∃ t103 : Bool, v = .bool t103 ∧ if (!t103) = true then (Q (.bool false) h11) else (Kn4 (wrap .i64 (k_9 + 1)) h11)))) else (Kn1 (wrap .i64 (i_5 + 1)) h)
def ref46_Same_b3 (a_0a : Option Addr) (a_0n a_0c : Nat) (b_1a : Option Addr) (b_1n b_1c : Nat) (i_5 : Int) (x_6 y_7 : Addr) (Q : QT) (Kn1 : Int → Heap → Prop) (h : Heap) : Prop :=
 LoopV (fun (s : Int) h Kn => ref46_Same_l4 a_0a a_0n a_0c b_1a b_1n b_1c i_5 x_6 y_7 Q Kn1 s h Kn) 0 h
def ref46_Same_l2 (a_0a : Option Addr) (a_0n a_0c : Nat) (b_1a : Option Addr) (b_1n b_1c : Nat) (i_5 : Int) (x_6 y_7 : Addr) (Q : QT) (Kn1 : Int → Heap → Prop) (k_8 : Int) (h : Heap) (Kn2 : Int → Heap → Prop) : Prop :=
 ldL h (Addr.add x_6 2) fun t70a t70n t70c => if (decide (k_8 < ((t70n : Nat) : Int))) = true then (ldL h (Addr.add x_6 2) fun t76a t76n t76c => idxA k_8 t76n (nn t76a fun t78 => ldS h (Addr.add t78 ((k_8).toNat * 2)) fun t79_0 => ldB h (Addr.add (Addr.add t78 ((k_8).toNat * 2)) 1) fun t79_1 => ldL h (Addr.add y_7 2) fun t81a t81n t81c => idxA k_8 t81n (nn t81a fun t83 => ldS h (Addr.add t83 ((k_8).toNat * 2)) fun t84_0 => ldB h (Addr.add (Addr.add t83 ((k_8).toNat * 2)) 1) fun t84_1 => if (!((t79_0 == t84_0) && ((t79_1 == t84_1) && true))) = true then (Q (.bool false) h) else (Kn2 (wrap .i64 (k_8 + 1)) h)))) else (ref46_Same_b3 a_0a a_0n a_0c b_1a b_1n b_1c i_5 x_6 y_7 Q Kn1 h)
def ref46_Same_b5 (a_0a : Option Addr) (a_0n a_0c : Nat) (b_1a : Option Addr) (b_1n b_1c : Nat) (i_5 : Int) (x_6 y_7 : Addr) (Q : QT) (Kn1 : Int → Heap → Prop) (h : Heap) : Prop :=
 ldI h x_6 .i64 fun t30 => ldI h y_7 .i64 fun t32 => if (t30 != t32) = true then (Q (.bool false) h) else (ldL h (Addr.add x_6 1) fun t36a t36n t36c => ldL h (Addr.add y_7 1) fun t38a t38n t38c => CallT Try.prog fn_ref46_ints #[.slice t36a t36n t36c, .slice t38a t38n t38c] h fun v h9 => ∃ t39 : Bool, v = .bool t39 ∧ if (!t39) = true then (Q (.bool false) h9) else (ldL h9 (Addr.add x_6 4) fun t44a t44n t44c => ldL h9 (Addr.add y_7 4) fun t46a t46n t46c => CallT Try.prog fn_ref46_ints #[.slice t44a t44n t44c, .slice t46a t46n t46c] h9 fun v h10 => ∃ t47 : Bool, v = .bool t47 ∧ if (!t47) = true then (Q (.bool false) h10) else (ldL h10 (Addr.add x_6 2) fun t52a t52n t52c => ldL h10 (Addr.add y_7 2) fun t55a t55n t55c => if (((t52n : Nat) : Int) != ((t55n : Nat) : Int)) = true then (Q (.bool false) h10) else (ldL h10 (Addr.add x_6 3) fun t61a t61n t61c => ldL h10 (Addr.add y_7 3) fun t64a t64n t64c => if (((t61n : Nat) : Int) != ((t64n : Nat) : Int)) = true then (Q (.bool false) h10) else (LoopV (fun (s : Int) h Kn => ref46_Same_l2 a_0a a_0n a_0c b_1a b_1n b_1c i_5 x_6 y_7 Q Kn1 s h Kn) 0 h10)))))
def ref46_Same_l1 (a_0a : Option Addr) (a_0n a_0c : Nat) (b_1a : Option Addr) (b_1n b_1c : Nat) (Q : QT) (i_5 : Int) (h : Heap) (Kn1 : Int → Heap → Prop) : Prop :=
 if (decide (i_5 < ((a_0n : Nat) : Int))) = true then (idxA i_5 a_0n (nn a_0a fun t23 => ldI h (Addr.add t23 ((i_5).toNat * 5)) .i64 fun t24_0 => ldL h (Addr.add (Addr.add t23 ((i_5).toNat * 5)) 1) fun t24_1a t24_1n t24_1c => ldL h (Addr.add (Addr.add t23 ((i_5).toNat * 5)) 2) fun t24_2a t24_2n t24_2c => ldL h (Addr.add (Addr.add t23 ((i_5).toNat * 5)) 3) fun t24_3a t24_3n t24_3c => ldL h (Addr.add (Addr.add t23 ((i_5).toNat * 5)) 4) fun t24_4a t24_4n t24_4c => idxA i_5 b_1n (nn b_1a fun t27 => ldI h (Addr.add t27 ((i_5).toNat * 5)) .i64 fun t28_0 => ldL h (Addr.add (Addr.add t27 ((i_5).toNat * 5)) 1) fun t28_1a t28_1n t28_1c => ldL h (Addr.add (Addr.add t27 ((i_5).toNat * 5)) 2) fun t28_2a t28_2n t28_2c => ldL h (Addr.add (Addr.add t27 ((i_5).toNat * 5)) 3) fun t28_3a t28_3n t28_3c => ldL h (Addr.add (Addr.add t27 ((i_5).toNat * 5)) 4) fun t28_4a t28_4n t28_4c => (alV h (.cells #[.int .i64 0, .slice none 0 0, .slice none 0 0, .slice none 0 0, .slice none 0 0] T_api_Group) fun t6 h1 => (ldI h1 (Addr.add t23 ((i_5).toNat * 5)) .i64 fun t924_0 => ldL h1 (Addr.add (Addr.add t23 ((i_5).toNat * 5)) 1) fun t924_1a t924_1n t924_1c => ldL h1 (Addr.add (Addr.add t23 ((i_5).toNat * 5)) 2) fun t924_2a t924_2n t924_2c => ldL h1 (Addr.add (Addr.add t23 ((i_5).toNat * 5)) 3) fun t924_3a t924_3n t924_3c => ldL h1 (Addr.add (Addr.add t23 ((i_5).toNat * 5)) 4) fun t924_4a t924_4n t924_4c => (.agg #[.int .i64 t924_0, .slice t924_1a t924_1n t924_1c, .slice t924_2a t924_2n t924_2c, .slice t924_3a t924_3n t924_3c, .slice t924_4a t924_4n t924_4c] : Value) = .agg #[.int .i64 t24_0, .slice t24_1a t24_1n t24_1c, .slice t24_2a t24_2n t24_2c, .slice t24_3a t24_3n t24_3c, .slice t24_4a t24_4n t24_4c]) ∧ (ldI h1 (Addr.add t27 ((i_5).toNat * 5)) .i64 fun t928_0 => ldL h1 (Addr.add (Addr.add t27 ((i_5).toNat * 5)) 1) fun t928_1a t928_1n t928_1c => ldL h1 (Addr.add (Addr.add t27 ((i_5).toNat * 5)) 2) fun t928_2a t928_2n t928_2c => ldL h1 (Addr.add (Addr.add t27 ((i_5).toNat * 5)) 3) fun t928_3a t928_3n t928_3c => ldL h1 (Addr.add (Addr.add t27 ((i_5).toNat * 5)) 4) fun t928_4a t928_4n t928_4c => (.agg #[.int .i64 t928_0, .slice t928_1a t928_1n t928_1c, .slice t928_2a t928_2n t928_2c, .slice t928_3a t928_3n t928_3c, .slice t928_4a t928_4n t928_4c] : Value) = .agg #[.int .i64 t28_0, .slice t28_1a t28_1n t28_1c, .slice t28_2a t28_2n t28_2c, .slice t28_3a t28_3n t28_3c, .slice t28_4a t28_4n t28_4c]) ∧ alV h1 (.cells #[.int .i64 0, .slice none 0 0, .slice none 0 0, .slice none 0 0, .slice none 0 0] T_api_Group) fun t7 h2 => (ldI h2 (Addr.add t23 ((i_5).toNat * 5)) .i64 fun t924_0 => ldL h2 (Addr.add (Addr.add t23 ((i_5).toNat * 5)) 1) fun t924_1a t924_1n t924_1c => ldL h2 (Addr.add (Addr.add t23 ((i_5).toNat * 5)) 2) fun t924_2a t924_2n t924_2c => ldL h2 (Addr.add (Addr.add t23 ((i_5).toNat * 5)) 3) fun t924_3a t924_3n t924_3c => ldL h2 (Addr.add (Addr.add t23 ((i_5).toNat * 5)) 4) fun t924_4a t924_4n t924_4c => (.agg #[.int .i64 t924_0, .slice t924_1a t924_1n t924_1c, .slice t924_2a t924_2n t924_2c, .slice t924_3a t924_3n t924_3c, .slice t924_4a t924_4n t924_4c] : Value) = .agg #[.int .i64 t24_0, .slice t24_1a t24_1n t24_1c, .slice t24_2a t24_2n t24_2c, .slice t24_3a t24_3n t24_3c, .slice t24_4a t24_4n t24_4c]) ∧ (ldI h2 (Addr.add t27 ((i_5).toNat * 5)) .i64 fun t928_0 => ldL h2 (Addr.add (Addr.add t27 ((i_5).toNat * 5)) 1) fun t928_1a t928_1n t928_1c => ldL h2 (Addr.add (Addr.add t27 ((i_5).toNat * 5)) 2) fun t928_2a t928_2n t928_2c => ldL h2 (Addr.add (Addr.add t27 ((i_5).toNat * 5)) 3) fun t928_3a t928_3n t928_3c => ldL h2 (Addr.add (Addr.add t27 ((i_5).toNat * 5)) 4) fun t928_4a t928_4n t928_4c => (.agg #[.int .i64 t928_0, .slice t928_1a t928_1n t928_1c, .slice t928_2a t928_2n t928_2c, .slice t928_3a t928_3n t928_3c, .slice t928_4a t928_4n t928_4c] : Value) = .agg #[.int .i64 t28_0, .slice t28_1a t28_1n t28_1c, .slice t28_2a t28_2n t28_2c, .slice t28_3a t28_3n t28_3c, .slice t28_4a t28_4n t28_4c]) ∧ stN h2 t6 [.int .i64 t24_0, .slice t24_1a t24_1n t24_1c, .slice t24_2a t24_2n t24_2c, .slice t24_3a t24_3n t24_3c, .slice t24_4a t24_4n t24_4c] 0 fun h3 => (ldI h3 (Addr.add t27 ((i_5).toNat * 5)) .i64 fun t928_0 => ldL h3 (Addr.add (Addr.add t27 ((i_5).toNat * 5)) 1) fun t928_1a t928_1n t928_1c => ldL h3 (Addr.add (Addr.add t27 ((i_5).toNat * 5)) 2) fun t928_2a t928_2n t928_2c => ldL h3 (Addr.add (Addr.add t27 ((i_5).toNat * 5)) 3) fun t928_3a t928_3n t928_3c => ldL h3 (Addr.add (Addr.add t27 ((i_5).toNat * 5)) 4) fun t928_4a t928_4n t928_4c => (.agg #[.int .i64 t928_0, .slice t928_1a t928_1n t928_1c, .slice t928_2a t928_2n t928_2c, .slice t928_3a t928_3n t928_3c, .slice t928_4a t928_4n t928_4c] : Value) = .agg #[.int .i64 t28_0, .slice t28_1a t28_1n t28_1c, .slice t28_2a t28_2n t28_2c, .slice t28_3a t28_3n t28_3c, .slice t28_4a t28_4n t28_4c]) ∧ stN h3 t7 [.int .i64 t28_0, .slice t28_1a t28_1n t28_1c, .slice t28_2a t28_2n t28_2c, .slice t28_3a t28_3n t28_3c, .slice t28_4a t28_4n t28_4c] 0 fun h4 => ref46_Same_b5 a_0a a_0n a_0c b_1a b_1n b_1c i_5 t6 t7 Q Kn1 h4) ∧ (alV h (.cells #[.int .i64 0, .slice none 0 0, .slice none 0 0, .slice none 0 0, .slice none 0 0] T_api_Group) fun t7 h5 => (ldI h5 (Addr.add t23 ((i_5).toNat * 5)) .i64 fun t924_0 => ldL h5 (Addr.add (Addr.add t23 ((i_5).toNat * 5)) 1) fun t924_1a t924_1n t924_1c => ldL h5 (Addr.add (Addr.add t23 ((i_5).toNat * 5)) 2) fun t924_2a t924_2n t924_2c => ldL h5 (Addr.add (Addr.add t23 ((i_5).toNat * 5)) 3) fun t924_3a t924_3n t924_3c => ldL h5 (Addr.add (Addr.add t23 ((i_5).toNat * 5)) 4) fun t924_4a t924_4n t924_4c => (.agg #[.int .i64 t924_0, .slice t924_1a t924_1n t924_1c, .slice t924_2a t924_2n t924_2c, .slice t924_3a t924_3n t924_3c, .slice t924_4a t924_4n t924_4c] : Value) = .agg #[.int .i64 t24_0, .slice t24_1a t24_1n t24_1c, .slice t24_2a t24_2n t24_2c, .slice t24_3a t24_3n t24_3c, .slice t24_4a t24_4n t24_4c]) ∧ (ldI h5 (Addr.add t27 ((i_5).toNat * 5)) .i64 fun t928_0 => ldL h5 (Addr.add (Addr.add t27 ((i_5).toNat * 5)) 1) fun t928_1a t928_1n t928_1c => ldL h5 (Addr.add (Addr.add t27 ((i_5).toNat * 5)) 2) fun t928_2a t928_2n t928_2c => ldL h5 (Addr.add (Addr.add t27 ((i_5).toNat * 5)) 3) fun t928_3a t928_3n t928_3c => ldL h5 (Addr.add (Addr.add t27 ((i_5).toNat * 5)) 4) fun t928_4a t928_4n t928_4c => (.agg #[.int .i64 t928_0, .slice t928_1a t928_1n t928_1c, .slice t928_2a t928_2n t928_2c, .slice t928_3a t928_3n t928_3c, .slice t928_4a t928_4n t928_4c] : Value) = .agg #[.int .i64 t28_0, .slice t28_1a t28_1n t28_1c, .slice t28_2a t28_2n t28_2c, .slice t28_3a t28_3n t28_3c, .slice t28_4a t28_4n t28_4c]) ∧ alV h5 (.cells #[.int .i64 0, .slice none 0 0, .slice none 0 0, .slice none 0 0, .slice none 0 0] T_api_Group) fun t6 h6 => (ldI h6 (Addr.add t23 ((i_5).toNat * 5)) .i64 fun t924_0 => ldL h6 (Addr.add (Addr.add t23 ((i_5).toNat * 5)) 1) fun t924_1a t924_1n t924_1c => ldL h6 (Addr.add (Addr.add t23 ((i_5).toNat * 5)) 2) fun t924_2a t924_2n t924_2c => ldL h6 (Addr.add (Addr.add t23 ((i_5).toNat * 5)) 3) fun t924_3a t924_3n t924_3c => ldL h6 (Addr.add (Addr.add t23 ((i_5).toNat * 5)) 4) fun t924_4a t924_4n t924_4c => (.agg #[.int .i64 t924_0, .slice t924_1a t924_1n t924_1c, .slice t924_2a t924_2n t924_2c, .slice t924_3a t924_3n t924_3c, .slice t924_4a t924_4n t924_4c] : Value) = .agg #[.int .i64 t24_0, .slice t24_1a t24_1n t24_1c, .slice t24_2a t24_2n t24_2c, .slice t24_3a t24_3n t24_3c, .slice t24_4a t24_4n t24_4c]) ∧ (ldI h6 (Addr.add t27 ((i_5).toNat * 5)) .i64 fun t928_0 => ldL h6 (Addr.add (Addr.add t27 ((i_5).toNat * 5)) 1) fun t928_1a t928_1n t928_1c => ldL h6 (Addr.add (Addr.add t27 ((i_5).toNat * 5)) 2) fun t928_2a t928_2n t928_2c => ldL h6 (Addr.add (Addr.add t27 ((i_5).toNat * 5)) 3) fun t928_3a t928_3n t928_3c => ldL h6 (Addr.add (Addr.add t27 ((i_5).toNat * 5)) 4) fun t928_4a t928_4n t928_4c => (.agg #[.int .i64 t928_0, .slice t928_1a t928_1n t928_1c, .slice t928_2a t928_2n t928_2c, .slice t928_3a t928_3n t928_3c, .slice t928_4a t928_4n t928_4c] : Value) = .agg #[.int .i64 t28_0, .slice t28_1a t28_1n t28_1c, .slice t28_2a t28_2n t28_2c, .slice t28_3a t28_3n t28_3c, .slice t28_4a t28_4n t28_4c]) ∧ stN h6 t6 [.int .i64 t24_0, .slice t24_1a t24_1n t24_1c, .slice t24_2a t24_2n t24_2c, .slice t24_3a t24_3n t24_3c, .slice t24_4a t24_4n t24_4c] 0 fun h7 => (ldI h7 (Addr.add t27 ((i_5).toNat * 5)) .i64 fun t928_0 => ldL h7 (Addr.add (Addr.add t27 ((i_5).toNat * 5)) 1) fun t928_1a t928_1n t928_1c => ldL h7 (Addr.add (Addr.add t27 ((i_5).toNat * 5)) 2) fun t928_2a t928_2n t928_2c => ldL h7 (Addr.add (Addr.add t27 ((i_5).toNat * 5)) 3) fun t928_3a t928_3n t928_3c => ldL h7 (Addr.add (Addr.add t27 ((i_5).toNat * 5)) 4) fun t928_4a t928_4n t928_4c => (.agg #[.int .i64 t928_0, .slice t928_1a t928_1n t928_1c, .slice t928_2a t928_2n t928_2c, .slice t928_3a t928_3n t928_3c, .slice t928_4a t928_4n t928_4c] : Value) = .agg #[.int .i64 t28_0, .slice t28_1a t28_1n t28_1c, .slice t28_2a t28_2n t28_2c, .slice t28_3a t28_3n t28_3c, .slice t28_4a t28_4n t28_4c]) ∧ stN h7 t7 [.int .i64 t28_0, .slice t28_1a t28_1n t28_1c, .slice t28_2a t28_2n t28_2c, .slice t28_3a t28_3n t28_3c, .slice t28_4a t28_4n t28_4c] 0 fun h8 => ref46_Same_b5 a_0a a_0n a_0c b_1a b_1n b_1c i_5 t6 t7 Q Kn1 h8)))) else (Q (.bool true) h)
def ref46_Same_v (a_0a : Option Addr) (a_0n a_0c : Nat) (b_1a : Option Addr) (b_1n b_1c : Nat) (Q : QT) (h : Heap) : Prop :=
 if (((a_0n : Nat) : Int) != ((b_1n : Nat) : Int)) = true then (Q (.bool false) h) else (LoopV (fun (s : Int) h Kn => ref46_Same_l1 a_0a a_0n a_0c b_1a b_1n b_1c Q s h Kn) 0 h)
set_option maxRecDepth 100000 in
theorem ref46_Same_s (a_0a : Option Addr) (a_0n a_0c : Nat) (b_1a : Option Addr) (b_1n b_1c : Nat) {Q : QT} {h : Heap} (hk : ref46_Same_v a_0a a_0n a_0c b_1a b_1n b_1c Q h) : CallT Try.prog fn_ref46_Same #[.slice a_0a a_0n a_0c, .slice b_1a b_1n b_1c] h Q :=
 callU follows Try.func18 (Try.call18 _) rfl rfl [] [(10, fun e h => dL (e 0) fun a_0a a_0n a_0c => dL (e 1) fun b_1a b_1n b_1c => dI .i64 (e 5) fun i_5 => LoopV (fun (s : Int) h Kn => ref46_Same_l1 a_0a a_0n a_0c b_1a b_1n b_1c Q s h Kn) i_5 h)]
 trivial
 ⟨⟨by kernel_rfl, fun e h he hk => by
 have F := Ag.nil (e := e)
 have ⟨a_0a, a_0n, a_0c, F, hk⟩ := eL F hk
 have ⟨b_1a, b_1n, b_1c, F, hk⟩ := eL F hk
 have ⟨i_5, F, hk⟩ := eI F hk
 exact loopU (s0 := i_5) follows (fun _ h => by cases h) he F (fun s => [(5, .int .i64 s)]) (by kernel_rfl) (F.take 1) hk (fun Kn1 e h => dI .i64 (e 5) fun i_5 => Kn1 i_5 h) (fun Kn1 e h hk => by
  have F := Ag.nil (e := e)
  have ⟨i_5, F, hk⟩ := eI F hk
  exact ⟨i_5, F, hk⟩)
  (fun Kn1 => [(16, fun e h => dL (e 0) fun a_0a a_0n a_0c => dL (e 1) fun b_1a b_1n b_1c => dI .i64 (e 5) fun i_5 => dA (e 6) fun x_6 => dA (e 7) fun y_7 => ref46_Same_b5 a_0a a_0n a_0c b_1a b_1n b_1c i_5 x_6 y_7 Q Kn1 h), (30, fun e h => dL (e 0) fun a_0a a_0n a_0c => dL (e 1) fun b_1a b_1n b_1c => dI .i64 (e 5) fun i_5 => dA (e 6) fun x_6 => dA (e 7) fun y_7 => ref46_Same_b3 a_0a a_0n a_0c b_1a b_1n b_1c i_5 x_6 y_7 Q Kn1 h)]) (fun Kn1 => [(22, fun e h => dL (e 0) fun a_0a a_0n a_0c => dL (e 1) fun b_1a b_1n b_1c => dI .i64 (e 5) fun i_5 => dA (e 6) fun x_6 => dA (e 7) fun y_7 => dI .i64 (e 8) fun k_8 => LoopV (fun (s : Int) h Kn => ref46_Same_l2 a_0a a_0n a_0c b_1a b_1n b_1c i_5 x_6 y_7 Q Kn1 s h Kn) k_8 h), (32, fun e h => dL (e 0) fun a_0a a_0n a_0c => dL (e 1) fun b_1a b_1n b_1c => dI .i64 (e 5) fun i_5 => dA (e 6) fun x_6 => dA (e 7) fun y_7 => dI .i64 (e 9) fun k_9 => LoopV (fun (s : Int) h Kn => ref46_Same_l4 a_0a a_0n a_0c b_1a b_1n b_1c i_5 x_6 y_7 Q Kn1 s h Kn) k_9 h)])
  (fun Kn1 => ⟨fun e h _ hk => by
 have F := Ag.nil (e := e)
 have ⟨a_0a, a_0n, a_0c, F, hk⟩ := eL F hk
 have ⟨b_1a, b_1n, b_1c, F, hk⟩ := eL F hk
 have ⟨i_5, F, hk⟩ := eI F hk
 have ⟨x_6, F, hk⟩ := eA F hk
 have ⟨y_7, F, hk⟩ := eA F hk
 exact cutU F (by as_aux_lemma => kernel_rfl) hk, fun e h _ hk => by
 have F := Ag.nil (e := e)
 have ⟨a_0a, a_0n, a_0c, F, hk⟩ := eL F hk
 have ⟨b_1a, b_1n, b_1c, F, hk⟩ := eL F hk
 have ⟨i_5, F, hk⟩ := eI F hk
 have ⟨x_6, F, hk⟩ := eA F hk
 have ⟨y_7, F, hk⟩ := eA F hk
 exact cutU F (by as_aux_lemma => kernel_rfl) hk, trivial⟩)
  (fun Kn1 => ⟨⟨by kernel_rfl, fun e h he hk => by
 have F := Ag.nil (e := e)
 have ⟨a_0a, a_0n, a_0c, F, hk⟩ := eL F hk
 have ⟨b_1a, b_1n, b_1c, F, hk⟩ := eL F hk
 have ⟨i_5, F, hk⟩ := eI F hk
 have ⟨x_6, F, hk⟩ := eA F hk
 have ⟨y_7, F, hk⟩ := eA F hk
 have ⟨k_8, F, hk⟩ := eI F hk
 exact loopU (s0 := k_8) follows (keep_sub (by kernel_rfl)) he F (fun s => [(8, .int .i64 s)]) (by kernel_rfl) (F.take 1) hk (fun Kn2 e h => dI .i64 (e 8) fun k_8 => Kn2 k_8 h) (fun Kn2 e h hk => by
  have F := Ag.nil (e := e)
  have ⟨k_8, F, hk⟩ := eI F hk
  exact ⟨k_8, F, hk⟩)
  (fun Kn2 => []) (fun Kn2 => [])
  (fun Kn2 => trivial)
  (fun Kn2 => trivial) (fun e s h Kn2 => by as_aux_lemma => kernel_rfl)⟩, ⟨by kernel_rfl, fun e h he hk => by
 have F := Ag.nil (e := e)
 have ⟨a_0a, a_0n, a_0c, F, hk⟩ := eL F hk
 have ⟨b_1a, b_1n, b_1c, F, hk⟩ := eL F hk
 have ⟨i_5, F, hk⟩ := eI F hk
 have ⟨x_6, F, hk⟩ := eA F hk
 have ⟨y_7, F, hk⟩ := eA F hk
 have ⟨k_9, F, hk⟩ := eI F hk
 exact loopU (s0 := k_9) follows (keep_sub (by kernel_rfl)) he F (fun s => [(9, .int .i64 s)]) (by kernel_rfl) (F.take 1) hk (fun Kn4 e h => dI .i64 (e 9) fun k_9 => Kn4 k_9 h) (fun Kn4 e h hk => by
  have F := Ag.nil (e := e)
  have ⟨k_9, F, hk⟩ := eI F hk
  exact ⟨k_9, F, hk⟩)
  (fun Kn4 => []) (fun Kn4 => [])
  (fun Kn4 => trivial)
  (fun Kn4 => trivial) (fun e s h Kn4 => by as_aux_lemma => kernel_rfl)⟩, trivial⟩) (fun e s h Kn1 => by as_aux_lemma => kernel_rfl)⟩, trivial⟩ (by as_aux_lemma => kernel_rfl) hk
/-! ### intrusion/fastpattern.Groups -/
def fastpattern_Groups_b3 (out_3a : Option Addr) (out_3n out_3c : Nat) (k_4 : Int) (g_7 : Addr) (n_10 : Int) (t11a : Option Addr) (t11n t11c : Nat) (t12 t13 : Int) (Q : QT) (Kn1 : (Option Addr) × Nat × Nat × Int → Heap → Prop) (h : Heap) : Prop :=
 ldL h (Addr.add g_7 3) fun t89a t89n t89c => ldL h (Addr.add g_7 3) fun t94a t94n t94c => idxA n_10 t94n (nn t94a fun t96 => ldL h (Addr.add t96 ((n_10).toNat * 1)) fun t97a t97n t97c => alV h (.cells #[.int .i64 k_4] T_int) fun t99 h20 => (ldL h20 (Addr.add g_7 3) fun t989a t989n t989c => (.slice t989a t989n t989c : Value) = .slice t89a t89n t89c) ∧ (ldL h20 (Addr.add g_7 3) fun t994a t994n t994c => (.slice t994a t994n t994c : Value) = .slice t94a t94n t94c) ∧ (ldL h20 (Addr.add t96 ((n_10).toNat * 1)) fun t997a t997n t997c => (.slice t997a t997n t997c : Value) = .slice t97a t97n t97c) ∧ bltV Try.prog .append #[T_sl_int, T_sl_int] T_sl_int #[false, false] #[.slice t97a t97n t97c, .slice (some t99) 1 1] h20 fun v h21 => ∃ t100a : Option Addr, ∃ t100n : Nat, ∃ t100c : Nat, v = .slice t100a t100n t100c ∧ (ldL h21 (Addr.add g_7 3) fun t989a t989n t989c => (.slice t989a t989n t989c : Value) = .slice t89a t89n t89c) ∧ idxA n_10 t89n (nn t89a fun t101 => st1 h21 (Addr.add t101 ((n_10).toNat * 1)) (.slice t100a t100n t100c) fun h22 => Kn1 (out_3a, out_3n, out_3c, wrap .i64 (t13 + 1)) h22))
def fastpattern_Groups_b2 (out_3a : Option Addr) (out_3n out_3c : Nat) (k_4 : Int) (r_5 : Addr) (i_6 : Int) (t11a : Option Addr) (t11n t11c : Nat) (t12 t13 : Int) (Q : QT) (Kn1 : (Option Addr) × Nat × Nat × Int → Heap → Prop) (h : Heap) : Prop :=
 idxA i_6 out_3n (nn out_3a fun t36 => ldI h r_5 .i64 fun t38_0 => ldI h (Addr.add r_5 1) .i64 fun t38_1 => ldL h (Addr.add r_5 2) fun t38_2a t38_2n t38_2c => ldL h (Addr.add r_5 3) fun t38_3a t38_3n t38_3c => ldL h (Addr.add r_5 4) fun t38_4a t38_4n t38_4c => ldL h (Addr.add r_5 5) fun t38_5a t38_5n t38_5c => ldB h (Addr.add r_5 6) fun t38_6 => ldI h (Addr.add r_5 7) .i64 fun t38_7 => ldI h (Addr.add r_5 8) .i64 fun t38_8 => ldI h (Addr.add r_5 9) .i64 fun t38_9 => ldS h (Addr.add r_5 10) fun t38_10 => ldI h (Addr.add r_5 11) .i64 fun t38_11 => ldI h (Addr.add r_5 12) .i64 fun t38_12 => ldL h (Addr.add r_5 13) fun t38_13a t38_13n t38_13c => ldL h (Addr.add r_5 14) fun t38_14a t38_14n t38_14c => ldL h (Addr.add r_5 15) fun t38_15a t38_15n t38_15c => ldL h (Addr.add r_5 16) fun t38_16a t38_16n t38_16c => ldI h (Addr.add r_5 17) .i64 fun t38_17 => ldI h (Addr.add r_5 18) .i64 fun t38_18 => ldI h (Addr.add r_5 19) .i64 fun t38_19 => ldI h (Addr.add r_5 20) .i64 fun t38_20 => CallT Try.prog fn_fastpattern_Pattern #[.agg #[.int .i64 t38_0, .int .i64 t38_1, .slice t38_2a t38_2n t38_2c, .slice t38_3a t38_3n t38_3c, .slice t38_4a t38_4n t38_4c, .slice t38_5a t38_5n t38_5c, .bool t38_6, .int .i64 t38_7, .int .i64 t38_8, .int .i64 t38_9, .string t38_10, .int .i64 t38_11, .int .i64 t38_12, .slice t38_13a t38_13n t38_13c, .slice t38_14a t38_14n t38_14c, .slice t38_15a t38_15n t38_15c, .slice t38_16a t38_16n t38_16c, .int .i64 t38_17, .int .i64 t38_18, .int .i64 t38_19, .int .i64 t38_20]] h fun v h7 => ∃ t39_0_0 : ByteArray, ∃ t39_0_1 : Bool, ∃ t39_1 : Bool, v = .tuple #[.agg #[.string t39_0_0, .bool t39_0_1], .bool t39_1] ∧ alV h7 (.cells #[.string (⟨#[]⟩ : ByteArray), .bool false] T_api_Pattern) fun t8 h8 => stN h8 t8 [.string t39_0_0, .bool t39_0_1] 0 fun h9 => if (!t39_1) = true then (ldL h9 (Addr.add (Addr.add t36 ((i_6).toNat * 5)) 4) fun t48a t48n t48c => alV h9 (.cells #[.int .i64 k_4] T_int) fun t50 h10 => bltV Try.prog .append #[T_sl_int, T_sl_int] T_sl_int #[false, false] #[.slice t48a t48n t48c, .slice (some t50) 1 1] h10 fun v h11 => ∃ t51a : Option Addr, ∃ t51n : Nat, ∃ t51c : Nat, v = .slice t51a t51n t51c ∧ st1 h11 (Addr.add (Addr.add t36 ((i_6).toNat * 5)) 4) (.slice t51a t51n t51c) fun h12 => Kn1 (out_3a, out_3n, out_3c, wrap .i64 (t13 + 1)) h12) else (ldL h9 (Addr.add (Addr.add t36 ((i_6).toNat * 5)) 2) fun t57a t57n t57c => CallT Try.prog fn_fastpattern_place_api_Pattern #[.slice t57a t57n t57c, .func (.func 36) #[] #[.pointer (some t8)]] h9 fun v h13 => ∃ t59 : Int, v = .int .i64 t59 ∧ ldL h13 (Addr.add (Addr.add t36 ((i_6).toNat * 5)) 2) fun t64a t64n t64c => if (t59 == ((t64n : Nat) : Int)) = true then (ldL h13 (Addr.add (Addr.add t36 ((i_6).toNat * 5)) 2) fun t71a t71n t71c => ldS h13 t8 fun t72_0 => ldB h13 (Addr.add t8 1) fun t72_1 => alV h13 (.cells #[.string t72_0, .bool t72_1] T_api_Pattern) fun t73 h14 => (ldL h14 (Addr.add (Addr.add t36 ((i_6).toNat * 5)) 2) fun t971a t971n t971c => (.slice t971a t971n t971c : Value) = .slice t71a t71n t71c) ∧ bltV Try.prog .append #[T_sl_api_Pattern, T_sl_api_Pattern] T_sl_api_Pattern #[false, false] #[.slice t71a t71n t71c, .slice (some t73) 1 1] h14 fun v h15 => ∃ t74a : Option Addr, ∃ t74n : Nat, ∃ t74c : Nat, v = .slice t74a t74n t74c ∧ st1 h15 (Addr.add (Addr.add t36 ((i_6).toNat * 5)) 2) (.slice t74a t74n t74c) fun h16 => ldL h16 (Addr.add (Addr.add t36 ((i_6).toNat * 5)) 3) fun t81a t81n t81c => alV h16 (.cells #[.slice none 0 0] T_sl_int) fun t82 h17 => bltV Try.prog .append #[T_sl_sl_int, T_sl_sl_int] T_sl_sl_int #[false, false] #[.slice t81a t81n t81c, .slice (some t82) 1 1] h17 fun v h18 => ∃ t83a : Option Addr, ∃ t83n : Nat, ∃ t83c : Nat, v = .slice t83a t83n t83c ∧ st1 h18 (Addr.add (Addr.add t36 ((i_6).toNat * 5)) 3) (.slice t83a t83n t83c) fun h19 => fastpattern_Groups_b3 out_3a out_3n out_3c k_4 (Addr.add t36 ((i_6).toNat * 5)) t59 t11a t11n t11c t12 t13 Q Kn1 h19) else (fastpattern_Groups_b3 out_3a out_3n out_3c k_4 (Addr.add t36 ((i_6).toNat * 5)) t59 t11a t11n t11c t12 t13 Q Kn1 h13)))
def fastpattern_Groups_l1 (t11a : Option Addr) (t11n t11c : Nat) (t12 : Int) (Q : QT) (out_3a : Option Addr) (out_3n out_3c : Nat) (t13 : Int) (h : Heap) (Kn1 : (Option Addr) × Nat × Nat × Int → Heap → Prop) : Prop :=
 if (decide (t13 < t12)) = true then (idxA t13 t11n (nn t11a fun t16 => ldI h (Addr.add t16 ((t13).toNat * 21)) .i64 fun t17_0 => ldI h (Addr.add (Addr.add t16 ((t13).toNat * 21)) 1) .i64 fun t17_1 => ldL h (Addr.add (Addr.add t16 ((t13).toNat * 21)) 2) fun t17_2a t17_2n t17_2c => ldL h (Addr.add (Addr.add t16 ((t13).toNat * 21)) 3) fun t17_3a t17_3n t17_3c => ldL h (Addr.add (Addr.add t16 ((t13).toNat * 21)) 4) fun t17_4a t17_4n t17_4c => ldL h (Addr.add (Addr.add t16 ((t13).toNat * 21)) 5) fun t17_5a t17_5n t17_5c => ldB h (Addr.add (Addr.add t16 ((t13).toNat * 21)) 6) fun t17_6 => ldI h (Addr.add (Addr.add t16 ((t13).toNat * 21)) 7) .i64 fun t17_7 => ldI h (Addr.add (Addr.add t16 ((t13).toNat * 21)) 8) .i64 fun t17_8 => ldI h (Addr.add (Addr.add t16 ((t13).toNat * 21)) 9) .i64 fun t17_9 => ldS h (Addr.add (Addr.add t16 ((t13).toNat * 21)) 10) fun t17_10 => ldI h (Addr.add (Addr.add t16 ((t13).toNat * 21)) 11) .i64 fun t17_11 => ldI h (Addr.add (Addr.add t16 ((t13).toNat * 21)) 12) .i64 fun t17_12 => ldL h (Addr.add (Addr.add t16 ((t13).toNat * 21)) 13) fun t17_13a t17_13n t17_13c => ldL h (Addr.add (Addr.add t16 ((t13).toNat * 21)) 14) fun t17_14a t17_14n t17_14c => ldL h (Addr.add (Addr.add t16 ((t13).toNat * 21)) 15) fun t17_15a t17_15n t17_15c => ldL h (Addr.add (Addr.add t16 ((t13).toNat * 21)) 16) fun t17_16a t17_16n t17_16c => ldI h (Addr.add (Addr.add t16 ((t13).toNat * 21)) 17) .i64 fun t17_17 => ldI h (Addr.add (Addr.add t16 ((t13).toNat * 21)) 18) .i64 fun t17_18 => ldI h (Addr.add (Addr.add t16 ((t13).toNat * 21)) 19) .i64 fun t17_19 => ldI h (Addr.add (Addr.add t16 ((t13).toNat * 21)) 20) .i64 fun t17_20 => alV h (.cells #[.int .i64 0, .int .i64 0, .slice none 0 0, .slice none 0 0, .slice none 0 0, .slice none 0 0, .bool false, .int .i64 0, .int .i64 0, .int .i64 0, .string (⟨#[]⟩ : ByteArray), .int .i64 0, .int .i64 0, .slice none 0 0, .slice none 0 0, .slice none 0 0, .slice none 0 0, .int .i64 0, .int .i64 0, .int .i64 0, .int .i64 0] T_api_Rule) fun t5 h1 => stN h1 t5 [.int .i64 t17_0, .int .i64 t17_1, .slice t17_2a t17_2n t17_2c, .slice t17_3a t17_3n t17_3c, .slice t17_4a t17_4n t17_4c, .slice t17_5a t17_5n t17_5c, .bool t17_6, .int .i64 t17_7, .int .i64 t17_8, .int .i64 t17_9, .string t17_10, .int .i64 t17_11, .int .i64 t17_12, .slice t17_13a t17_13n t17_13c, .slice t17_14a t17_14n t17_14c, .slice t17_15a t17_15n t17_15c, .slice t17_16a t17_16n t17_16c, .int .i64 t17_17, .int .i64 t17_18, .int .i64 t17_19, .int .i64 t17_20] 0 fun h2 => CallT Try.prog fn_fastpattern_place_api_Group #[.slice out_3a out_3n out_3c, .func (.func 32) #[] #[.pointer (some t5)]] h2 fun v h3 => ∃ t20 : Int, v = .int .i64 t20 ∧ if (t20 == ((out_3n : Nat) : Int)) = true then (ldI h3 (Addr.add t5 12) .i64 fun t27 => ldL h3 (Addr.add t5 13) fun t29a t29n t29c => CallT Try.prog fn_slices_Clone_int_int #[.slice t29a t29n t29c] h3 fun v h4 => ∃ t30a : Option Addr, ∃ t30n : Nat, ∃ t30c : Nat, v = .slice t30a t30n t30c ∧ (ldI h4 (Addr.add t5 12) .i64 fun t927 => (.int .i64 t927 : Value) = .int .i64 t27) ∧ alV h4 (.cells #[.int .i64 t27, .slice t30a t30n t30c, .slice none 0 0, .slice none 0 0, .slice none 0 0] T_api_Group) fun t32 h5 => bltV Try.prog .append #[T_sl_api_Group, T_sl_api_Group] T_sl_api_Group #[false, false] #[.slice out_3a out_3n out_3c, .slice (some t32) 1 1] h5 fun v h6 => ∃ t33a : Option Addr, ∃ t33n : Nat, ∃ t33c : Nat, v = .slice t33a t33n t33c ∧ fastpattern_Groups_b2 t33a t33n t33c t13 t5 t20 t11a t11n t11c t12 t13 Q Kn1 h6) else (fastpattern_Groups_b2 out_3a out_3n out_3c t13 t5 t20 t11a t11n t11c t12 t13 Q Kn1 h3))) else (Q (.slice out_3a out_3n out_3c) h)
def fastpattern_Groups_v (l_0a : Option Addr) (l_0n l_0c : Nat) (Q : QT) (h : Heap) : Prop :=
 LoopV (fun (s : (Option Addr) × Nat × Nat × Int) h Kn => fastpattern_Groups_l1 l_0a l_0n l_0c ((l_0n : Nat) : Int) Q s.1 s.2.1 s.2.2.1 s.2.2.2 h Kn) (none, 0, 0, 0) h
set_option maxRecDepth 100000 in
theorem fastpattern_Groups_s (l_0a : Option Addr) (l_0n l_0c : Nat) {Q : QT} {h : Heap} (hk : fastpattern_Groups_v l_0a l_0n l_0c Q h) : CallT Try.prog fn_fastpattern_Groups #[.slice l_0a l_0n l_0c] h Q :=
 callU follows Try.func19 (Try.call19 _) rfl rfl [] [(8, fun e h => dL (e 11) fun t11a t11n t11c => dI .i64 (e 12) fun t12 => dL (e 3) fun out_3a out_3n out_3c => dI .i64 (e 13) fun t13 => LoopV (fun (s : (Option Addr) × Nat × Nat × Int) h Kn => fastpattern_Groups_l1 t11a t11n t11c t12 Q s.1 s.2.1 s.2.2.1 s.2.2.2 h Kn) (out_3a, out_3n, out_3c, t13) h)]
 trivial
 ⟨⟨by kernel_rfl, fun e h he hk => by
 have F := Ag.nil (e := e)
 have ⟨t11a, t11n, t11c, F, hk⟩ := eL F hk
 have ⟨t12, F, hk⟩ := eI F hk
 have ⟨out_3a, out_3n, out_3c, F, hk⟩ := eL F hk
 have ⟨t13, F, hk⟩ := eI F hk
 exact loopU (s0 := (out_3a, out_3n, out_3c, t13)) follows (fun _ h => by cases h) he F (fun s => [(13, .int .i64 s.2.2.2), (3, .slice s.1 s.2.1 s.2.2.1)]) (by kernel_rfl) (F.take 2) hk (fun Kn1 e h => dL (e 3) fun out_3a out_3n out_3c => dI .i64 (e 13) fun t13 => Kn1 (out_3a, out_3n, out_3c, t13) h) (fun Kn1 e h hk => by
  have F := Ag.nil (e := e)
  have ⟨out_3a, out_3n, out_3c, F, hk⟩ := eL F hk
  have ⟨t13, F, hk⟩ := eI F hk
  exact ⟨(out_3a, out_3n, out_3c, t13), F, hk⟩)
  (fun Kn1 => [(18, fun e h => dL (e 3) fun out_3a out_3n out_3c => dI .i64 (e 4) fun k_4 => dA (e 5) fun r_5 => dI .i64 (e 6) fun i_6 => dL (e 11) fun t11a t11n t11c => dI .i64 (e 12) fun t12 => dI .i64 (e 13) fun t13 => fastpattern_Groups_b2 out_3a out_3n out_3c k_4 r_5 i_6 t11a t11n t11c t12 t13 Q Kn1 h), (34, fun e h => dL (e 3) fun out_3a out_3n out_3c => dI .i64 (e 4) fun k_4 => dA (e 7) fun g_7 => dI .i64 (e 10) fun n_10 => dL (e 11) fun t11a t11n t11c => dI .i64 (e 12) fun t12 => dI .i64 (e 13) fun t13 => fastpattern_Groups_b3 out_3a out_3n out_3c k_4 g_7 n_10 t11a t11n t11c t12 t13 Q Kn1 h)]) (fun Kn1 => [])
  (fun Kn1 => ⟨fun e h _ hk => by
 have F := Ag.nil (e := e)
 have ⟨out_3a, out_3n, out_3c, F, hk⟩ := eL F hk
 have ⟨k_4, F, hk⟩ := eI F hk
 have ⟨r_5, F, hk⟩ := eA F hk
 have ⟨i_6, F, hk⟩ := eI F hk
 have ⟨t11a, t11n, t11c, F, hk⟩ := eL F hk
 have ⟨t12, F, hk⟩ := eI F hk
 have ⟨t13, F, hk⟩ := eI F hk
 exact cutU F (by as_aux_lemma => kernel_rfl) hk, fun e h _ hk => by
 have F := Ag.nil (e := e)
 have ⟨out_3a, out_3n, out_3c, F, hk⟩ := eL F hk
 have ⟨k_4, F, hk⟩ := eI F hk
 have ⟨g_7, F, hk⟩ := eA F hk
 have ⟨n_10, F, hk⟩ := eI F hk
 have ⟨t11a, t11n, t11c, F, hk⟩ := eL F hk
 have ⟨t12, F, hk⟩ := eI F hk
 have ⟨t13, F, hk⟩ := eI F hk
 exact cutU F (by as_aux_lemma => kernel_rfl) hk, trivial⟩)
  (fun Kn1 => trivial) (fun e s h Kn1 => by as_aux_lemma => kernel_rfl)⟩, trivial⟩ (by as_aux_lemma => kernel_rfl) hk
/-! ### intrusion/intrusionref46.Groups -/
def ref46_Groups_b2 (l_0a : Option Addr) (l_0n l_0c : Nat) (out_3a : Option Addr) (out_3n out_3c : Nat) (i_4 k_5 : Int) (Q : QT) (Kn1 : (Option Addr) × Nat × Nat × Int → Heap → Prop) (h : Heap) : Prop :=
 idxA k_5 out_3n (nn out_3a fun t40 => ldI h (Addr.add t40 ((k_5).toNat * 5)) .i64 fun t41_0 => ldL h (Addr.add (Addr.add t40 ((k_5).toNat * 5)) 1) fun t41_1a t41_1n t41_1c => ldL h (Addr.add (Addr.add t40 ((k_5).toNat * 5)) 2) fun t41_2a t41_2n t41_2c => ldL h (Addr.add (Addr.add t40 ((k_5).toNat * 5)) 3) fun t41_3a t41_3n t41_3c => ldL h (Addr.add (Addr.add t40 ((k_5).toNat * 5)) 4) fun t41_4a t41_4n t41_4c => idxA i_4 l_0n (nn l_0a fun t44 => ldI h (Addr.add t44 ((i_4).toNat * 21)) .i64 fun t45_0 => ldI h (Addr.add (Addr.add t44 ((i_4).toNat * 21)) 1) .i64 fun t45_1 => ldL h (Addr.add (Addr.add t44 ((i_4).toNat * 21)) 2) fun t45_2a t45_2n t45_2c => ldL h (Addr.add (Addr.add t44 ((i_4).toNat * 21)) 3) fun t45_3a t45_3n t45_3c => ldL h (Addr.add (Addr.add t44 ((i_4).toNat * 21)) 4) fun t45_4a t45_4n t45_4c => ldL h (Addr.add (Addr.add t44 ((i_4).toNat * 21)) 5) fun t45_5a t45_5n t45_5c => ldB h (Addr.add (Addr.add t44 ((i_4).toNat * 21)) 6) fun t45_6 => ldI h (Addr.add (Addr.add t44 ((i_4).toNat * 21)) 7) .i64 fun t45_7 => ldI h (Addr.add (Addr.add t44 ((i_4).toNat * 21)) 8) .i64 fun t45_8 => ldI h (Addr.add (Addr.add t44 ((i_4).toNat * 21)) 9) .i64 fun t45_9 => ldS h (Addr.add (Addr.add t44 ((i_4).toNat * 21)) 10) fun t45_10 => ldI h (Addr.add (Addr.add t44 ((i_4).toNat * 21)) 11) .i64 fun t45_11 => ldI h (Addr.add (Addr.add t44 ((i_4).toNat * 21)) 12) .i64 fun t45_12 => ldL h (Addr.add (Addr.add t44 ((i_4).toNat * 21)) 13) fun t45_13a t45_13n t45_13c => ldL h (Addr.add (Addr.add t44 ((i_4).toNat * 21)) 14) fun t45_14a t45_14n t45_14c => ldL h (Addr.add (Addr.add t44 ((i_4).toNat * 21)) 15) fun t45_15a t45_15n t45_15c => ldL h (Addr.add (Addr.add t44 ((i_4).toNat * 21)) 16) fun t45_16a t45_16n t45_16c => ldI h (Addr.add (Addr.add t44 ((i_4).toNat * 21)) 17) .i64 fun t45_17 => ldI h (Addr.add (Addr.add t44 ((i_4).toNat * 21)) 18) .i64 fun t45_18 => ldI h (Addr.add (Addr.add t44 ((i_4).toNat * 21)) 19) .i64 fun t45_19 => ldI h (Addr.add (Addr.add t44 ((i_4).toNat * 21)) 20) .i64 fun t45_20 => CallT Try.prog fn_ref46_add #[.agg #[.int .i64 t41_0, .slice t41_1a t41_1n t41_1c, .slice t41_2a t41_2n t41_2c, .slice t41_3a t41_3n t41_3c, .slice t41_4a t41_4n t41_4c], .agg #[.int .i64 t45_0, .int .i64 t45_1, .slice t45_2a t45_2n t45_2c, .slice t45_3a t45_3n t45_3c, .slice t45_4a t45_4n t45_4c, .slice t45_5a t45_5n t45_5c, .bool t45_6, .int .i64 t45_7, .int .i64 t45_8, .int .i64 t45_9, .string t45_10, .int .i64 t45_11, .int .i64 t45_12, .slice t45_13a t45_13n t45_13c, .slice t45_14a t45_14n t45_14c, .slice t45_15a t45_15n t45_15c, .slice t45_16a t45_16n t45_16c, .int .i64 t45_17, .int .i64 t45_18, .int .i64 t45_19, .int .i64 t45_20], .int .i64 i_4] h fun v h4 => ∃ t47_0 : Int, ∃ t47_1a : Option Addr, ∃ t47_1n : Nat, ∃ t47_1c : Nat, ∃ t47_2a : Option Addr, ∃ t47_2n : Nat, ∃ t47_2c : Nat, ∃ t47_3a : Option Addr, ∃ t47_3n : Nat, ∃ t47_3c : Nat, ∃ t47_4a : Option Addr, ∃ t47_4n : Nat, ∃ t47_4c : Nat, v = .agg #[.int .i64 t47_0, .slice t47_1a t47_1n t47_1c, .slice t47_2a t47_2n t47_2c, .slice t47_3a t47_3n t47_3c, .slice t47_4a t47_4n t47_4c] ∧ idxA k_5 out_3n (nn out_3a fun t48 => stN h4 (Addr.add t48 ((k_5).toNat * 5)) [.int .i64 t47_0, .slice t47_1a t47_1n t47_1c, .slice t47_2a t47_2n t47_2c, .slice t47_3a t47_3n t47_3c, .slice t47_4a t47_4n t47_4c] 0 fun h5 => Kn1 (out_3a, out_3n, out_3c, wrap .i64 (i_4 + 1)) h5)))
def ref46_Groups_l1 (l_0a : Option Addr) (l_0n l_0c : Nat) (Q : QT) (out_3a : Option Addr) (out_3n out_3c : Nat) (i_4 : Int) (h : Heap) (Kn1 : (Option Addr) × Nat × Nat × Int → Heap → Prop) : Prop :=
 if (decide (i_4 < ((l_0n : Nat) : Int))) = true then (idxA i_4 l_0n (nn l_0a fun t15 => ldI h (Addr.add t15 ((i_4).toNat * 21)) .i64 fun t16_0 => ldI h (Addr.add (Addr.add t15 ((i_4).toNat * 21)) 1) .i64 fun t16_1 => ldL h (Addr.add (Addr.add t15 ((i_4).toNat * 21)) 2) fun t16_2a t16_2n t16_2c => ldL h (Addr.add (Addr.add t15 ((i_4).toNat * 21)) 3) fun t16_3a t16_3n t16_3c => ldL h (Addr.add (Addr.add t15 ((i_4).toNat * 21)) 4) fun t16_4a t16_4n t16_4c => ldL h (Addr.add (Addr.add t15 ((i_4).toNat * 21)) 5) fun t16_5a t16_5n t16_5c => ldB h (Addr.add (Addr.add t15 ((i_4).toNat * 21)) 6) fun t16_6 => ldI h (Addr.add (Addr.add t15 ((i_4).toNat * 21)) 7) .i64 fun t16_7 => ldI h (Addr.add (Addr.add t15 ((i_4).toNat * 21)) 8) .i64 fun t16_8 => ldI h (Addr.add (Addr.add t15 ((i_4).toNat * 21)) 9) .i64 fun t16_9 => ldS h (Addr.add (Addr.add t15 ((i_4).toNat * 21)) 10) fun t16_10 => ldI h (Addr.add (Addr.add t15 ((i_4).toNat * 21)) 11) .i64 fun t16_11 => ldI h (Addr.add (Addr.add t15 ((i_4).toNat * 21)) 12) .i64 fun t16_12 => ldL h (Addr.add (Addr.add t15 ((i_4).toNat * 21)) 13) fun t16_13a t16_13n t16_13c => ldL h (Addr.add (Addr.add t15 ((i_4).toNat * 21)) 14) fun t16_14a t16_14n t16_14c => ldL h (Addr.add (Addr.add t15 ((i_4).toNat * 21)) 15) fun t16_15a t16_15n t16_15c => ldL h (Addr.add (Addr.add t15 ((i_4).toNat * 21)) 16) fun t16_16a t16_16n t16_16c => ldI h (Addr.add (Addr.add t15 ((i_4).toNat * 21)) 17) .i64 fun t16_17 => ldI h (Addr.add (Addr.add t15 ((i_4).toNat * 21)) 18) .i64 fun t16_18 => ldI h (Addr.add (Addr.add t15 ((i_4).toNat * 21)) 19) .i64 fun t16_19 => ldI h (Addr.add (Addr.add t15 ((i_4).toNat * 21)) 20) .i64 fun t16_20 => CallT Try.prog fn_ref46_place #[.slice out_3a out_3n out_3c, .agg #[.int .i64 t16_0, .int .i64 t16_1, .slice t16_2a t16_2n t16_2c, .slice t16_3a t16_3n t16_3c, .slice t16_4a t16_4n t16_4c, .slice t16_5a t16_5n t16_5c, .bool t16_6, .int .i64 t16_7, .int .i64 t16_8, .int .i64 t16_9, .string t16_10, .int .i64 t16_11, .int .i64 t16_12, .slice t16_13a t16_13n t16_13c, .slice t16_14a t16_14n t16_14c, .slice t16_15a t16_15n t16_15c, .slice t16_16a t16_16n t16_16c, .int .i64 t16_17, .int .i64 t16_18, .int .i64 t16_19, .int .i64 t16_20]] h fun v h1 => ∃ t17 : Int, v = .int .i64 t17 ∧ if (decide (t17 < 0)) = true then (idxA i_4 l_0n (nn l_0a fun t25 => ldI h1 (Addr.add (Addr.add t25 ((i_4).toNat * 21)) 12) .i64 fun t27 => idxA i_4 l_0n (nn l_0a fun t30 => ldL h1 (Addr.add (Addr.add t30 ((i_4).toNat * 21)) 13) fun t32a t32n t32c => alV h1 (.cells #[.int .i64 t27, .slice t32a t32n t32c, .slice none 0 0, .slice none 0 0, .slice none 0 0] T_api_Group) fun t34 h2 => bltV Try.prog .append #[T_sl_api_Group, T_sl_api_Group] T_sl_api_Group #[false, false] #[.slice out_3a out_3n out_3c, .slice (some t34) 1 1] h2 fun v h3 => ∃ t35a : Option Addr, ∃ t35n : Nat, ∃ t35c : Nat, v = .slice t35a t35n t35c ∧ ref46_Groups_b2 l_0a l_0n l_0c t35a t35n t35c i_4 ((out_3n : Nat) : Int) Q Kn1 h3))) else (ref46_Groups_b2 l_0a l_0n l_0c out_3a out_3n out_3c i_4 t17 Q Kn1 h1))) else (Q (.slice out_3a out_3n out_3c) h)
def ref46_Groups_v (l_0a : Option Addr) (l_0n l_0c : Nat) (Q : QT) (h : Heap) : Prop :=
 LoopV (fun (s : (Option Addr) × Nat × Nat × Int) h Kn => ref46_Groups_l1 l_0a l_0n l_0c Q s.1 s.2.1 s.2.2.1 s.2.2.2 h Kn) (none, 0, 0, 0) h
set_option maxRecDepth 100000 in
theorem ref46_Groups_s (l_0a : Option Addr) (l_0n l_0c : Nat) {Q : QT} {h : Heap} (hk : ref46_Groups_v l_0a l_0n l_0c Q h) : CallT Try.prog fn_ref46_Groups #[.slice l_0a l_0n l_0c] h Q :=
 callU follows Try.func20 (Try.call20 _) rfl rfl [] [(8, fun e h => dL (e 0) fun l_0a l_0n l_0c => dL (e 3) fun out_3a out_3n out_3c => dI .i64 (e 4) fun i_4 => LoopV (fun (s : (Option Addr) × Nat × Nat × Int) h Kn => ref46_Groups_l1 l_0a l_0n l_0c Q s.1 s.2.1 s.2.2.1 s.2.2.2 h Kn) (out_3a, out_3n, out_3c, i_4) h)]
 trivial
 ⟨⟨by kernel_rfl, fun e h he hk => by
 have F := Ag.nil (e := e)
 have ⟨l_0a, l_0n, l_0c, F, hk⟩ := eL F hk
 have ⟨out_3a, out_3n, out_3c, F, hk⟩ := eL F hk
 have ⟨i_4, F, hk⟩ := eI F hk
 exact loopU (s0 := (out_3a, out_3n, out_3c, i_4)) follows (fun _ h => by cases h) he F (fun s => [(4, .int .i64 s.2.2.2), (3, .slice s.1 s.2.1 s.2.2.1)]) (by kernel_rfl) (F.take 2) hk (fun Kn1 e h => dL (e 3) fun out_3a out_3n out_3c => dI .i64 (e 4) fun i_4 => Kn1 (out_3a, out_3n, out_3c, i_4) h) (fun Kn1 e h hk => by
  have F := Ag.nil (e := e)
  have ⟨out_3a, out_3n, out_3c, F, hk⟩ := eL F hk
  have ⟨i_4, F, hk⟩ := eI F hk
  exact ⟨(out_3a, out_3n, out_3c, i_4), F, hk⟩)
  (fun Kn1 => [(20, fun e h => dL (e 0) fun l_0a l_0n l_0c => dL (e 3) fun out_3a out_3n out_3c => dI .i64 (e 4) fun i_4 => dI .i64 (e 5) fun k_5 => ref46_Groups_b2 l_0a l_0n l_0c out_3a out_3n out_3c i_4 k_5 Q Kn1 h)]) (fun Kn1 => [])
  (fun Kn1 => ⟨fun e h _ hk => by
 have F := Ag.nil (e := e)
 have ⟨l_0a, l_0n, l_0c, F, hk⟩ := eL F hk
 have ⟨out_3a, out_3n, out_3c, F, hk⟩ := eL F hk
 have ⟨i_4, F, hk⟩ := eI F hk
 have ⟨k_5, F, hk⟩ := eI F hk
 exact cutU F (by as_aux_lemma => kernel_rfl) hk, trivial⟩)
  (fun Kn1 => trivial) (fun e s h Kn1 => by as_aux_lemma => kernel_rfl)⟩, trivial⟩ (by as_aux_lemma => kernel_rfl) hk
/-! ### intrusion/intrusionref43.Check -/
def ref43_Check_b3 (r_1 : Addr) (t81 : Bool) (Q : QT) (h : Heap) : Prop :=
 if t81 = true then (Q (.int .i64 4) h) else (ldL h (Addr.add r_1 2) fun t83a t83n t83c => CallT Try.prog fn_ref43_prefixes #[.slice t83a t83n t83c] h fun v h13 => ∃ t84 : Bool, v = .bool t84 ∧ if (!t84) = true then (Q (.int .i64 2) h13) else (ldL h13 (Addr.add r_1 3) fun t88a t88n t88c => CallT Try.prog fn_ref43_prefixes #[.slice t88a t88n t88c] h13 fun v h14 => ∃ t89 : Bool, v = .bool t89 ∧ if (!t89) = true then (Q (.int .i64 2) h14) else (ldL h14 (Addr.add r_1 14) fun t94a t94n t94c => CallT Try.prog fn_ref43_fast #[.slice t94a t94n t94c] h14 fun v h15 => ∃ t95 : Bool, v = .bool t95 ∧ if (!t95) = true then (Q (.int .i64 2) h15) else (ldL h15 (Addr.add r_1 14) fun t100a t100n t100c => ldL h15 (Addr.add r_1 15) fun t103a t103n t103c => if ((wrap .i64 (((t100n : Nat) : Int) + ((t103n : Nat) : Int))) == 0) = true then (Q (.int .i64 2) h15) else (Q (.int .i64 0) h15)))))
def ref43_Check_b2 (r_1 : Addr) (Q : QT) (h : Heap) : Prop :=
 ldL h (Addr.add r_1 14) fun t68a t68n t68c => CallT Try.prog fn_ref43_contents #[.slice t68a t68n t68c] h fun v h10 => ∃ t69 : Int, v = .int .i64 t69 ∧ if (t69 != 0) = true then (Q (.int .i64 t69) h10) else (ldL h10 (Addr.add r_1 15) fun t74a t74n t74c => CallT Try.prog fn_ref43_tests #[.slice t74a t74n t74c] h10 fun v h11 => ∃ t75 : Bool, v = .bool t75 ∧ if (!t75) = true then (ref43_Check_b3 r_1 true Q h11) else (ldI h11 r_1 .i64 fun t78_0 => ldI h11 (Addr.add r_1 1) .i64 fun t78_1 => ldL h11 (Addr.add r_1 2) fun t78_2a t78_2n t78_2c => ldL h11 (Addr.add r_1 3) fun t78_3a t78_3n t78_3c => ldL h11 (Addr.add r_1 4) fun t78_4a t78_4n t78_4c => ldL h11 (Addr.add r_1 5) fun t78_5a t78_5n t78_5c => ldB h11 (Addr.add r_1 6) fun t78_6 => ldI h11 (Addr.add r_1 7) .i64 fun t78_7 => ldI h11 (Addr.add r_1 8) .i64 fun t78_8 => ldI h11 (Addr.add r_1 9) .i64 fun t78_9 => ldS h11 (Addr.add r_1 10) fun t78_10 => ldI h11 (Addr.add r_1 11) .i64 fun t78_11 => ldI h11 (Addr.add r_1 12) .i64 fun t78_12 => ldL h11 (Addr.add r_1 13) fun t78_13a t78_13n t78_13c => ldL h11 (Addr.add r_1 14) fun t78_14a t78_14n t78_14c => ldL h11 (Addr.add r_1 15) fun t78_15a t78_15n t78_15c => ldL h11 (Addr.add r_1 16) fun t78_16a t78_16n t78_16c => ldI h11 (Addr.add r_1 17) .i64 fun t78_17 => ldI h11 (Addr.add r_1 18) .i64 fun t78_18 => ldI h11 (Addr.add r_1 19) .i64 fun t78_19 => ldI h11 (Addr.add r_1 20) .i64 fun t78_20 => CallT Try.prog fn_ref43_numbers #[.agg #[.int .i64 t78_0, .int .i64 t78_1, .slice t78_2a t78_2n t78_2c, .slice t78_3a t78_3n t78_3c, .slice t78_4a t78_4n t78_4c, .slice t78_5a t78_5n t78_5c, .bool t78_6, .int .i64 t78_7, .int .i64 t78_8, .int .i64 t78_9, .string t78_10, .int .i64 t78_11, .int .i64 t78_12, .slice t78_13a t78_13n t78_13c, .slice t78_14a t78_14n t78_14c, .slice t78_15a t78_15n t78_15c, .slice t78_16a t78_16n t78_16c, .int .i64 t78_17, .int .i64 t78_18, .int .i64 t78_19, .int .i64 t78_20]] h11 fun v h12 => ∃ t79 : Bool, v = .bool t79 ∧ ref43_Check_b3 r_1 (!t79) Q h12))
def ref43_Check_l1 (r_1 : Addr) (Q : QT) (i_3 : Int) (h : Heap) (Kn1 : Int → Heap → Prop) : Prop :=
 ldL h (Addr.add r_1 13) fun t48a t48n t48c => if (decide (i_3 < ((t48n : Nat) : Int))) = true then (ldL h (Addr.add r_1 13) fun t54a t54n t54c => idxA i_3 t54n (nn t54a fun t56 => ldI h (Addr.add t56 ((i_3).toNat * 1)) .i64 fun t57 => if (decide (t57 < 1)) = true then (Q (.int .i64 4) h) else (ldL h (Addr.add r_1 13) fun t61a t61n t61c => idxA i_3 t61n (nn t61a fun t63 => ldI h (Addr.add t63 ((i_3).toNat * 1)) .i64 fun t64 => if (decide (t64 > 6)) = true then (Q (.int .i64 4) h) else (Kn1 (wrap .i64 (i_3 + 1)) h))))) else (ref43_Check_b2 r_1 Q h)
def ref43_Check_v (r_0_0 r_0_1 : Int) (r_0_2a : Option Addr) (r_0_2n r_0_2c : Nat) (r_0_3a : Option Addr) (r_0_3n r_0_3c : Nat) (r_0_4a : Option Addr) (r_0_4n r_0_4c : Nat) (r_0_5a : Option Addr) (r_0_5n r_0_5c : Nat) (r_0_6 : Bool) (r_0_7 r_0_8 r_0_9 : Int) (r_0_10 : ByteArray) (r_0_11 r_0_12 : Int) (r_0_13a : Option Addr) (r_0_13n r_0_13c : Nat) (r_0_14a : Option Addr) (r_0_14n r_0_14c : Nat) (r_0_15a : Option Addr) (r_0_15n r_0_15c : Nat) (r_0_16a : Option Addr) (r_0_16n r_0_16c : Nat) (r_0_17 r_0_18 r_0_19 r_0_20 : Int) (Q : QT) (h : Heap) : Prop :=
 alV h (.cells #[.int .i64 r_0_0, .int .i64 r_0_1, .slice r_0_2a r_0_2n r_0_2c, .slice r_0_3a r_0_3n r_0_3c, .slice r_0_4a r_0_4n r_0_4c, .slice r_0_5a r_0_5n r_0_5c, .bool r_0_6, .int .i64 r_0_7, .int .i64 r_0_8, .int .i64 r_0_9, .string r_0_10, .int .i64 r_0_11, .int .i64 r_0_12, .slice r_0_13a r_0_13n r_0_13c, .slice r_0_14a r_0_14n r_0_14c, .slice r_0_15a r_0_15n r_0_15c, .slice r_0_16a r_0_16n r_0_16c, .int .i64 r_0_17, .int .i64 r_0_18, .int .i64 r_0_19, .int .i64 r_0_20] T_api_Rule) fun t1 h1 => ldI h1 t1 .i64 fun t6_0 => ldI h1 (Addr.add t1 1) .i64 fun t6_1 => ldL h1 (Addr.add t1 2) fun t6_2a t6_2n t6_2c => ldL h1 (Addr.add t1 3) fun t6_3a t6_3n t6_3c => ldL h1 (Addr.add t1 4) fun t6_4a t6_4n t6_4c => ldL h1 (Addr.add t1 5) fun t6_5a t6_5n t6_5c => ldB h1 (Addr.add t1 6) fun t6_6 => ldI h1 (Addr.add t1 7) .i64 fun t6_7 => ldI h1 (Addr.add t1 8) .i64 fun t6_8 => ldI h1 (Addr.add t1 9) .i64 fun t6_9 => ldS h1 (Addr.add t1 10) fun t6_10 => ldI h1 (Addr.add t1 11) .i64 fun t6_11 => ldI h1 (Addr.add t1 12) .i64 fun t6_12 => ldL h1 (Addr.add t1 13) fun t6_13a t6_13n t6_13c => ldL h1 (Addr.add t1 14) fun t6_14a t6_14n t6_14c => ldL h1 (Addr.add t1 15) fun t6_15a t6_15n t6_15c => ldL h1 (Addr.add t1 16) fun t6_16a t6_16n t6_16c => ldI h1 (Addr.add t1 17) .i64 fun t6_17 => ldI h1 (Addr.add t1 18) .i64 fun t6_18 => ldI h1 (Addr.add t1 19) .i64 fun t6_19 => ldI h1 (Addr.add t1 20) .i64 fun t6_20 => CallT Try.prog fn_ref43_basic #[.agg #[.int .i64 t6_0, .int .i64 t6_1, .slice t6_2a t6_2n t6_2c, .slice t6_3a t6_3n t6_3c, .slice t6_4a t6_4n t6_4c, .slice t6_5a t6_5n t6_5c, .bool t6_6, .int .i64 t6_7, .int .i64 t6_8, .int .i64 t6_9, .string t6_10, .int .i64 t6_11, .int .i64 t6_12, .slice t6_13a t6_13n t6_13c, .slice t6_14a t6_14n t6_14c, .slice t6_15a t6_15n t6_15c, .slice t6_16a t6_16n t6_16c, .int .i64 t6_17, .int .i64 t6_18, .int .i64 t6_19, .int .i64 t6_20]] h1 fun v h2 => ∃ t7 : Bool, v = .bool t7 ∧ if (!t7) = true then (Q (.int .i64 4) h2) else (ldI h2 t1 .i64 fun t10_0 => ldI h2 (Addr.add t1 1) .i64 fun t10_1 => ldL h2 (Addr.add t1 2) fun t10_2a t10_2n t10_2c => ldL h2 (Addr.add t1 3) fun t10_3a t10_3n t10_3c => ldL h2 (Addr.add t1 4) fun t10_4a t10_4n t10_4c => ldL h2 (Addr.add t1 5) fun t10_5a t10_5n t10_5c => ldB h2 (Addr.add t1 6) fun t10_6 => ldI h2 (Addr.add t1 7) .i64 fun t10_7 => ldI h2 (Addr.add t1 8) .i64 fun t10_8 => ldI h2 (Addr.add t1 9) .i64 fun t10_9 => ldS h2 (Addr.add t1 10) fun t10_10 => ldI h2 (Addr.add t1 11) .i64 fun t10_11 => ldI h2 (Addr.add t1 12) .i64 fun t10_12 => ldL h2 (Addr.add t1 13) fun t10_13a t10_13n t10_13c => ldL h2 (Addr.add t1 14) fun t10_14a t10_14n t10_14c => ldL h2 (Addr.add t1 15) fun t10_15a t10_15n t10_15c => ldL h2 (Addr.add t1 16) fun t10_16a t10_16n t10_16c => ldI h2 (Addr.add t1 17) .i64 fun t10_17 => ldI h2 (Addr.add t1 18) .i64 fun t10_18 => ldI h2 (Addr.add t1 19) .i64 fun t10_19 => ldI h2 (Addr.add t1 20) .i64 fun t10_20 => CallT Try.prog fn_ref43_typed #[.agg #[.int .i64 t10_0, .int .i64 t10_1, .slice t10_2a t10_2n t10_2c, .slice t10_3a t10_3n t10_3c, .slice t10_4a t10_4n t10_4c, .slice t10_5a t10_5n t10_5c, .bool t10_6, .int .i64 t10_7, .int .i64 t10_8, .int .i64 t10_9, .string t10_10, .int .i64 t10_11, .int .i64 t10_12, .slice t10_13a t10_13n t10_13c, .slice t10_14a t10_14n t10_14c, .slice t10_15a t10_15n t10_15c, .slice t10_16a t10_16n t10_16c, .int .i64 t10_17, .int .i64 t10_18, .int .i64 t10_19, .int .i64 t10_20]] h2 fun v h3 => ∃ t11 : Bool, v = .bool t11 ∧ if (!t11) = true then (Q (.int .i64 13) h3) else (ldI h3 t1 .i64 fun t14_0 => ldI h3 (Addr.add t1 1) .i64 fun t14_1 => ldL h3 (Addr.add t1 2) fun t14_2a t14_2n t14_2c => ldL h3 (Addr.add t1 3) fun t14_3a t14_3n t14_3c => ldL h3 (Addr.add t1 4) fun t14_4a t14_4n t14_4c => ldL h3 (Addr.add t1 5) fun t14_5a t14_5n t14_5c => ldB h3 (Addr.add t1 6) fun t14_6 => ldI h3 (Addr.add t1 7) .i64 fun t14_7 => ldI h3 (Addr.add t1 8) .i64 fun t14_8 => ldI h3 (Addr.add t1 9) .i64 fun t14_9 => ldS h3 (Addr.add t1 10) fun t14_10 => ldI h3 (Addr.add t1 11) .i64 fun t14_11 => ldI h3 (Addr.add t1 12) .i64 fun t14_12 => ldL h3 (Addr.add t1 13) fun t14_13a t14_13n t14_13c => ldL h3 (Addr.add t1 14) fun t14_14a t14_14n t14_14c => ldL h3 (Addr.add t1 15) fun t14_15a t14_15n t14_15c => ldL h3 (Addr.add t1 16) fun t14_16a t14_16n t14_16c => ldI h3 (Addr.add t1 17) .i64 fun t14_17 => ldI h3 (Addr.add t1 18) .i64 fun t14_18 => ldI h3 (Addr.add t1 19) .i64 fun t14_19 => ldI h3 (Addr.add t1 20) .i64 fun t14_20 => CallT Try.prog fn_ref43_sizes #[.agg #[.int .i64 t14_0, .int .i64 t14_1, .slice t14_2a t14_2n t14_2c, .slice t14_3a t14_3n t14_3c, .slice t14_4a t14_4n t14_4c, .slice t14_5a t14_5n t14_5c, .bool t14_6, .int .i64 t14_7, .int .i64 t14_8, .int .i64 t14_9, .string t14_10, .int .i64 t14_11, .int .i64 t14_12, .slice t14_13a t14_13n t14_13c, .slice t14_14a t14_14n t14_14c, .slice t14_15a t14_15n t14_15c, .slice t14_16a t14_16n t14_16c, .int .i64 t14_17, .int .i64 t14_18, .int .i64 t14_19, .int .i64 t14_20]] h3 fun v h4 => ∃ t15 : Bool, v = .bool t15 ∧ if (!t15) = true then (Q (.int .i64 3) h4) else (ldL h4 (Addr.add t1 2) fun t19a t19n t19c => CallT Try.prog fn_ref43_addrNames #[.slice t19a t19n t19c] h4 fun v h5 => ∃ t20 : Bool, v = .bool t20 ∧ if (!t20) = true then (Q (.int .i64 5) h5) else (ldL h5 (Addr.add t1 3) fun t24a t24n t24c => CallT Try.prog fn_ref43_addrNames #[.slice t24a t24n t24c] h5 fun v h6 => ∃ t25 : Bool, v = .bool t25 ∧ if (!t25) = true then (Q (.int .i64 5) h6) else (ldL h6 (Addr.add t1 4) fun t30a t30n t30c => CallT Try.prog fn_ref43_portNames #[.slice t30a t30n t30c] h6 fun v h7 => ∃ t31 : Bool, v = .bool t31 ∧ if (!t31) = true then (Q (.int .i64 5) h7) else (ldL h7 (Addr.add t1 5) fun t36a t36n t36c => CallT Try.prog fn_ref43_portNames #[.slice t36a t36n t36c] h7 fun v h8 => ∃ t37 : Bool, v = .bool t37 ∧ if (!t37) = true then (Q (.int .i64 5) h8) else (ldL h8 (Addr.add t1 16) fun t42a t42n t42c => CallT Try.prog fn_ref43_flowNames #[.slice t42a t42n t42c] h8 fun v h9 => ∃ t43 : Bool, v = .bool t43 ∧ if (!t43) = true then (Q (.int .i64 5) h9) else (LoopV (fun (s : Int) h Kn => ref43_Check_l1 t1 Q s h Kn) 0 h9))))))))
set_option maxRecDepth 100000 in
theorem ref43_Check_s (r_0_0 r_0_1 : Int) (r_0_2a : Option Addr) (r_0_2n r_0_2c : Nat) (r_0_3a : Option Addr) (r_0_3n r_0_3c : Nat) (r_0_4a : Option Addr) (r_0_4n r_0_4c : Nat) (r_0_5a : Option Addr) (r_0_5n r_0_5c : Nat) (r_0_6 : Bool) (r_0_7 r_0_8 r_0_9 : Int) (r_0_10 : ByteArray) (r_0_11 r_0_12 : Int) (r_0_13a : Option Addr) (r_0_13n r_0_13c : Nat) (r_0_14a : Option Addr) (r_0_14n r_0_14c : Nat) (r_0_15a : Option Addr) (r_0_15n r_0_15c : Nat) (r_0_16a : Option Addr) (r_0_16n r_0_16c : Nat) (r_0_17 r_0_18 r_0_19 r_0_20 : Int) {Q : QT} {h : Heap} (hk : ref43_Check_v r_0_0 r_0_1 r_0_2a r_0_2n r_0_2c r_0_3a r_0_3n r_0_3c r_0_4a r_0_4n r_0_4c r_0_5a r_0_5n r_0_5c r_0_6 r_0_7 r_0_8 r_0_9 r_0_10 r_0_11 r_0_12 r_0_13a r_0_13n r_0_13c r_0_14a r_0_14n r_0_14c r_0_15a r_0_15n r_0_15c r_0_16a r_0_16n r_0_16c r_0_17 r_0_18 r_0_19 r_0_20 Q h) : CallT Try.prog fn_ref43_Check #[.agg #[.int .i64 r_0_0, .int .i64 r_0_1, .slice r_0_2a r_0_2n r_0_2c, .slice r_0_3a r_0_3n r_0_3c, .slice r_0_4a r_0_4n r_0_4c, .slice r_0_5a r_0_5n r_0_5c, .bool r_0_6, .int .i64 r_0_7, .int .i64 r_0_8, .int .i64 r_0_9, .string r_0_10, .int .i64 r_0_11, .int .i64 r_0_12, .slice r_0_13a r_0_13n r_0_13c, .slice r_0_14a r_0_14n r_0_14c, .slice r_0_15a r_0_15n r_0_15c, .slice r_0_16a r_0_16n r_0_16c, .int .i64 r_0_17, .int .i64 r_0_18, .int .i64 r_0_19, .int .i64 r_0_20]] h Q :=
 callU follows Try.func21 (Try.call21 _) rfl rfl [(30, fun e h => dA (e 1) fun r_1 => ref43_Check_b2 r_1 Q h), (38, fun e h => dA (e 1) fun r_1 => dB (e 81) fun t81 => ref43_Check_b3 r_1 t81 Q h)] [(22, fun e h => dA (e 1) fun r_1 => dI .i64 (e 3) fun i_3 => LoopV (fun (s : Int) h Kn => ref43_Check_l1 r_1 Q s h Kn) i_3 h)]
 ⟨fun e h _ hk => by
 have F := Ag.nil (e := e)
 have ⟨r_1, F, hk⟩ := eA F hk
 exact cutU F (by as_aux_lemma => kernel_rfl) hk, fun e h _ hk => by
 have F := Ag.nil (e := e)
 have ⟨r_1, F, hk⟩ := eA F hk
 have ⟨t81, F, hk⟩ := eB F hk
 exact cutU F (by as_aux_lemma => kernel_rfl) hk, trivial⟩
 ⟨⟨by kernel_rfl, fun e h he hk => by
 have F := Ag.nil (e := e)
 have ⟨r_1, F, hk⟩ := eA F hk
 have ⟨i_3, F, hk⟩ := eI F hk
 exact loopU (s0 := i_3) follows (fun _ h => by cases h) he F (fun s => [(3, .int .i64 s)]) (by kernel_rfl) (F.take 1) hk (fun Kn1 e h => dI .i64 (e 3) fun i_3 => Kn1 i_3 h) (fun Kn1 e h hk => by
  have F := Ag.nil (e := e)
  have ⟨i_3, F, hk⟩ := eI F hk
  exact ⟨i_3, F, hk⟩)
  (fun Kn1 => []) (fun Kn1 => [])
  (fun Kn1 => trivial)
  (fun Kn1 => trivial) (fun e s h Kn1 => by as_aux_lemma => kernel_rfl)⟩, trivial⟩ (by as_aux_lemma => kernel_rfl) hk
/-! ### intrusion/content.Match -/
def content_Match_v (l_0a : Option Addr) (l_0n l_0c : Nat) (t_1a : Option Addr) (t_1n t_1c : Nat) (data_2 : ByteArray) (budget_3 : Int) (Q : QT) (h : Heap) : Prop :=
 alV h (.cells #[.slice l_0a l_0n l_0c, .slice t_1a t_1n t_1c, .string data_2, .int .i64 (if (0 : Int) > budget_3 then (0 : Int) else budget_3), .int .i64 0, .bool false] T_content_search) fun t19 h1 => CallT Try.prog fn_content_search_from #[.pointer (some t19), .int .i64 0, .int .i64 0] h1 fun v h2 => ∃ t22_0 : Int, ∃ t22_1 : Bool, v = .tuple #[.int .i64 t22_0, .bool t22_1] ∧ ldB h2 (Addr.add t19 5) fun t28 => if t28 = true then (ldI h2 (Addr.add t19 3) .i64 fun t32 => Q (.tuple #[.bool false, .int .i64 0, .int .i64 t32, .int .i64 16]) h2) else (ldI h2 (Addr.add t19 4) .i64 fun t38 => Q (.tuple #[.bool t22_1, .int .i64 t22_0, .int .i64 t38, .int .i64 0]) h2)
set_option maxRecDepth 100000 in
theorem content_Match_s (l_0a : Option Addr) (l_0n l_0c : Nat) (t_1a : Option Addr) (t_1n t_1c : Nat) (data_2 : ByteArray) (budget_3 : Int) {Q : QT} {h : Heap} (hk : content_Match_v l_0a l_0n l_0c t_1a t_1n t_1c data_2 budget_3 Q h) : CallT Try.prog fn_content_Match #[.slice l_0a l_0n l_0c, .slice t_1a t_1n t_1c, .string data_2, .int .i64 budget_3] h Q :=
 callU follows Try.func22 (Try.call22 _) rfl rfl [] []
 trivial
 trivial (by as_aux_lemma => kernel_rfl) hk
/-! ### intrusion/automaton.Plain -/
def automaton_Plain_b3 (l_0a : Option Addr) (l_0n l_0c : Nat) (s_1 : ByteArray) (out_5a : Option Addr) (out_5n out_5c : Nat) (low_6 : ByteArray) (end_7 i_8 : Int) (text_10 pattern_11 : ByteArray) (t20a : Option Addr) (t20n t20c : Nat) (t21 t22 : Int) (Q : QT) (Kn1 : (Option Addr) × Nat × Nat × Int → Heap → Prop) (Kn2 : (Option Addr) × Nat × Nat × Int → Heap → Prop) (h : Heap) : Prop :=
 if (!(pattern_11.toList == (⟨#[]⟩ : ByteArray).toList)) = true then (CallT Try.prog fn_strings_HasSuffix #[.string text_10, .string pattern_11] h fun v h5 => ∃ t44 : Bool, v = .bool t44 ∧ if t44 = true then (alV h5 (.cells #[.int .i64 i_8, .int .i64 end_7] T_api_Hit) fun t50 h6 => bltV Try.prog .append #[T_sl_api_Hit, T_sl_api_Hit] T_sl_api_Hit #[false, false] #[.slice out_5a out_5n out_5c, .slice (some t50) 1 1] h6 fun v h7 => ∃ t51a : Option Addr, ∃ t51n : Nat, ∃ t51c : Nat, v = .slice t51a t51n t51c ∧ Kn2 (t51a, t51n, t51c, wrap .i64 (t22 + 1)) h7) else (Kn2 (out_5a, out_5n, out_5c, wrap .i64 (t22 + 1)) h5)) else (Kn2 (out_5a, out_5n, out_5c, wrap .i64 (t22 + 1)) h)
def automaton_Plain_l2 (l_0a : Option Addr) (l_0n l_0c : Nat) (s_1 low_6 : ByteArray) (end_7 : Int) (t20a : Option Addr) (t20n t20c : Nat) (t21 : Int) (Q : QT) (Kn1 : (Option Addr) × Nat × Nat × Int → Heap → Prop) (out_5a : Option Addr) (out_5n out_5c : Nat) (t22 : Int) (h : Heap) (Kn2 : (Option Addr) × Nat × Nat × Int → Heap → Prop) : Prop :=
 if (decide (t22 < t21)) = true then (idxA t22 t20n (nn t20a fun t25 => ldS h (Addr.add t25 ((t22).toNat * 2)) fun t26_0 => ldB h (Addr.add (Addr.add t25 ((t22).toNat * 2)) 1) fun t26_1 => alV h (.cells #[.string (⟨#[]⟩ : ByteArray), .bool false] T_api_Pattern) fun t9 h2 => stN h2 t9 [.string t26_0, .bool t26_1] 0 fun h3 => sliceStr s_1 none (some end_7) fun t29 => ldS h3 t9 fun t31 => ldB h3 (Addr.add t9 1) fun t33 => if t33 = true then (sliceStr low_6 none (some end_7) fun t36 => CallT Try.prog fn_automaton_lower #[.string t31] h3 fun v h4 => ∃ t38 : ByteArray, v = .string t38 ∧ automaton_Plain_b3 l_0a l_0n l_0c s_1 out_5a out_5n out_5c low_6 end_7 t22 t36 t38 t20a t20n t20c t21 t22 Q Kn1 Kn2 h4) else (automaton_Plain_b3 l_0a l_0n l_0c s_1 out_5a out_5n out_5c low_6 end_7 t22 t29 t31 t20a t20n t20c t21 t22 Q Kn1 Kn2 h3))) else (Kn1 (out_5a, out_5n, out_5c, wrap .i64 (end_7 + 1)) h)
def automaton_Plain_l1 (l_0a : Option Addr) (l_0n l_0c : Nat) (s_1 low_6 : ByteArray) (Q : QT) (out_5a : Option Addr) (out_5n out_5c : Nat) (end_7 : Int) (h : Heap) (Kn1 : (Option Addr) × Nat × Nat × Int → Heap → Prop) : Prop :=
 if (decide (end_7 ≤ ((s_1.size : Nat) : Int))) = true then (LoopV (fun (s : (Option Addr) × Nat × Nat × Int) h Kn => automaton_Plain_l2 l_0a l_0n l_0c s_1 low_6 end_7 l_0a l_0n l_0c ((l_0n : Nat) : Int) Q Kn1 s.1 s.2.1 s.2.2.1 s.2.2.2 h Kn) (out_5a, out_5n, out_5c, 0) h) else (Q (.slice out_5a out_5n out_5c) h)
def automaton_Plain_v (l_0a : Option Addr) (l_0n l_0c : Nat) (s_1 : ByteArray) (Q : QT) (h : Heap) : Prop :=
 CallT Try.prog fn_automaton_lower #[.string s_1] h fun v h1 => ∃ t13 : ByteArray, v = .string t13 ∧ LoopV (fun (s : (Option Addr) × Nat × Nat × Int) h Kn => automaton_Plain_l1 l_0a l_0n l_0c s_1 t13 Q s.1 s.2.1 s.2.2.1 s.2.2.2 h Kn) (none, 0, 0, 1) h1
set_option maxRecDepth 100000 in
theorem automaton_Plain_s (l_0a : Option Addr) (l_0n l_0c : Nat) (s_1 : ByteArray) {Q : QT} {h : Heap} (hk : automaton_Plain_v l_0a l_0n l_0c s_1 Q h) : CallT Try.prog fn_automaton_Plain #[.slice l_0a l_0n l_0c, .string s_1] h Q :=
 callU follows Try.func23 (Try.call23 _) rfl rfl [] [(10, fun e h => dL (e 0) fun l_0a l_0n l_0c => dS (e 1) fun s_1 => dS (e 6) fun low_6 => dL (e 5) fun out_5a out_5n out_5c => dI .i64 (e 7) fun end_7 => LoopV (fun (s : (Option Addr) × Nat × Nat × Int) h Kn => automaton_Plain_l1 l_0a l_0n l_0c s_1 low_6 Q s.1 s.2.1 s.2.2.1 s.2.2.2 h Kn) (out_5a, out_5n, out_5c, end_7) h)]
 trivial
 ⟨⟨by kernel_rfl, fun e h he hk => by
 have F := Ag.nil (e := e)
 have ⟨l_0a, l_0n, l_0c, F, hk⟩ := eL F hk
 have ⟨s_1, F, hk⟩ := eS F hk
 have ⟨low_6, F, hk⟩ := eS F hk
 have ⟨out_5a, out_5n, out_5c, F, hk⟩ := eL F hk
 have ⟨end_7, F, hk⟩ := eI F hk
 exact loopU (s0 := (out_5a, out_5n, out_5c, end_7)) follows (fun _ h => by cases h) he F (fun s => [(7, .int .i64 s.2.2.2), (5, .slice s.1 s.2.1 s.2.2.1)]) (by kernel_rfl) (F.take 2) hk (fun Kn1 e h => dL (e 5) fun out_5a out_5n out_5c => dI .i64 (e 7) fun end_7 => Kn1 (out_5a, out_5n, out_5c, end_7) h) (fun Kn1 e h hk => by
  have F := Ag.nil (e := e)
  have ⟨out_5a, out_5n, out_5c, F, hk⟩ := eL F hk
  have ⟨end_7, F, hk⟩ := eI F hk
  exact ⟨(out_5a, out_5n, out_5c, end_7), F, hk⟩)
  (fun Kn1 => []) (fun Kn1 => [(16, fun e h => dL (e 0) fun l_0a l_0n l_0c => dS (e 1) fun s_1 => dS (e 6) fun low_6 => dI .i64 (e 7) fun end_7 => dL (e 20) fun t20a t20n t20c => dI .i64 (e 21) fun t21 => dL (e 5) fun out_5a out_5n out_5c => dI .i64 (e 22) fun t22 => LoopV (fun (s : (Option Addr) × Nat × Nat × Int) h Kn => automaton_Plain_l2 l_0a l_0n l_0c s_1 low_6 end_7 t20a t20n t20c t21 Q Kn1 s.1 s.2.1 s.2.2.1 s.2.2.2 h Kn) (out_5a, out_5n, out_5c, t22) h)])
  (fun Kn1 => trivial)
  (fun Kn1 => ⟨⟨by kernel_rfl, fun e h he hk => by
 have F := Ag.nil (e := e)
 have ⟨l_0a, l_0n, l_0c, F, hk⟩ := eL F hk
 have ⟨s_1, F, hk⟩ := eS F hk
 have ⟨low_6, F, hk⟩ := eS F hk
 have ⟨end_7, F, hk⟩ := eI F hk
 have ⟨t20a, t20n, t20c, F, hk⟩ := eL F hk
 have ⟨t21, F, hk⟩ := eI F hk
 have ⟨out_5a, out_5n, out_5c, F, hk⟩ := eL F hk
 have ⟨t22, F, hk⟩ := eI F hk
 exact loopU (s0 := (out_5a, out_5n, out_5c, t22)) follows (keep_sub (by kernel_rfl)) he F (fun s => [(22, .int .i64 s.2.2.2), (5, .slice s.1 s.2.1 s.2.2.1)]) (by kernel_rfl) (F.take 2) hk (fun Kn2 e h => dL (e 5) fun out_5a out_5n out_5c => dI .i64 (e 22) fun t22 => Kn2 (out_5a, out_5n, out_5c, t22) h) (fun Kn2 e h hk => by
  have F := Ag.nil (e := e)
  have ⟨out_5a, out_5n, out_5c, F, hk⟩ := eL F hk
  have ⟨t22, F, hk⟩ := eI F hk
  exact ⟨(out_5a, out_5n, out_5c, t22), F, hk⟩)
  (fun Kn2 => [(26, fun e h => dL (e 0) fun l_0a l_0n l_0c => dS (e 1) fun s_1 => dL (e 5) fun out_5a out_5n out_5c => dS (e 6) fun low_6 => dI .i64 (e 7) fun end_7 => dI .i64 (e 8) fun i_8 => dS (e 10) fun text_10 => dS (e 11) fun pattern_11 => dL (e 20) fun t20a t20n t20c => dI .i64 (e 21) fun t21 => dI .i64 (e 22) fun t22 => automaton_Plain_b3 l_0a l_0n l_0c s_1 out_5a out_5n out_5c low_6 end_7 i_8 text_10 pattern_11 t20a t20n t20c t21 t22 Q Kn1 Kn2 h)]) (fun Kn2 => [])
  (fun Kn2 => ⟨fun e h _ hk => by
 have F := Ag.nil (e := e)
 have ⟨l_0a, l_0n, l_0c, F, hk⟩ := eL F hk
 have ⟨s_1, F, hk⟩ := eS F hk
 have ⟨out_5a, out_5n, out_5c, F, hk⟩ := eL F hk
 have ⟨low_6, F, hk⟩ := eS F hk
 have ⟨end_7, F, hk⟩ := eI F hk
 have ⟨i_8, F, hk⟩ := eI F hk
 have ⟨text_10, F, hk⟩ := eS F hk
 have ⟨pattern_11, F, hk⟩ := eS F hk
 have ⟨t20a, t20n, t20c, F, hk⟩ := eL F hk
 have ⟨t21, F, hk⟩ := eI F hk
 have ⟨t22, F, hk⟩ := eI F hk
 exact cutU F (by as_aux_lemma => kernel_rfl) hk, trivial⟩)
  (fun Kn2 => trivial) (fun e s h Kn2 => by as_aux_lemma => kernel_rfl)⟩, trivial⟩) (fun e s h Kn1 => by as_aux_lemma => kernel_rfl)⟩, trivial⟩ (by as_aux_lemma => kernel_rfl) hk
/-! ### intrusion/fastpattern.common -/
def fastpattern_common_v (c_0 : Int) (Q : QT) (h : Heap) : Prop :=
 if (decide (c_0 ≥ 97)) = true then (if (decide (c_0 ≤ 122)) = true then (Q (.bool true) h) else (if (decide (c_0 ≥ 65)) = true then (if (decide (c_0 ≤ 90)) = true then (Q (.bool true) h) else (if (decide (c_0 ≥ 48)) = true then (if (decide (c_0 ≤ 57)) = true then (Q (.bool true) h) else (Q (.bool (c_0 == 32)) h)) else (Q (.bool (c_0 == 32)) h))) else (if (decide (c_0 ≥ 48)) = true then (if (decide (c_0 ≤ 57)) = true then (Q (.bool true) h) else (Q (.bool (c_0 == 32)) h)) else (Q (.bool (c_0 == 32)) h)))) else (if (decide (c_0 ≥ 65)) = true then (if (decide (c_0 ≤ 90)) = true then (Q (.bool true) h) else (if (decide (c_0 ≥ 48)) = true then (if (decide (c_0 ≤ 57)) = true then (Q (.bool true) h) else (Q (.bool (c_0 == 32)) h)) else (Q (.bool (c_0 == 32)) h))) else (if (decide (c_0 ≥ 48)) = true then (if (decide (c_0 ≤ 57)) = true then (Q (.bool true) h) else (Q (.bool (c_0 == 32)) h)) else (Q (.bool (c_0 == 32)) h)))
set_option maxRecDepth 100000 in
theorem fastpattern_common_s (c_0 : Int) {Q : QT} {h : Heap} (hk : fastpattern_common_v c_0 Q h) : CallT Try.prog fn_fastpattern_common #[.int .u8 c_0] h Q :=
 callU follows Try.func24 (Try.call24 _) rfl rfl [] []
 trivial
 trivial (by as_aux_lemma => kernel_rfl) hk
/-! ### intrusion/intrusionref46.common -/
def ref46_common_v (c_0 : Int) (Q : QT) (h : Heap) : Prop :=
 if (decide (c_0 ≥ 97)) = true then (if (decide (c_0 ≤ 122)) = true then (Q (.bool true) h) else (if (decide (c_0 ≥ 65)) = true then (if (decide (c_0 ≤ 90)) = true then (Q (.bool true) h) else (if (decide (c_0 ≥ 48)) = true then (if (decide (c_0 ≤ 57)) = true then (Q (.bool true) h) else (Q (.bool (c_0 == 32)) h)) else (Q (.bool (c_0 == 32)) h))) else (if (decide (c_0 ≥ 48)) = true then (if (decide (c_0 ≤ 57)) = true then (Q (.bool true) h) else (Q (.bool (c_0 == 32)) h)) else (Q (.bool (c_0 == 32)) h)))) else (if (decide (c_0 ≥ 65)) = true then (if (decide (c_0 ≤ 90)) = true then (Q (.bool true) h) else (if (decide (c_0 ≥ 48)) = true then (if (decide (c_0 ≤ 57)) = true then (Q (.bool true) h) else (Q (.bool (c_0 == 32)) h)) else (Q (.bool (c_0 == 32)) h))) else (if (decide (c_0 ≥ 48)) = true then (if (decide (c_0 ≤ 57)) = true then (Q (.bool true) h) else (Q (.bool (c_0 == 32)) h)) else (Q (.bool (c_0 == 32)) h)))
set_option maxRecDepth 100000 in
theorem ref46_common_s (c_0 : Int) {Q : QT} {h : Heap} (hk : ref46_common_v c_0 Q h) : CallT Try.prog fn_ref46_common #[.int .u8 c_0] h Q :=
 callU follows Try.func25 (Try.call25 _) rfl rfl [] []
 trivial
 trivial (by as_aux_lemma => kernel_rfl) hk
/-! ### strings.Clone -/
def strings_Clone_v (s_0 : ByteArray) (Q : QT) (h : Heap) : Prop :=
 CallT Try.prog fn_internal_stringslite_Clone #[.string s_0] h fun v h1 => ∃ t4 : ByteArray, v = .string t4 ∧ Q (.string t4) h1
set_option maxRecDepth 100000 in
theorem strings_Clone_s (s_0 : ByteArray) {Q : QT} {h : Heap} (hk : strings_Clone_v s_0 Q h) : CallT Try.prog fn_strings_Clone #[.string s_0] h Q :=
 callU follows Try.func26 (Try.call26 _) rfl rfl [] []
 trivial
 trivial (by as_aux_lemma => kernel_rfl) hk
/-! ### intrusion/fastpattern.small -/
def fastpattern_small_l1 (b_3a : Option Addr) (b_3n b_3c : Nat) (t8a : Option Addr) (t8n t8c : Nat) (t9 : Int) (Q : QT) (t10 : Int) (h : Heap) (Kn1 : Int → Heap → Prop) : Prop :=
 if (decide (t10 < t9)) = true then (idxA t10 t8n (nn t8a fun t13 => ldI h (Addr.add t13 ((t10).toNat * 1)) .u8 fun t14 => if (decide (t14 ≥ 65)) = true then (if (decide (t14 ≤ 90)) = true then (idxA t10 b_3n (nn b_3a fun t25 => st1 h (Addr.add t25 ((t10).toNat * 1)) (.int .u8 (wrap .u8 (t14 + 32))) fun h2 => Kn1 (wrap .i64 (t10 + 1)) h2)) else (Kn1 (wrap .i64 (t10 + 1)) h)) else (Kn1 (wrap .i64 (t10 + 1)) h))) else (convV Try.prog T_sl_uint8 T_string (.slice b_3a b_3n b_3c) h fun v h3 => ∃ t28 : ByteArray, v = .string t28 ∧ Q (.string t28) h3)
def fastpattern_small_v (s_0 : ByteArray) (Q : QT) (h : Heap) : Prop :=
 convV Try.prog T_string T_sl_uint8 (.string s_0) h fun v h1 => ∃ t7a : Option Addr, ∃ t7n : Nat, ∃ t7c : Nat, v = .slice t7a t7n t7c ∧ LoopV (fun (s : Int) h Kn => fastpattern_small_l1 t7a t7n t7c t7a t7n t7c ((t7n : Nat) : Int) Q s h Kn) 0 h1
set_option maxRecDepth 100000 in
theorem fastpattern_small_s (s_0 : ByteArray) {Q : QT} {h : Heap} (hk : fastpattern_small_v s_0 Q h) : CallT Try.prog fn_fastpattern_small #[.string s_0] h Q :=
 callU follows Try.func27 (Try.call27 _) rfl rfl [] [(8, fun e h => dL (e 3) fun b_3a b_3n b_3c => dL (e 8) fun t8a t8n t8c => dI .i64 (e 9) fun t9 => dI .i64 (e 10) fun t10 => LoopV (fun (s : Int) h Kn => fastpattern_small_l1 b_3a b_3n b_3c t8a t8n t8c t9 Q s h Kn) t10 h)]
 trivial
 ⟨⟨by kernel_rfl, fun e h he hk => by
 have F := Ag.nil (e := e)
 have ⟨b_3a, b_3n, b_3c, F, hk⟩ := eL F hk
 have ⟨t8a, t8n, t8c, F, hk⟩ := eL F hk
 have ⟨t9, F, hk⟩ := eI F hk
 have ⟨t10, F, hk⟩ := eI F hk
 exact loopU (s0 := t10) follows (fun _ h => by cases h) he F (fun s => [(10, .int .i64 s)]) (by kernel_rfl) (F.take 1) hk (fun Kn1 e h => dI .i64 (e 10) fun t10 => Kn1 t10 h) (fun Kn1 e h hk => by
  have F := Ag.nil (e := e)
  have ⟨t10, F, hk⟩ := eI F hk
  exact ⟨t10, F, hk⟩)
  (fun Kn1 => []) (fun Kn1 => [])
  (fun Kn1 => trivial)
  (fun Kn1 => trivial) (fun e s h Kn1 => by as_aux_lemma => kernel_rfl)⟩, trivial⟩ (by as_aux_lemma => kernel_rfl) hk
/-! ### intrusion/intrusionref46.Small -/
def ref46_Small_l1 (b_3a : Option Addr) (b_3n b_3c : Nat) (Q : QT) (i_4 : Int) (h : Heap) (Kn1 : Int → Heap → Prop) : Prop :=
 if (decide (i_4 < ((b_3n : Nat) : Int))) = true then (idxA i_4 b_3n (nn b_3a fun t15 => ldI h (Addr.add t15 ((i_4).toNat * 1)) .u8 fun t16 => if (decide (t16 ≥ 65)) = true then (idxA i_4 b_3n (nn b_3a fun t21 => ldI h (Addr.add t21 ((i_4).toNat * 1)) .u8 fun t22 => if (decide (t22 ≤ 90)) = true then (idxA i_4 b_3n (nn b_3a fun t27 => ldI h (Addr.add t27 ((i_4).toNat * 1)) .u8 fun t28 => idxA i_4 b_3n (nn b_3a fun t30 => st1 h (Addr.add t30 ((i_4).toNat * 1)) (.int .u8 (wrap .u8 (t28 + 32))) fun h2 => Kn1 (wrap .i64 (i_4 + 1)) h2))) else (Kn1 (wrap .i64 (i_4 + 1)) h))) else (Kn1 (wrap .i64 (i_4 + 1)) h))) else (convV Try.prog T_sl_uint8 T_string (.slice b_3a b_3n b_3c) h fun v h3 => ∃ t32 : ByteArray, v = .string t32 ∧ Q (.string t32) h3)
def ref46_Small_v (s_0 : ByteArray) (Q : QT) (h : Heap) : Prop :=
 convV Try.prog T_string T_sl_uint8 (.string s_0) h fun v h1 => ∃ t6a : Option Addr, ∃ t6n : Nat, ∃ t6c : Nat, v = .slice t6a t6n t6c ∧ LoopV (fun (s : Int) h Kn => ref46_Small_l1 t6a t6n t6c Q s h Kn) 0 h1
set_option maxRecDepth 100000 in
theorem ref46_Small_s (s_0 : ByteArray) {Q : QT} {h : Heap} (hk : ref46_Small_v s_0 Q h) : CallT Try.prog fn_ref46_Small #[.string s_0] h Q :=
 callU follows Try.func28 (Try.call28 _) rfl rfl [] [(8, fun e h => dL (e 3) fun b_3a b_3n b_3c => dI .i64 (e 4) fun i_4 => LoopV (fun (s : Int) h Kn => ref46_Small_l1 b_3a b_3n b_3c Q s h Kn) i_4 h)]
 trivial
 ⟨⟨by kernel_rfl, fun e h he hk => by
 have F := Ag.nil (e := e)
 have ⟨b_3a, b_3n, b_3c, F, hk⟩ := eL F hk
 have ⟨i_4, F, hk⟩ := eI F hk
 exact loopU (s0 := i_4) follows (fun _ h => by cases h) he F (fun s => [(4, .int .i64 s)]) (by kernel_rfl) (F.take 1) hk (fun Kn1 e h => dI .i64 (e 4) fun i_4 => Kn1 i_4 h) (fun Kn1 e h hk => by
  have F := Ag.nil (e := e)
  have ⟨i_4, F, hk⟩ := eI F hk
  exact ⟨i_4, F, hk⟩)
  (fun Kn1 => []) (fun Kn1 => [])
  (fun Kn1 => trivial)
  (fun Kn1 => trivial) (fun e s h Kn1 => by as_aux_lemma => kernel_rfl)⟩, trivial⟩ (by as_aux_lemma => kernel_rfl) hk
/-! ### intrusion/intrusionref46.counts -/
def ref46_counts_v (c_0_0 : ByteArray) (c_0_1 c_0_2 c_0_3 : Bool) (c_0_4 c_0_5 : Int) (c_0_6 : Bool) (Q : QT) (h : Heap) : Prop :=
 alV h (.cells #[.string c_0_0, .bool c_0_1, .bool c_0_2, .bool c_0_3, .int .i64 c_0_4, .int .i64 c_0_5, .bool c_0_6] T_api_Content) fun t1 h1 => ldB h1 (Addr.add t1 2) fun t4 => if (!t4) = true then (ldS h1 t1 fun t8 => Q (.bool (!(t8.toList == (⟨#[]⟩ : ByteArray).toList))) h1) else (Q (.bool false) h1)
set_option maxRecDepth 100000 in
theorem ref46_counts_s (c_0_0 : ByteArray) (c_0_1 c_0_2 c_0_3 : Bool) (c_0_4 c_0_5 : Int) (c_0_6 : Bool) {Q : QT} {h : Heap} (hk : ref46_counts_v c_0_0 c_0_1 c_0_2 c_0_3 c_0_4 c_0_5 c_0_6 Q h) : CallT Try.prog fn_ref46_counts #[.agg #[.string c_0_0, .bool c_0_1, .bool c_0_2, .bool c_0_3, .int .i64 c_0_4, .int .i64 c_0_5, .bool c_0_6]] h Q :=
 callU follows Try.func29 (Try.call29 _) rfl rfl [] []
 trivial
 trivial (by as_aux_lemma => kernel_rfl) hk
/-! ### intrusion/intrusionref46.ints -/
def ref46_ints_l1 (a_0a : Option Addr) (a_0n a_0c : Nat) (b_1a : Option Addr) (b_1n b_1c : Nat) (Q : QT) (i_5 : Int) (h : Heap) (Kn1 : Int → Heap → Prop) : Prop :=
 if (decide (i_5 < ((a_0n : Nat) : Int))) = true then (idxA i_5 a_0n (nn a_0a fun t19 => ldI h (Addr.add t19 ((i_5).toNat * 1)) .i64 fun t20 => idxA i_5 b_1n (nn b_1a fun t23 => ldI h (Addr.add t23 ((i_5).toNat * 1)) .i64 fun t24 => if (t20 != t24) = true then (Q (.bool false) h) else (Kn1 (wrap .i64 (i_5 + 1)) h)))) else (Q (.bool true) h)
def ref46_ints_v (a_0a : Option Addr) (a_0n a_0c : Nat) (b_1a : Option Addr) (b_1n b_1c : Nat) (Q : QT) (h : Heap) : Prop :=
 if (((a_0n : Nat) : Int) != ((b_1n : Nat) : Int)) = true then (Q (.bool false) h) else (LoopV (fun (s : Int) h Kn => ref46_ints_l1 a_0a a_0n a_0c b_1a b_1n b_1c Q s h Kn) 0 h)
set_option maxRecDepth 100000 in
theorem ref46_ints_s (a_0a : Option Addr) (a_0n a_0c : Nat) (b_1a : Option Addr) (b_1n b_1c : Nat) {Q : QT} {h : Heap} (hk : ref46_ints_v a_0a a_0n a_0c b_1a b_1n b_1c Q h) : CallT Try.prog fn_ref46_ints #[.slice a_0a a_0n a_0c, .slice b_1a b_1n b_1c] h Q :=
 callU follows Try.func30 (Try.call30 _) rfl rfl [] [(10, fun e h => dL (e 0) fun a_0a a_0n a_0c => dL (e 1) fun b_1a b_1n b_1c => dI .i64 (e 5) fun i_5 => LoopV (fun (s : Int) h Kn => ref46_ints_l1 a_0a a_0n a_0c b_1a b_1n b_1c Q s h Kn) i_5 h)]
 trivial
 ⟨⟨by kernel_rfl, fun e h he hk => by
 have F := Ag.nil (e := e)
 have ⟨a_0a, a_0n, a_0c, F, hk⟩ := eL F hk
 have ⟨b_1a, b_1n, b_1c, F, hk⟩ := eL F hk
 have ⟨i_5, F, hk⟩ := eI F hk
 exact loopU (s0 := i_5) follows (fun _ h => by cases h) he F (fun s => [(5, .int .i64 s)]) (by kernel_rfl) (F.take 1) hk (fun Kn1 e h => dI .i64 (e 5) fun i_5 => Kn1 i_5 h) (fun Kn1 e h hk => by
  have F := Ag.nil (e := e)
  have ⟨i_5, F, hk⟩ := eI F hk
  exact ⟨i_5, F, hk⟩)
  (fun Kn1 => []) (fun Kn1 => [])
  (fun Kn1 => trivial)
  (fun Kn1 => trivial) (fun e s h Kn1 => by as_aux_lemma => kernel_rfl)⟩, trivial⟩ (by as_aux_lemma => kernel_rfl) hk
/-! ### intrusion/fastpattern.place[intrusion/api.Group] -/
def fastpattern_place_api_Group_b2 (l_0a : Option Addr) (l_0n l_0c : Nat) (Q : QT) (h : Heap) : Prop :=
 Q (.int .i64 ((l_0n : Nat) : Int)) h
def fastpattern_place_api_Group_l1 (l_0a : Option Addr) (l_0n l_0c : Nat) (fits_1 : Value) (t7a : Option Addr) (t7n t7c : Nat) (t8 : Int) (Q : QT) (t9 : Int) (h : Heap) (Kn1 : Int → Heap → Prop) : Prop :=
 if (decide (t9 < t8)) = true then (idxA t9 t7n (nn t7a fun t12 => ldI h (Addr.add t12 ((t9).toNat * 5)) .i64 fun t13_0 => ldL h (Addr.add (Addr.add t12 ((t9).toNat * 5)) 1) fun t13_1a t13_1n t13_1c => ldL h (Addr.add (Addr.add t12 ((t9).toNat * 5)) 2) fun t13_2a t13_2n t13_2c => ldL h (Addr.add (Addr.add t12 ((t9).toNat * 5)) 3) fun t13_3a t13_3n t13_3c => ldL h (Addr.add (Addr.add t12 ((t9).toNat * 5)) 4) fun t13_4a t13_4n t13_4c => alV h (.cells #[.int .i64 0, .slice none 0 0, .slice none 0 0, .slice none 0 0, .slice none 0 0] T_api_Group) fun t6 h1 => stN h1 t6 [.int .i64 t13_0, .slice t13_1a t13_1n t13_1c, .slice t13_2a t13_2n t13_2c, .slice t13_3a t13_3n t13_3c, .slice t13_4a t13_4n t13_4c] 0 fun h2 => ldI h2 t6 .i64 fun t15_0 => ldL h2 (Addr.add t6 1) fun t15_1a t15_1n t15_1c => ldL h2 (Addr.add t6 2) fun t15_2a t15_2n t15_2c => ldL h2 (Addr.add t6 3) fun t15_3a t15_3n t15_3c => ldL h2 (Addr.add t6 4) fun t15_4a t15_4n t15_4c => CallV Try.prog fits_1 #[.agg #[.int .i64 t15_0, .slice t15_1a t15_1n t15_1c, .slice t15_2a t15_2n t15_2c, .slice t15_3a t15_3n t15_3c, .slice t15_4a t15_4n t15_4c]] h2 fun v h3 => ∃ t16 : Bool, v = .bool t16 ∧ if t16 = true then (Q (.int .i64 t9) h3) else (Kn1 (wrap .i64 (t9 + 1)) h3))) else (fastpattern_place_api_Group_b2 l_0a l_0n l_0c Q h)
def fastpattern_place_api_Group_v (l_0a : Option Addr) (l_0n l_0c : Nat) (fits_1 : Value) (Q : QT) (h : Heap) : Prop :=
 LoopV (fun (s : Int) h Kn => fastpattern_place_api_Group_l1 l_0a l_0n l_0c fits_1 l_0a l_0n l_0c ((l_0n : Nat) : Int) Q s h Kn) 0 h
set_option maxRecDepth 100000 in
theorem fastpattern_place_api_Group_s (l_0a : Option Addr) (l_0n l_0c : Nat) (fits_1 : Value) {Q : QT} {h : Heap} (hk : fastpattern_place_api_Group_v l_0a l_0n l_0c fits_1 Q h) : CallT Try.prog fn_fastpattern_place_api_Group #[.slice l_0a l_0n l_0c, fits_1] h Q :=
 callU follows Try.func31 (Try.call31 _) rfl rfl [(16, fun e h => dL (e 0) fun l_0a l_0n l_0c => fastpattern_place_api_Group_b2 l_0a l_0n l_0c Q h)] [(6, fun e h => dL (e 0) fun l_0a l_0n l_0c => dV (e 1) fun fits_1 => dL (e 7) fun t7a t7n t7c => dI .i64 (e 8) fun t8 => dI .i64 (e 9) fun t9 => LoopV (fun (s : Int) h Kn => fastpattern_place_api_Group_l1 l_0a l_0n l_0c fits_1 t7a t7n t7c t8 Q s h Kn) t9 h)]
 ⟨fun e h _ hk => by
 have F := Ag.nil (e := e)
 have ⟨l_0a, l_0n, l_0c, F, hk⟩ := eL F hk
 exact cutU F (by as_aux_lemma => kernel_rfl) hk, trivial⟩
 ⟨⟨by kernel_rfl, fun e h he hk => by
 have F := Ag.nil (e := e)
 have ⟨l_0a, l_0n, l_0c, F, hk⟩ := eL F hk
 have ⟨fits_1, F, hk⟩ := eV F hk
 have ⟨t7a, t7n, t7c, F, hk⟩ := eL F hk
 have ⟨t8, F, hk⟩ := eI F hk
 have ⟨t9, F, hk⟩ := eI F hk
 exact loopU (s0 := t9) follows (fun _ h => by cases h) he F (fun s => [(9, .int .i64 s)]) (by kernel_rfl) (F.take 1) hk (fun Kn1 e h => dI .i64 (e 9) fun t9 => Kn1 t9 h) (fun Kn1 e h hk => by
  have F := Ag.nil (e := e)
  have ⟨t9, F, hk⟩ := eI F hk
  exact ⟨t9, F, hk⟩)
  (fun Kn1 => []) (fun Kn1 => [])
  (fun Kn1 => trivial)
  (fun Kn1 => trivial) (fun e s h Kn1 => by as_aux_lemma => kernel_rfl)⟩, trivial⟩ (by as_aux_lemma => kernel_rfl) hk
/-! ### intrusion/fastpattern.Groups$1 -/
def fastpattern_Groups_1_v (g_0_0 : Int) (g_0_1a : Option Addr) (g_0_1n g_0_1c : Nat) (g_0_2a : Option Addr) (g_0_2n g_0_2c : Nat) (g_0_3a : Option Addr) (g_0_3n g_0_3c : Nat) (g_0_4a : Option Addr) (g_0_4n g_0_4c : Nat) (t1 : Addr) (Q : QT) (h : Heap) : Prop :=
 alV h (.cells #[.int .i64 g_0_0, .slice g_0_1a g_0_1n g_0_1c, .slice g_0_2a g_0_2n g_0_2c, .slice g_0_3a g_0_3n g_0_3c, .slice g_0_4a g_0_4n g_0_4c] T_api_Group) fun t2 h1 => ldI h1 t2 .i64 fun t5 => ldI h1 (Addr.add t1 12) .i64 fun t7 => if (t5 == t7) = true then (ldL h1 (Addr.add t2 1) fun t11a t11n t11c => ldL h1 (Addr.add t1 13) fun t13a t13n t13c => CallT Try.prog fn_slices_Equal_int_int #[.slice t11a t11n t11c, .slice t13a t13n t13c] h1 fun v h2 => ∃ t14 : Bool, v = .bool t14 ∧ Q (.bool t14) h2) else (Q (.bool false) h1)
set_option maxRecDepth 100000 in
theorem fastpattern_Groups_1_s (g_0_0 : Int) (g_0_1a : Option Addr) (g_0_1n g_0_1c : Nat) (g_0_2a : Option Addr) (g_0_2n g_0_2c : Nat) (g_0_3a : Option Addr) (g_0_3n g_0_3c : Nat) (g_0_4a : Option Addr) (g_0_4n g_0_4c : Nat) (t1 : Addr) {Q : QT} {h : Heap} (hk : fastpattern_Groups_1_v g_0_0 g_0_1a g_0_1n g_0_1c g_0_2a g_0_2n g_0_2c g_0_3a g_0_3n g_0_3c g_0_4a g_0_4n g_0_4c t1 Q h) : CallT Try.prog fn_fastpattern_Groups_1 #[.agg #[.int .i64 g_0_0, .slice g_0_1a g_0_1n g_0_1c, .slice g_0_2a g_0_2n g_0_2c, .slice g_0_3a g_0_3n g_0_3c, .slice g_0_4a g_0_4n g_0_4c], .pointer (some t1)] h Q :=
 callU follows Try.func32 (Try.call32 _) rfl rfl [] []
 trivial
 trivial (by as_aux_lemma => kernel_rfl) hk
/-! ### slices.Equal[[]int,int] -/
def slices_Equal_int_int_l1 (s1_0a : Option Addr) (s1_0n s1_0c : Nat) (s2_1a : Option Addr) (s2_1n s2_1c : Nat) (t12 : Int) (Q : QT) (t13 : Int) (h : Heap) (Kn1 : Int → Heap → Prop) : Prop :=
 if (decide (t13 < t12)) = true then (idxA t13 s1_0n (nn s1_0a fun t18 => ldI h (Addr.add t18 ((t13).toNat * 1)) .i64 fun t19 => idxA t13 s2_1n (nn s2_1a fun t22 => ldI h (Addr.add t22 ((t13).toNat * 1)) .i64 fun t23 => if (t19 != t23) = true then (Q (.bool false) h) else (Kn1 (wrap .i64 (t13 + 1)) h)))) else (Q (.bool true) h)
def slices_Equal_int_int_v (s1_0a : Option Addr) (s1_0n s1_0c : Nat) (s2_1a : Option Addr) (s2_1n s2_1c : Nat) (Q : QT) (h : Heap) : Prop :=
 if (((s1_0n : Nat) : Int) != ((s2_1n : Nat) : Int)) = true then (Q (.bool false) h) else (LoopV (fun (s : Int) h Kn => slices_Equal_int_int_l1 s1_0a s1_0n s1_0c s2_1a s2_1n s2_1c ((s1_0n : Nat) : Int) Q s h Kn) 0 h)
set_option maxRecDepth 100000 in
theorem slices_Equal_int_int_s (s1_0a : Option Addr) (s1_0n s1_0c : Nat) (s2_1a : Option Addr) (s2_1n s2_1c : Nat) {Q : QT} {h : Heap} (hk : slices_Equal_int_int_v s1_0a s1_0n s1_0c s2_1a s2_1n s2_1c Q h) : CallT Try.prog fn_slices_Equal_int_int #[.slice s1_0a s1_0n s1_0c, .slice s2_1a s2_1n s2_1c] h Q :=
 callU follows Try.func33 (Try.call33 _) rfl rfl [] [(10, fun e h => dL (e 0) fun s1_0a s1_0n s1_0c => dL (e 1) fun s2_1a s2_1n s2_1c => dI .i64 (e 12) fun t12 => dI .i64 (e 13) fun t13 => LoopV (fun (s : Int) h Kn => slices_Equal_int_int_l1 s1_0a s1_0n s1_0c s2_1a s2_1n s2_1c t12 Q s h Kn) t13 h)]
 trivial
 ⟨⟨by kernel_rfl, fun e h he hk => by
 have F := Ag.nil (e := e)
 have ⟨s1_0a, s1_0n, s1_0c, F, hk⟩ := eL F hk
 have ⟨s2_1a, s2_1n, s2_1c, F, hk⟩ := eL F hk
 have ⟨t12, F, hk⟩ := eI F hk
 have ⟨t13, F, hk⟩ := eI F hk
 exact loopU (s0 := t13) follows (fun _ h => by cases h) he F (fun s => [(13, .int .i64 s)]) (by kernel_rfl) (F.take 1) hk (fun Kn1 e h => dI .i64 (e 13) fun t13 => Kn1 t13 h) (fun Kn1 e h hk => by
  have F := Ag.nil (e := e)
  have ⟨t13, F, hk⟩ := eI F hk
  exact ⟨t13, F, hk⟩)
  (fun Kn1 => []) (fun Kn1 => [])
  (fun Kn1 => trivial)
  (fun Kn1 => trivial) (fun e s h Kn1 => by as_aux_lemma => kernel_rfl)⟩, trivial⟩ (by as_aux_lemma => kernel_rfl) hk
/-! ### slices.Clone[[]int,int] -/
def slices_Clone_int_int_v (s_0a : Option Addr) (s_0n s_0c : Nat) (Q : QT) (h : Heap) : Prop :=
 if (Option.isNone s_0a) = true then (Q (.slice none 0 0) h) else (alV h (.cells #[] T_int) fun t5 h1 => bltV Try.prog .append #[T_sl_int, T_sl_int] T_sl_int #[false, false] #[.slice (some t5) 0 0, .slice s_0a s_0n s_0c] h1 fun v h2 => ∃ t7a : Option Addr, ∃ t7n : Nat, ∃ t7c : Nat, v = .slice t7a t7n t7c ∧ Q (.slice t7a t7n t7c) h2)
set_option maxRecDepth 100000 in
theorem slices_Clone_int_int_s (s_0a : Option Addr) (s_0n s_0c : Nat) {Q : QT} {h : Heap} (hk : slices_Clone_int_int_v s_0a s_0n s_0c Q h) : CallT Try.prog fn_slices_Clone_int_int #[.slice s_0a s_0n s_0c] h Q :=
 callU follows Try.func34 (Try.call34 _) rfl rfl [] []
 trivial
 trivial (by as_aux_lemma => kernel_rfl) hk
/-! ### intrusion/fastpattern.place[intrusion/api.Pattern] -/
def fastpattern_place_api_Pattern_b2 (l_0a : Option Addr) (l_0n l_0c : Nat) (Q : QT) (h : Heap) : Prop :=
 Q (.int .i64 ((l_0n : Nat) : Int)) h
def fastpattern_place_api_Pattern_l1 (l_0a : Option Addr) (l_0n l_0c : Nat) (fits_1 : Value) (t7a : Option Addr) (t7n t7c : Nat) (t8 : Int) (Q : QT) (t9 : Int) (h : Heap) (Kn1 : Int → Heap → Prop) : Prop :=
 if (decide (t9 < t8)) = true then (idxA t9 t7n (nn t7a fun t12 => ldS h (Addr.add t12 ((t9).toNat * 2)) fun t13_0 => ldB h (Addr.add (Addr.add t12 ((t9).toNat * 2)) 1) fun t13_1 => alV h (.cells #[.string (⟨#[]⟩ : ByteArray), .bool false] T_api_Pattern) fun t6 h1 => stN h1 t6 [.string t13_0, .bool t13_1] 0 fun h2 => ldS h2 t6 fun t15_0 => ldB h2 (Addr.add t6 1) fun t15_1 => CallV Try.prog fits_1 #[.agg #[.string t15_0, .bool t15_1]] h2 fun v h3 => ∃ t16 : Bool, v = .bool t16 ∧ if t16 = true then (Q (.int .i64 t9) h3) else (Kn1 (wrap .i64 (t9 + 1)) h3))) else (fastpattern_place_api_Pattern_b2 l_0a l_0n l_0c Q h)
def fastpattern_place_api_Pattern_v (l_0a : Option Addr) (l_0n l_0c : Nat) (fits_1 : Value) (Q : QT) (h : Heap) : Prop :=
 LoopV (fun (s : Int) h Kn => fastpattern_place_api_Pattern_l1 l_0a l_0n l_0c fits_1 l_0a l_0n l_0c ((l_0n : Nat) : Int) Q s h Kn) 0 h
set_option maxRecDepth 100000 in
theorem fastpattern_place_api_Pattern_s (l_0a : Option Addr) (l_0n l_0c : Nat) (fits_1 : Value) {Q : QT} {h : Heap} (hk : fastpattern_place_api_Pattern_v l_0a l_0n l_0c fits_1 Q h) : CallT Try.prog fn_fastpattern_place_api_Pattern #[.slice l_0a l_0n l_0c, fits_1] h Q :=
 callU follows Try.func35 (Try.call35 _) rfl rfl [(16, fun e h => dL (e 0) fun l_0a l_0n l_0c => fastpattern_place_api_Pattern_b2 l_0a l_0n l_0c Q h)] [(6, fun e h => dL (e 0) fun l_0a l_0n l_0c => dV (e 1) fun fits_1 => dL (e 7) fun t7a t7n t7c => dI .i64 (e 8) fun t8 => dI .i64 (e 9) fun t9 => LoopV (fun (s : Int) h Kn => fastpattern_place_api_Pattern_l1 l_0a l_0n l_0c fits_1 t7a t7n t7c t8 Q s h Kn) t9 h)]
 ⟨fun e h _ hk => by
 have F := Ag.nil (e := e)
 have ⟨l_0a, l_0n, l_0c, F, hk⟩ := eL F hk
 exact cutU F (by as_aux_lemma => kernel_rfl) hk, trivial⟩
 ⟨⟨by kernel_rfl, fun e h he hk => by
 have F := Ag.nil (e := e)
 have ⟨l_0a, l_0n, l_0c, F, hk⟩ := eL F hk
 have ⟨fits_1, F, hk⟩ := eV F hk
 have ⟨t7a, t7n, t7c, F, hk⟩ := eL F hk
 have ⟨t8, F, hk⟩ := eI F hk
 have ⟨t9, F, hk⟩ := eI F hk
 exact loopU (s0 := t9) follows (fun _ h => by cases h) he F (fun s => [(9, .int .i64 s)]) (by kernel_rfl) (F.take 1) hk (fun Kn1 e h => dI .i64 (e 9) fun t9 => Kn1 t9 h) (fun Kn1 e h hk => by
  have F := Ag.nil (e := e)
  have ⟨t9, F, hk⟩ := eI F hk
  exact ⟨t9, F, hk⟩)
  (fun Kn1 => []) (fun Kn1 => [])
  (fun Kn1 => trivial)
  (fun Kn1 => trivial) (fun e s h Kn1 => by as_aux_lemma => kernel_rfl)⟩, trivial⟩ (by as_aux_lemma => kernel_rfl) hk
/-! ### intrusion/fastpattern.Groups$2 -/
def fastpattern_Groups_2_v (x_0_0 : ByteArray) (x_0_1 : Bool) (t1 : Addr) (Q : QT) (h : Heap) : Prop :=
 alV h (.cells #[.string x_0_0, .bool x_0_1] T_api_Pattern) fun t2 h1 => ldS h1 t2 fun t4_0 => ldB h1 (Addr.add t2 1) fun t4_1 => ldS h1 t1 fun t5_0 => ldB h1 (Addr.add t1 1) fun t5_1 => Q (.bool ((t4_0 == t5_0) && ((t4_1 == t5_1) && true))) h1
set_option maxRecDepth 100000 in
theorem fastpattern_Groups_2_s (x_0_0 : ByteArray) (x_0_1 : Bool) (t1 : Addr) {Q : QT} {h : Heap} (hk : fastpattern_Groups_2_v x_0_0 x_0_1 t1 Q h) : CallT Try.prog fn_fastpattern_Groups_2 #[.agg #[.string x_0_0, .bool x_0_1], .pointer (some t1)] h Q :=
 callU follows Try.func36 (Try.call36 _) rfl rfl [] []
 trivial
 trivial (by as_aux_lemma => kernel_rfl) hk
/-! ### intrusion/intrusionref46.place -/
def ref46_place_l1 (l_0a : Option Addr) (l_0n l_0c : Nat) (r_3 : Addr) (Q : QT) (i_5 : Int) (h : Heap) (Kn1 : Int → Heap → Prop) : Prop :=
 if (decide (i_5 < ((l_0n : Nat) : Int))) = true then (idxA i_5 l_0n (nn l_0a fun t14 => ldI h (Addr.add t14 ((i_5).toNat * 5)) .i64 fun t16 => ldI h (Addr.add r_3 12) .i64 fun t18 => if (t16 == t18) = true then (idxA i_5 l_0n (nn l_0a fun t23 => ldL h (Addr.add (Addr.add t23 ((i_5).toNat * 5)) 1) fun t25a t25n t25c => ldL h (Addr.add r_3 13) fun t27a t27n t27c => CallT Try.prog fn_ref46_ints #[.slice t25a t25n t25c, .slice t27a t27n t27c] h fun v h2 => ∃ t28 : Bool, v = .bool t28 ∧ if t28 = true then (Q (.int .i64 i_5) h2) else (Kn1 (wrap .i64 (i_5 + 1)) h2))) else (Kn1 (wrap .i64 (i_5 + 1)) h))) else (Q (.int .i64 (-1)) h)
def ref46_place_v (l_0a : Option Addr) (l_0n l_0c : Nat) (r_1_0 r_1_1 : Int) (r_1_2a : Option Addr) (r_1_2n r_1_2c : Nat) (r_1_3a : Option Addr) (r_1_3n r_1_3c : Nat) (r_1_4a : Option Addr) (r_1_4n r_1_4c : Nat) (r_1_5a : Option Addr) (r_1_5n r_1_5c : Nat) (r_1_6 : Bool) (r_1_7 r_1_8 r_1_9 : Int) (r_1_10 : ByteArray) (r_1_11 r_1_12 : Int) (r_1_13a : Option Addr) (r_1_13n r_1_13c : Nat) (r_1_14a : Option Addr) (r_1_14n r_1_14c : Nat) (r_1_15a : Option Addr) (r_1_15n r_1_15c : Nat) (r_1_16a : Option Addr) (r_1_16n r_1_16c : Nat) (r_1_17 r_1_18 r_1_19 r_1_20 : Int) (Q : QT) (h : Heap) : Prop :=
 alV h (.cells #[.int .i64 r_1_0, .int .i64 r_1_1, .slice r_1_2a r_1_2n r_1_2c, .slice r_1_3a r_1_3n r_1_3c, .slice r_1_4a r_1_4n r_1_4c, .slice r_1_5a r_1_5n r_1_5c, .bool r_1_6, .int .i64 r_1_7, .int .i64 r_1_8, .int .i64 r_1_9, .string r_1_10, .int .i64 r_1_11, .int .i64 r_1_12, .slice r_1_13a r_1_13n r_1_13c, .slice r_1_14a r_1_14n r_1_14c, .slice r_1_15a r_1_15n r_1_15c, .slice r_1_16a r_1_16n r_1_16c, .int .i64 r_1_17, .int .i64 r_1_18, .int .i64 r_1_19, .int .i64 r_1_20] T_api_Rule) fun t3 h1 => LoopV (fun (s : Int) h Kn => ref46_place_l1 l_0a l_0n l_0c t3 Q s h Kn) 0 h1
set_option maxRecDepth 100000 in
theorem ref46_place_s (l_0a : Option Addr) (l_0n l_0c : Nat) (r_1_0 r_1_1 : Int) (r_1_2a : Option Addr) (r_1_2n r_1_2c : Nat) (r_1_3a : Option Addr) (r_1_3n r_1_3c : Nat) (r_1_4a : Option Addr) (r_1_4n r_1_4c : Nat) (r_1_5a : Option Addr) (r_1_5n r_1_5c : Nat) (r_1_6 : Bool) (r_1_7 r_1_8 r_1_9 : Int) (r_1_10 : ByteArray) (r_1_11 r_1_12 : Int) (r_1_13a : Option Addr) (r_1_13n r_1_13c : Nat) (r_1_14a : Option Addr) (r_1_14n r_1_14c : Nat) (r_1_15a : Option Addr) (r_1_15n r_1_15c : Nat) (r_1_16a : Option Addr) (r_1_16n r_1_16c : Nat) (r_1_17 r_1_18 r_1_19 r_1_20 : Int) {Q : QT} {h : Heap} (hk : ref46_place_v l_0a l_0n l_0c r_1_0 r_1_1 r_1_2a r_1_2n r_1_2c r_1_3a r_1_3n r_1_3c r_1_4a r_1_4n r_1_4c r_1_5a r_1_5n r_1_5c r_1_6 r_1_7 r_1_8 r_1_9 r_1_10 r_1_11 r_1_12 r_1_13a r_1_13n r_1_13c r_1_14a r_1_14n r_1_14c r_1_15a r_1_15n r_1_15c r_1_16a r_1_16n r_1_16c r_1_17 r_1_18 r_1_19 r_1_20 Q h) : CallT Try.prog fn_ref46_place #[.slice l_0a l_0n l_0c, .agg #[.int .i64 r_1_0, .int .i64 r_1_1, .slice r_1_2a r_1_2n r_1_2c, .slice r_1_3a r_1_3n r_1_3c, .slice r_1_4a r_1_4n r_1_4c, .slice r_1_5a r_1_5n r_1_5c, .bool r_1_6, .int .i64 r_1_7, .int .i64 r_1_8, .int .i64 r_1_9, .string r_1_10, .int .i64 r_1_11, .int .i64 r_1_12, .slice r_1_13a r_1_13n r_1_13c, .slice r_1_14a r_1_14n r_1_14c, .slice r_1_15a r_1_15n r_1_15c, .slice r_1_16a r_1_16n r_1_16c, .int .i64 r_1_17, .int .i64 r_1_18, .int .i64 r_1_19, .int .i64 r_1_20]] h Q :=
 callU follows Try.func37 (Try.call37 _) rfl rfl [] [(6, fun e h => dL (e 0) fun l_0a l_0n l_0c => dA (e 3) fun r_3 => dI .i64 (e 5) fun i_5 => LoopV (fun (s : Int) h Kn => ref46_place_l1 l_0a l_0n l_0c r_3 Q s h Kn) i_5 h)]
 trivial
 ⟨⟨by kernel_rfl, fun e h he hk => by
 have F := Ag.nil (e := e)
 have ⟨l_0a, l_0n, l_0c, F, hk⟩ := eL F hk
 have ⟨r_3, F, hk⟩ := eA F hk
 have ⟨i_5, F, hk⟩ := eI F hk
 exact loopU (s0 := i_5) follows (fun _ h => by cases h) he F (fun s => [(5, .int .i64 s)]) (by kernel_rfl) (F.take 1) hk (fun Kn1 e h => dI .i64 (e 5) fun i_5 => Kn1 i_5 h) (fun Kn1 e h hk => by
  have F := Ag.nil (e := e)
  have ⟨i_5, F, hk⟩ := eI F hk
  exact ⟨i_5, F, hk⟩)
  (fun Kn1 => []) (fun Kn1 => [])
  (fun Kn1 => trivial)
  (fun Kn1 => trivial) (fun e s h Kn1 => by as_aux_lemma => kernel_rfl)⟩, trivial⟩ (by as_aux_lemma => kernel_rfl) hk
/-! ### intrusion/intrusionref46.add -/
def ref46_add_b2 (index_2 : Int) (g_3 t6 p_7 : Addr) (Q : QT) (h : Heap) : Prop :=
 ldL h (Addr.add g_3 2) fun t55a t55n t55c => ldS h p_7 fun t56_0 => ldB h (Addr.add p_7 1) fun t56_1 => alV h (.cells #[.string t56_0, .bool t56_1] T_api_Pattern) fun t57 h15 => bltV Try.prog .append #[T_sl_api_Pattern, T_sl_api_Pattern] T_sl_api_Pattern #[false, false] #[.slice t55a t55n t55c, .slice (some t57) 1 1] h15 fun v h16 => ∃ t58a : Option Addr, ∃ t58n : Nat, ∃ t58c : Nat, v = .slice t58a t58n t58c ∧ st1 h16 (Addr.add g_3 2) (.slice t58a t58n t58c) fun h17 => ldL h17 (Addr.add g_3 3) fun t61a t61n t61c => alV h17 (.cells #[.int .i64 index_2] T_int) fun t63 h18 => alV h18 (.cells #[.slice (some t63) 1 1] T_sl_int) fun t64 h19 => bltV Try.prog .append #[T_sl_sl_int, T_sl_sl_int] T_sl_sl_int #[false, false] #[.slice t61a t61n t61c, .slice (some t64) 1 1] h19 fun v h20 => ∃ t65a : Option Addr, ∃ t65n : Nat, ∃ t65c : Nat, v = .slice t65a t65n t65c ∧ st1 h20 (Addr.add g_3 3) (.slice t65a t65n t65c) fun h21 => ldI h21 g_3 .i64 fun t67_0 => ldL h21 (Addr.add g_3 1) fun t67_1a t67_1n t67_1c => ldL h21 (Addr.add g_3 2) fun t67_2a t67_2n t67_2c => ldL h21 (Addr.add g_3 3) fun t67_3a t67_3n t67_3c => ldL h21 (Addr.add g_3 4) fun t67_4a t67_4n t67_4c => stN h21 t6 [.int .i64 t67_0, .slice t67_1a t67_1n t67_1c, .slice t67_2a t67_2n t67_2c, .slice t67_3a t67_3n t67_3c, .slice t67_4a t67_4n t67_4c] 0 fun h22 => ldI h22 t6 .i64 fun r0_0 => ldL h22 (Addr.add t6 1) fun r0_1a r0_1n r0_1c => ldL h22 (Addr.add t6 2) fun r0_2a r0_2n r0_2c => ldL h22 (Addr.add t6 3) fun r0_3a r0_3n r0_3c => ldL h22 (Addr.add t6 4) fun r0_4a r0_4n r0_4c => Q (.agg #[.int .i64 r0_0, .slice r0_1a r0_1n r0_1c, .slice r0_2a r0_2n r0_2c, .slice r0_3a r0_3n r0_3c, .slice r0_4a r0_4n r0_4c]) h22
def ref46_add_l1 (index_2 : Int) (g_3 t6 p_7 : Addr) (Q : QT) (i_9 : Int) (h : Heap) (Kn1 : Int → Heap → Prop) : Prop :=
 ldL h (Addr.add g_3 2) fun t27a t27n t27c => if (decide (i_9 < ((t27n : Nat) : Int))) = true then (ldL h (Addr.add g_3 2) fun t33a t33n t33c => idxA i_9 t33n (nn t33a fun t35 => ldS h (Addr.add t35 ((i_9).toNat * 2)) fun t36_0 => ldB h (Addr.add (Addr.add t35 ((i_9).toNat * 2)) 1) fun t36_1 => ldS h p_7 fun t37_0 => ldB h (Addr.add p_7 1) fun t37_1 => if ((t36_0 == t37_0) && ((t36_1 == t37_1) && true)) = true then (ldL h (Addr.add g_3 3) fun t40a t40n t40c => idxA i_9 t40n (nn t40a fun t42 => ldL h (Addr.add t42 ((i_9).toNat * 1)) fun t43a t43n t43c => alV h (.cells #[.int .i64 index_2] T_int) fun t46 h11 => bltV Try.prog .append #[T_sl_int, T_sl_int] T_sl_int #[false, false] #[.slice t43a t43n t43c, .slice (some t46) 1 1] h11 fun v h12 => ∃ t47a : Option Addr, ∃ t47n : Nat, ∃ t47c : Nat, v = .slice t47a t47n t47c ∧ ldL h12 (Addr.add g_3 3) fun t49a t49n t49c => idxA i_9 t49n (nn t49a fun t52 => st1 h12 (Addr.add t52 ((i_9).toNat * 1)) (.slice t47a t47n t47c) fun h13 => ldI h13 g_3 .i64 fun t53_0 => ldL h13 (Addr.add g_3 1) fun t53_1a t53_1n t53_1c => ldL h13 (Addr.add g_3 2) fun t53_2a t53_2n t53_2c => ldL h13 (Addr.add g_3 3) fun t53_3a t53_3n t53_3c => ldL h13 (Addr.add g_3 4) fun t53_4a t53_4n t53_4c => stN h13 t6 [.int .i64 t53_0, .slice t53_1a t53_1n t53_1c, .slice t53_2a t53_2n t53_2c, .slice t53_3a t53_3n t53_3c, .slice t53_4a t53_4n t53_4c] 0 fun h14 => ldI h14 t6 .i64 fun r0_0 => ldL h14 (Addr.add t6 1) fun r0_1a r0_1n r0_1c => ldL h14 (Addr.add t6 2) fun r0_2a r0_2n r0_2c => ldL h14 (Addr.add t6 3) fun r0_3a r0_3n r0_3c => ldL h14 (Addr.add t6 4) fun r0_4a r0_4n r0_4c => Q (.agg #[.int .i64 r0_0, .slice r0_1a r0_1n r0_1c, .slice r0_2a r0_2n r0_2c, .slice r0_3a r0_3n r0_3c, .slice r0_4a r0_4n r0_4c]) h14))) else (Kn1 (wrap .i64 (i_9 + 1)) h))) else (ref46_add_b2 index_2 g_3 t6 p_7 Q h)
def ref46_add_v (g_0_0 : Int) (g_0_1a : Option Addr) (g_0_1n g_0_1c : Nat) (g_0_2a : Option Addr) (g_0_2n g_0_2c : Nat) (g_0_3a : Option Addr) (g_0_3n g_0_3c : Nat) (g_0_4a : Option Addr) (g_0_4n g_0_4c : Nat) (r_1_0 r_1_1 : Int) (r_1_2a : Option Addr) (r_1_2n r_1_2c : Nat) (r_1_3a : Option Addr) (r_1_3n r_1_3c : Nat) (r_1_4a : Option Addr) (r_1_4n r_1_4c : Nat) (r_1_5a : Option Addr) (r_1_5n r_1_5c : Nat) (r_1_6 : Bool) (r_1_7 r_1_8 r_1_9 : Int) (r_1_10 : ByteArray) (r_1_11 r_1_12 : Int) (r_1_13a : Option Addr) (r_1_13n r_1_13c : Nat) (r_1_14a : Option Addr) (r_1_14n r_1_14c : Nat) (r_1_15a : Option Addr) (r_1_15n r_1_15c : Nat) (r_1_16a : Option Addr) (r_1_16n r_1_16c : Nat) (r_1_17 r_1_18 r_1_19 r_1_20 index_2 : Int) (Q : QT) (h : Heap) : Prop :=
 alV h (.cells #[.int .i64 g_0_0, .slice g_0_1a g_0_1n g_0_1c, .slice g_0_2a g_0_2n g_0_2c, .slice g_0_3a g_0_3n g_0_3c, .slice g_0_4a g_0_4n g_0_4c] T_api_Group) fun t3 h1 => alV h1 (.cells #[.int .i64 r_1_0, .int .i64 r_1_1, .slice r_1_2a r_1_2n r_1_2c, .slice r_1_3a r_1_3n r_1_3c, .slice r_1_4a r_1_4n r_1_4c, .slice r_1_5a r_1_5n r_1_5c, .bool r_1_6, .int .i64 r_1_7, .int .i64 r_1_8, .int .i64 r_1_9, .string r_1_10, .int .i64 r_1_11, .int .i64 r_1_12, .slice r_1_13a r_1_13n r_1_13c, .slice r_1_14a r_1_14n r_1_14c, .slice r_1_15a r_1_15n r_1_15c, .slice r_1_16a r_1_16n r_1_16c, .int .i64 r_1_17, .int .i64 r_1_18, .int .i64 r_1_19, .int .i64 r_1_20] T_api_Rule) fun t4 h2 => alV h2 (.cells #[.int .i64 0, .slice none 0 0, .slice none 0 0, .slice none 0 0, .slice none 0 0] T_api_Group) fun t6 h3 => ldI h3 t4 .i64 fun t12_0 => ldI h3 (Addr.add t4 1) .i64 fun t12_1 => ldL h3 (Addr.add t4 2) fun t12_2a t12_2n t12_2c => ldL h3 (Addr.add t4 3) fun t12_3a t12_3n t12_3c => ldL h3 (Addr.add t4 4) fun t12_4a t12_4n t12_4c => ldL h3 (Addr.add t4 5) fun t12_5a t12_5n t12_5c => ldB h3 (Addr.add t4 6) fun t12_6 => ldI h3 (Addr.add t4 7) .i64 fun t12_7 => ldI h3 (Addr.add t4 8) .i64 fun t12_8 => ldI h3 (Addr.add t4 9) .i64 fun t12_9 => ldS h3 (Addr.add t4 10) fun t12_10 => ldI h3 (Addr.add t4 11) .i64 fun t12_11 => ldI h3 (Addr.add t4 12) .i64 fun t12_12 => ldL h3 (Addr.add t4 13) fun t12_13a t12_13n t12_13c => ldL h3 (Addr.add t4 14) fun t12_14a t12_14n t12_14c => ldL h3 (Addr.add t4 15) fun t12_15a t12_15n t12_15c => ldL h3 (Addr.add t4 16) fun t12_16a t12_16n t12_16c => ldI h3 (Addr.add t4 17) .i64 fun t12_17 => ldI h3 (Addr.add t4 18) .i64 fun t12_18 => ldI h3 (Addr.add t4 19) .i64 fun t12_19 => ldI h3 (Addr.add t4 20) .i64 fun t12_20 => CallT Try.prog fn_ref46_Pattern #[.agg #[.int .i64 t12_0, .int .i64 t12_1, .slice t12_2a t12_2n t12_2c, .slice t12_3a t12_3n t12_3c, .slice t12_4a t12_4n t12_4c, .slice t12_5a t12_5n t12_5c, .bool t12_6, .int .i64 t12_7, .int .i64 t12_8, .int .i64 t12_9, .string t12_10, .int .i64 t12_11, .int .i64 t12_12, .slice t12_13a t12_13n t12_13c, .slice t12_14a t12_14n t12_14c, .slice t12_15a t12_15n t12_15c, .slice t12_16a t12_16n t12_16c, .int .i64 t12_17, .int .i64 t12_18, .int .i64 t12_19, .int .i64 t12_20]] h3 fun v h4 => ∃ t13_0_0 : ByteArray, ∃ t13_0_1 : Bool, ∃ t13_1 : Bool, v = .tuple #[.agg #[.string t13_0_0, .bool t13_0_1], .bool t13_1] ∧ alV h4 (.cells #[.string (⟨#[]⟩ : ByteArray), .bool false] T_api_Pattern) fun t7 h5 => stN h5 t7 [.string t13_0_0, .bool t13_0_1] 0 fun h6 => if (!t13_1) = true then (ldL h6 (Addr.add t3 4) fun t19a t19n t19c => alV h6 (.cells #[.int .i64 index_2] T_int) fun t21 h7 => bltV Try.prog .append #[T_sl_int, T_sl_int] T_sl_int #[false, false] #[.slice t19a t19n t19c, .slice (some t21) 1 1] h7 fun v h8 => ∃ t22a : Option Addr, ∃ t22n : Nat, ∃ t22c : Nat, v = .slice t22a t22n t22c ∧ st1 h8 (Addr.add t3 4) (.slice t22a t22n t22c) fun h9 => ldI h9 t3 .i64 fun t24_0 => ldL h9 (Addr.add t3 1) fun t24_1a t24_1n t24_1c => ldL h9 (Addr.add t3 2) fun t24_2a t24_2n t24_2c => ldL h9 (Addr.add t3 3) fun t24_3a t24_3n t24_3c => ldL h9 (Addr.add t3 4) fun t24_4a t24_4n t24_4c => stN h9 t6 [.int .i64 t24_0, .slice t24_1a t24_1n t24_1c, .slice t24_2a t24_2n t24_2c, .slice t24_3a t24_3n t24_3c, .slice t24_4a t24_4n t24_4c] 0 fun h10 => ldI h10 t6 .i64 fun r0_0 => ldL h10 (Addr.add t6 1) fun r0_1a r0_1n r0_1c => ldL h10 (Addr.add t6 2) fun r0_2a r0_2n r0_2c => ldL h10 (Addr.add t6 3) fun r0_3a r0_3n r0_3c => ldL h10 (Addr.add t6 4) fun r0_4a r0_4n r0_4c => Q (.agg #[.int .i64 r0_0, .slice r0_1a r0_1n r0_1c, .slice r0_2a r0_2n r0_2c, .slice r0_3a r0_3n r0_3c, .slice r0_4a r0_4n r0_4c]) h10) else (LoopV (fun (s : Int) h Kn => ref46_add_l1 index_2 t3 t6 t7 Q s h Kn) 0 h6)
set_option maxRecDepth 100000 in
theorem ref46_add_s (g_0_0 : Int) (g_0_1a : Option Addr) (g_0_1n g_0_1c : Nat) (g_0_2a : Option Addr) (g_0_2n g_0_2c : Nat) (g_0_3a : Option Addr) (g_0_3n g_0_3c : Nat) (g_0_4a : Option Addr) (g_0_4n g_0_4c : Nat) (r_1_0 r_1_1 : Int) (r_1_2a : Option Addr) (r_1_2n r_1_2c : Nat) (r_1_3a : Option Addr) (r_1_3n r_1_3c : Nat) (r_1_4a : Option Addr) (r_1_4n r_1_4c : Nat) (r_1_5a : Option Addr) (r_1_5n r_1_5c : Nat) (r_1_6 : Bool) (r_1_7 r_1_8 r_1_9 : Int) (r_1_10 : ByteArray) (r_1_11 r_1_12 : Int) (r_1_13a : Option Addr) (r_1_13n r_1_13c : Nat) (r_1_14a : Option Addr) (r_1_14n r_1_14c : Nat) (r_1_15a : Option Addr) (r_1_15n r_1_15c : Nat) (r_1_16a : Option Addr) (r_1_16n r_1_16c : Nat) (r_1_17 r_1_18 r_1_19 r_1_20 index_2 : Int) {Q : QT} {h : Heap} (hk : ref46_add_v g_0_0 g_0_1a g_0_1n g_0_1c g_0_2a g_0_2n g_0_2c g_0_3a g_0_3n g_0_3c g_0_4a g_0_4n g_0_4c r_1_0 r_1_1 r_1_2a r_1_2n r_1_2c r_1_3a r_1_3n r_1_3c r_1_4a r_1_4n r_1_4c r_1_5a r_1_5n r_1_5c r_1_6 r_1_7 r_1_8 r_1_9 r_1_10 r_1_11 r_1_12 r_1_13a r_1_13n r_1_13c r_1_14a r_1_14n r_1_14c r_1_15a r_1_15n r_1_15c r_1_16a r_1_16n r_1_16c r_1_17 r_1_18 r_1_19 r_1_20 index_2 Q h) : CallT Try.prog fn_ref46_add #[.agg #[.int .i64 g_0_0, .slice g_0_1a g_0_1n g_0_1c, .slice g_0_2a g_0_2n g_0_2c, .slice g_0_3a g_0_3n g_0_3c, .slice g_0_4a g_0_4n g_0_4c], .agg #[.int .i64 r_1_0, .int .i64 r_1_1, .slice r_1_2a r_1_2n r_1_2c, .slice r_1_3a r_1_3n r_1_3c, .slice r_1_4a r_1_4n r_1_4c, .slice r_1_5a r_1_5n r_1_5c, .bool r_1_6, .int .i64 r_1_7, .int .i64 r_1_8, .int .i64 r_1_9, .string r_1_10, .int .i64 r_1_11, .int .i64 r_1_12, .slice r_1_13a r_1_13n r_1_13c, .slice r_1_14a r_1_14n r_1_14c, .slice r_1_15a r_1_15n r_1_15c, .slice r_1_16a r_1_16n r_1_16c, .int .i64 r_1_17, .int .i64 r_1_18, .int .i64 r_1_19, .int .i64 r_1_20], .int .i64 index_2] h Q :=
 callU follows Try.func38 (Try.call38 _) rfl rfl [(28, fun e h => dI .i64 (e 2) fun index_2 => dA (e 3) fun g_3 => dA (e 6) fun t6 => dA (e 7) fun p_7 => ref46_add_b2 index_2 g_3 t6 p_7 Q h)] [(14, fun e h => dI .i64 (e 2) fun index_2 => dA (e 3) fun g_3 => dA (e 6) fun t6 => dA (e 7) fun p_7 => dI .i64 (e 9) fun i_9 => LoopV (fun (s : Int) h Kn => ref46_add_l1 index_2 g_3 t6 p_7 Q s h Kn) i_9 h)]
 ⟨fun e h _ hk => by
 have F := Ag.nil (e := e)
 have ⟨index_2, F, hk⟩ := eI F hk
 have ⟨g_3, F, hk⟩ := eA F hk
 have ⟨t6, F, hk⟩ := eA F hk
 have ⟨p_7, F, hk⟩ := eA F hk
 exact cutU F (by as_aux_lemma => kernel_rfl) hk, trivial⟩
 ⟨⟨by kernel_rfl, fun e h he hk => by
 have F := Ag.nil (e := e)
 have ⟨index_2, F, hk⟩ := eI F hk
 have ⟨g_3, F, hk⟩ := eA F hk
 have ⟨t6, F, hk⟩ := eA F hk
 have ⟨p_7, F, hk⟩ := eA F hk
 have ⟨i_9, F, hk⟩ := eI F hk
 exact loopU (s0 := i_9) follows (fun _ h => by cases h) he F (fun s => [(9, .int .i64 s)]) (by kernel_rfl) (F.take 1) hk (fun Kn1 e h => dI .i64 (e 9) fun i_9 => Kn1 i_9 h) (fun Kn1 e h hk => by
  have F := Ag.nil (e := e)
  have ⟨i_9, F, hk⟩ := eI F hk
  exact ⟨i_9, F, hk⟩)
  (fun Kn1 => []) (fun Kn1 => [])
  (fun Kn1 => trivial)
  (fun Kn1 => trivial) (fun e s h Kn1 => by as_aux_lemma => kernel_rfl)⟩, trivial⟩ (by as_aux_lemma => kernel_rfl) hk
/-! ### intrusion/intrusionref43.basic -/
def ref43_basic_v (r_0_0 r_0_1 : Int) (r_0_2a : Option Addr) (r_0_2n r_0_2c : Nat) (r_0_3a : Option Addr) (r_0_3n r_0_3c : Nat) (r_0_4a : Option Addr) (r_0_4n r_0_4c : Nat) (r_0_5a : Option Addr) (r_0_5n r_0_5c : Nat) (r_0_6 : Bool) (r_0_7 r_0_8 r_0_9 : Int) (r_0_10 : ByteArray) (r_0_11 r_0_12 : Int) (r_0_13a : Option Addr) (r_0_13n r_0_13c : Nat) (r_0_14a : Option Addr) (r_0_14n r_0_14c : Nat) (r_0_15a : Option Addr) (r_0_15n r_0_15c : Nat) (r_0_16a : Option Addr) (r_0_16n r_0_16c : Nat) (r_0_17 r_0_18 r_0_19 r_0_20 : Int) (Q : QT) (h : Heap) : Prop :=
 alV h (.cells #[.int .i64 r_0_0, .int .i64 r_0_1, .slice r_0_2a r_0_2n r_0_2c, .slice r_0_3a r_0_3n r_0_3c, .slice r_0_4a r_0_4n r_0_4c, .slice r_0_5a r_0_5n r_0_5c, .bool r_0_6, .int .i64 r_0_7, .int .i64 r_0_8, .int .i64 r_0_9, .string r_0_10, .int .i64 r_0_11, .int .i64 r_0_12, .slice r_0_13a r_0_13n r_0_13c, .slice r_0_14a r_0_14n r_0_14c, .slice r_0_15a r_0_15n r_0_15c, .slice r_0_16a r_0_16n r_0_16c, .int .i64 r_0_17, .int .i64 r_0_18, .int .i64 r_0_19, .int .i64 r_0_20] T_api_Rule) fun t1 h1 => ldI h1 t1 .i64 fun t4 => if (decide (t4 ≥ 1)) = true then (ldI h1 t1 .i64 fun t8 => if (decide (t8 ≤ 4)) = true then (ldI h1 (Addr.add t1 1) .i64 fun t13 => if (t13 == 6) = true then (ldI h1 (Addr.add t1 7) .i64 fun t23 => if (decide (t23 ≥ 1)) = true then (ldI h1 (Addr.add t1 7) .i64 fun t28 => if (decide (t28 < 4294967296)) = true then (ldI h1 (Addr.add t1 8) .i64 fun t33 => if (decide (t33 ≥ 1)) = true then (ldI h1 (Addr.add t1 8) .i64 fun t38 => if (decide (t38 ≤ 65535)) = true then (ldI h1 (Addr.add t1 9) .i64 fun t43 => if (decide (t43 ≥ 1)) = true then (ldI h1 (Addr.add t1 9) .i64 fun t48 => if (decide (t48 ≤ 4)) = true then (ldI h1 (Addr.add t1 11) .i64 fun t53 => if (decide (t53 ≥ 0)) = true then (ldI h1 (Addr.add t1 11) .i64 fun t58 => if (decide (t58 ≤ 2)) = true then (ldI h1 (Addr.add t1 12) .i64 fun t63 => if (decide (t63 ≥ 1)) = true then (ldI h1 (Addr.add t1 12) .i64 fun t68 => Q (.bool (decide (t68 ≤ 18))) h1) else (Q (.bool false) h1)) else (Q (.bool false) h1)) else (Q (.bool false) h1)) else (Q (.bool false) h1)) else (Q (.bool false) h1)) else (Q (.bool false) h1)) else (Q (.bool false) h1)) else (Q (.bool false) h1)) else (Q (.bool false) h1)) else (ldI h1 (Addr.add t1 1) .i64 fun t17 => if (t17 == 17) = true then (ldI h1 (Addr.add t1 7) .i64 fun t23 => if (decide (t23 ≥ 1)) = true then (ldI h1 (Addr.add t1 7) .i64 fun t28 => if (decide (t28 < 4294967296)) = true then (ldI h1 (Addr.add t1 8) .i64 fun t33 => if (decide (t33 ≥ 1)) = true then (ldI h1 (Addr.add t1 8) .i64 fun t38 => if (decide (t38 ≤ 65535)) = true then (ldI h1 (Addr.add t1 9) .i64 fun t43 => if (decide (t43 ≥ 1)) = true then (ldI h1 (Addr.add t1 9) .i64 fun t48 => if (decide (t48 ≤ 4)) = true then (ldI h1 (Addr.add t1 11) .i64 fun t53 => if (decide (t53 ≥ 0)) = true then (ldI h1 (Addr.add t1 11) .i64 fun t58 => if (decide (t58 ≤ 2)) = true then (ldI h1 (Addr.add t1 12) .i64 fun t63 => if (decide (t63 ≥ 1)) = true then (ldI h1 (Addr.add t1 12) .i64 fun t68 => Q (.bool (decide (t68 ≤ 18))) h1) else (Q (.bool false) h1)) else (Q (.bool false) h1)) else (Q (.bool false) h1)) else (Q (.bool false) h1)) else (Q (.bool false) h1)) else (Q (.bool false) h1)) else (Q (.bool false) h1)) else (Q (.bool false) h1)) else (Q (.bool false) h1)) else (Q (.bool false) h1))) else (Q (.bool false) h1)) else (Q (.bool false) h1)
set_option maxRecDepth 100000 in
theorem ref43_basic_s (r_0_0 r_0_1 : Int) (r_0_2a : Option Addr) (r_0_2n r_0_2c : Nat) (r_0_3a : Option Addr) (r_0_3n r_0_3c : Nat) (r_0_4a : Option Addr) (r_0_4n r_0_4c : Nat) (r_0_5a : Option Addr) (r_0_5n r_0_5c : Nat) (r_0_6 : Bool) (r_0_7 r_0_8 r_0_9 : Int) (r_0_10 : ByteArray) (r_0_11 r_0_12 : Int) (r_0_13a : Option Addr) (r_0_13n r_0_13c : Nat) (r_0_14a : Option Addr) (r_0_14n r_0_14c : Nat) (r_0_15a : Option Addr) (r_0_15n r_0_15c : Nat) (r_0_16a : Option Addr) (r_0_16n r_0_16c : Nat) (r_0_17 r_0_18 r_0_19 r_0_20 : Int) {Q : QT} {h : Heap} (hk : ref43_basic_v r_0_0 r_0_1 r_0_2a r_0_2n r_0_2c r_0_3a r_0_3n r_0_3c r_0_4a r_0_4n r_0_4c r_0_5a r_0_5n r_0_5c r_0_6 r_0_7 r_0_8 r_0_9 r_0_10 r_0_11 r_0_12 r_0_13a r_0_13n r_0_13c r_0_14a r_0_14n r_0_14c r_0_15a r_0_15n r_0_15c r_0_16a r_0_16n r_0_16c r_0_17 r_0_18 r_0_19 r_0_20 Q h) : CallT Try.prog fn_ref43_basic #[.agg #[.int .i64 r_0_0, .int .i64 r_0_1, .slice r_0_2a r_0_2n r_0_2c, .slice r_0_3a r_0_3n r_0_3c, .slice r_0_4a r_0_4n r_0_4c, .slice r_0_5a r_0_5n r_0_5c, .bool r_0_6, .int .i64 r_0_7, .int .i64 r_0_8, .int .i64 r_0_9, .string r_0_10, .int .i64 r_0_11, .int .i64 r_0_12, .slice r_0_13a r_0_13n r_0_13c, .slice r_0_14a r_0_14n r_0_14c, .slice r_0_15a r_0_15n r_0_15c, .slice r_0_16a r_0_16n r_0_16c, .int .i64 r_0_17, .int .i64 r_0_18, .int .i64 r_0_19, .int .i64 r_0_20]] h Q :=
 callU follows Try.func39 (Try.call39 _) rfl rfl [] []
 trivial
 trivial (by as_aux_lemma => kernel_rfl) hk
/-! ### intrusion/intrusionref43.typed -/
def ref43_typed_v (r_0_0 r_0_1 : Int) (r_0_2a : Option Addr) (r_0_2n r_0_2c : Nat) (r_0_3a : Option Addr) (r_0_3n r_0_3c : Nat) (r_0_4a : Option Addr) (r_0_4n r_0_4c : Nat) (r_0_5a : Option Addr) (r_0_5n r_0_5c : Nat) (r_0_6 : Bool) (r_0_7 r_0_8 r_0_9 : Int) (r_0_10 : ByteArray) (r_0_11 r_0_12 : Int) (r_0_13a : Option Addr) (r_0_13n r_0_13c : Nat) (r_0_14a : Option Addr) (r_0_14n r_0_14c : Nat) (r_0_15a : Option Addr) (r_0_15n r_0_15c : Nat) (r_0_16a : Option Addr) (r_0_16n r_0_16c : Nat) (r_0_17 r_0_18 r_0_19 r_0_20 : Int) (Q : QT) (h : Heap) : Prop :=
 alV h (.cells #[.int .i64 r_0_0, .int .i64 r_0_1, .slice r_0_2a r_0_2n r_0_2c, .slice r_0_3a r_0_3n r_0_3c, .slice r_0_4a r_0_4n r_0_4c, .slice r_0_5a r_0_5n r_0_5c, .bool r_0_6, .int .i64 r_0_7, .int .i64 r_0_8, .int .i64 r_0_9, .string r_0_10, .int .i64 r_0_11, .int .i64 r_0_12, .slice r_0_13a r_0_13n r_0_13c, .slice r_0_14a r_0_14n r_0_14c, .slice r_0_15a r_0_15n r_0_15c, .slice r_0_16a r_0_16n r_0_16c, .int .i64 r_0_17, .int .i64 r_0_18, .int .i64 r_0_19, .int .i64 r_0_20] T_api_Rule) fun t1 h1 => ldI h1 (Addr.add t1 1) .i64 fun t4 => if (t4 == 6) = true then (ldI h1 (Addr.add t1 12) .i64 fun t7 => Q (.bool (t7 != 2)) h1) else (ldI h1 (Addr.add t1 12) .i64 fun t10 => if (t10 == 2) = true then (Q (.bool true) h1) else (ldI h1 (Addr.add t1 12) .i64 fun t14 => if (t14 == 8) = true then (Q (.bool true) h1) else (ldI h1 (Addr.add t1 12) .i64 fun t19 => if (t19 == 9) = true then (Q (.bool true) h1) else (ldI h1 (Addr.add t1 12) .i64 fun t24 => Q (.bool (t24 == 18)) h1))))
set_option maxRecDepth 100000 in
theorem ref43_typed_s (r_0_0 r_0_1 : Int) (r_0_2a : Option Addr) (r_0_2n r_0_2c : Nat) (r_0_3a : Option Addr) (r_0_3n r_0_3c : Nat) (r_0_4a : Option Addr) (r_0_4n r_0_4c : Nat) (r_0_5a : Option Addr) (r_0_5n r_0_5c : Nat) (r_0_6 : Bool) (r_0_7 r_0_8 r_0_9 : Int) (r_0_10 : ByteArray) (r_0_11 r_0_12 : Int) (r_0_13a : Option Addr) (r_0_13n r_0_13c : Nat) (r_0_14a : Option Addr) (r_0_14n r_0_14c : Nat) (r_0_15a : Option Addr) (r_0_15n r_0_15c : Nat) (r_0_16a : Option Addr) (r_0_16n r_0_16c : Nat) (r_0_17 r_0_18 r_0_19 r_0_20 : Int) {Q : QT} {h : Heap} (hk : ref43_typed_v r_0_0 r_0_1 r_0_2a r_0_2n r_0_2c r_0_3a r_0_3n r_0_3c r_0_4a r_0_4n r_0_4c r_0_5a r_0_5n r_0_5c r_0_6 r_0_7 r_0_8 r_0_9 r_0_10 r_0_11 r_0_12 r_0_13a r_0_13n r_0_13c r_0_14a r_0_14n r_0_14c r_0_15a r_0_15n r_0_15c r_0_16a r_0_16n r_0_16c r_0_17 r_0_18 r_0_19 r_0_20 Q h) : CallT Try.prog fn_ref43_typed #[.agg #[.int .i64 r_0_0, .int .i64 r_0_1, .slice r_0_2a r_0_2n r_0_2c, .slice r_0_3a r_0_3n r_0_3c, .slice r_0_4a r_0_4n r_0_4c, .slice r_0_5a r_0_5n r_0_5c, .bool r_0_6, .int .i64 r_0_7, .int .i64 r_0_8, .int .i64 r_0_9, .string r_0_10, .int .i64 r_0_11, .int .i64 r_0_12, .slice r_0_13a r_0_13n r_0_13c, .slice r_0_14a r_0_14n r_0_14c, .slice r_0_15a r_0_15n r_0_15c, .slice r_0_16a r_0_16n r_0_16c, .int .i64 r_0_17, .int .i64 r_0_18, .int .i64 r_0_19, .int .i64 r_0_20]] h Q :=
 callU follows Try.func40 (Try.call40 _) rfl rfl [] []
 trivial
 trivial (by as_aux_lemma => kernel_rfl) hk
/-! ### intrusion/intrusionref43.sizes -/
def ref43_sizes_v (r_0_0 r_0_1 : Int) (r_0_2a : Option Addr) (r_0_2n r_0_2c : Nat) (r_0_3a : Option Addr) (r_0_3n r_0_3c : Nat) (r_0_4a : Option Addr) (r_0_4n r_0_4c : Nat) (r_0_5a : Option Addr) (r_0_5n r_0_5c : Nat) (r_0_6 : Bool) (r_0_7 r_0_8 r_0_9 : Int) (r_0_10 : ByteArray) (r_0_11 r_0_12 : Int) (r_0_13a : Option Addr) (r_0_13n r_0_13c : Nat) (r_0_14a : Option Addr) (r_0_14n r_0_14c : Nat) (r_0_15a : Option Addr) (r_0_15n r_0_15c : Nat) (r_0_16a : Option Addr) (r_0_16n r_0_16c : Nat) (r_0_17 r_0_18 r_0_19 r_0_20 : Int) (Q : QT) (h : Heap) : Prop :=
 alV h (.cells #[.int .i64 r_0_0, .int .i64 r_0_1, .slice r_0_2a r_0_2n r_0_2c, .slice r_0_3a r_0_3n r_0_3c, .slice r_0_4a r_0_4n r_0_4c, .slice r_0_5a r_0_5n r_0_5c, .bool r_0_6, .int .i64 r_0_7, .int .i64 r_0_8, .int .i64 r_0_9, .string r_0_10, .int .i64 r_0_11, .int .i64 r_0_12, .slice r_0_13a r_0_13n r_0_13c, .slice r_0_14a r_0_14n r_0_14c, .slice r_0_15a r_0_15n r_0_15c, .slice r_0_16a r_0_16n r_0_16c, .int .i64 r_0_17, .int .i64 r_0_18, .int .i64 r_0_19, .int .i64 r_0_20] T_api_Rule) fun t1 h1 => ldS h1 (Addr.add t1 10) fun t4 => if (decide (((t4.size : Nat) : Int) ≤ 128)) = true then (ldL h1 (Addr.add t1 13) fun t9a t9n t9c => if (decide (((t9n : Nat) : Int) ≤ 4)) = true then (ldL h1 (Addr.add t1 14) fun t15a t15n t15c => if (decide (((t15n : Nat) : Int) ≤ 8)) = true then (ldL h1 (Addr.add t1 15) fun t21a t21n t21c => if (decide (((t21n : Nat) : Int) ≤ 8)) = true then (ldL h1 (Addr.add t1 16) fun t27a t27n t27c => if (decide (((t27n : Nat) : Int) ≤ 8)) = true then (ldL h1 (Addr.add t1 2) fun t33a t33n t33c => if (decide (((t33n : Nat) : Int) ≤ 64)) = true then (ldL h1 (Addr.add t1 3) fun t39a t39n t39c => if (decide (((t39n : Nat) : Int) ≤ 64)) = true then (ldL h1 (Addr.add t1 4) fun t45a t45n t45c => if (decide (((t45n : Nat) : Int) ≤ 64)) = true then (ldL h1 (Addr.add t1 5) fun t51a t51n t51c => Q (.bool (decide (((t51n : Nat) : Int) ≤ 64))) h1) else (Q (.bool false) h1)) else (Q (.bool false) h1)) else (Q (.bool false) h1)) else (Q (.bool false) h1)) else (Q (.bool false) h1)) else (Q (.bool false) h1)) else (Q (.bool false) h1)) else (Q (.bool false) h1)
set_option maxRecDepth 100000 in
theorem ref43_sizes_s (r_0_0 r_0_1 : Int) (r_0_2a : Option Addr) (r_0_2n r_0_2c : Nat) (r_0_3a : Option Addr) (r_0_3n r_0_3c : Nat) (r_0_4a : Option Addr) (r_0_4n r_0_4c : Nat) (r_0_5a : Option Addr) (r_0_5n r_0_5c : Nat) (r_0_6 : Bool) (r_0_7 r_0_8 r_0_9 : Int) (r_0_10 : ByteArray) (r_0_11 r_0_12 : Int) (r_0_13a : Option Addr) (r_0_13n r_0_13c : Nat) (r_0_14a : Option Addr) (r_0_14n r_0_14c : Nat) (r_0_15a : Option Addr) (r_0_15n r_0_15c : Nat) (r_0_16a : Option Addr) (r_0_16n r_0_16c : Nat) (r_0_17 r_0_18 r_0_19 r_0_20 : Int) {Q : QT} {h : Heap} (hk : ref43_sizes_v r_0_0 r_0_1 r_0_2a r_0_2n r_0_2c r_0_3a r_0_3n r_0_3c r_0_4a r_0_4n r_0_4c r_0_5a r_0_5n r_0_5c r_0_6 r_0_7 r_0_8 r_0_9 r_0_10 r_0_11 r_0_12 r_0_13a r_0_13n r_0_13c r_0_14a r_0_14n r_0_14c r_0_15a r_0_15n r_0_15c r_0_16a r_0_16n r_0_16c r_0_17 r_0_18 r_0_19 r_0_20 Q h) : CallT Try.prog fn_ref43_sizes #[.agg #[.int .i64 r_0_0, .int .i64 r_0_1, .slice r_0_2a r_0_2n r_0_2c, .slice r_0_3a r_0_3n r_0_3c, .slice r_0_4a r_0_4n r_0_4c, .slice r_0_5a r_0_5n r_0_5c, .bool r_0_6, .int .i64 r_0_7, .int .i64 r_0_8, .int .i64 r_0_9, .string r_0_10, .int .i64 r_0_11, .int .i64 r_0_12, .slice r_0_13a r_0_13n r_0_13c, .slice r_0_14a r_0_14n r_0_14c, .slice r_0_15a r_0_15n r_0_15c, .slice r_0_16a r_0_16n r_0_16c, .int .i64 r_0_17, .int .i64 r_0_18, .int .i64 r_0_19, .int .i64 r_0_20]] h Q :=
 callU follows Try.func41 (Try.call41 _) rfl rfl [] []
 trivial
 trivial (by as_aux_lemma => kernel_rfl) hk
/-! ### intrusion/intrusionref43.addrNames -/
def ref43_addrNames_l1 (l_0a : Option Addr) (l_0n l_0c : Nat) (Q : QT) (i_3 : Int) (h : Heap) (Kn1 : Int → Heap → Prop) : Prop :=
 if (decide (i_3 < ((l_0n : Nat) : Int))) = true then (idxA i_3 l_0n (nn l_0a fun t12 => ldS h (Addr.add (Addr.add t12 ((i_3).toNat * 6)) 1) fun t14 => if (!(t14.toList == (⟨#[]⟩ : ByteArray).toList)) = true then (idxA i_3 l_0n (nn l_0a fun t19 => ldS h (Addr.add (Addr.add t19 ((i_3).toNat * 6)) 1) fun t21 => CallT Try.prog fn_ref04_IsName #[.string t21] h fun v h1 => ∃ t22 : Bool, v = .bool t22 ∧ if (!t22) = true then (Q (.bool false) h1) else (Kn1 (wrap .i64 (i_3 + 1)) h1))) else (Kn1 (wrap .i64 (i_3 + 1)) h))) else (Q (.bool true) h)
def ref43_addrNames_v (l_0a : Option Addr) (l_0n l_0c : Nat) (Q : QT) (h : Heap) : Prop :=
 LoopV (fun (s : Int) h Kn => ref43_addrNames_l1 l_0a l_0n l_0c Q s h Kn) 0 h
set_option maxRecDepth 100000 in
theorem ref43_addrNames_s (l_0a : Option Addr) (l_0n l_0c : Nat) {Q : QT} {h : Heap} (hk : ref43_addrNames_v l_0a l_0n l_0c Q h) : CallT Try.prog fn_ref43_addrNames #[.slice l_0a l_0n l_0c] h Q :=
 callU follows Try.func42 (Try.call42 _) rfl rfl [] [(6, fun e h => dL (e 0) fun l_0a l_0n l_0c => dI .i64 (e 3) fun i_3 => LoopV (fun (s : Int) h Kn => ref43_addrNames_l1 l_0a l_0n l_0c Q s h Kn) i_3 h)]
 trivial
 ⟨⟨by kernel_rfl, fun e h he hk => by
 have F := Ag.nil (e := e)
 have ⟨l_0a, l_0n, l_0c, F, hk⟩ := eL F hk
 have ⟨i_3, F, hk⟩ := eI F hk
 exact loopU (s0 := i_3) follows (fun _ h => by cases h) he F (fun s => [(3, .int .i64 s)]) (by kernel_rfl) (F.take 1) hk (fun Kn1 e h => dI .i64 (e 3) fun i_3 => Kn1 i_3 h) (fun Kn1 e h hk => by
  have F := Ag.nil (e := e)
  have ⟨i_3, F, hk⟩ := eI F hk
  exact ⟨i_3, F, hk⟩)
  (fun Kn1 => []) (fun Kn1 => [])
  (fun Kn1 => trivial)
  (fun Kn1 => trivial) (fun e s h Kn1 => by as_aux_lemma => kernel_rfl)⟩, trivial⟩ (by as_aux_lemma => kernel_rfl) hk
/-! ### intrusion/intrusionref43.portNames -/
def ref43_portNames_l1 (l_0a : Option Addr) (l_0n l_0c : Nat) (Q : QT) (i_3 : Int) (h : Heap) (Kn1 : Int → Heap → Prop) : Prop :=
 if (decide (i_3 < ((l_0n : Nat) : Int))) = true then (idxA i_3 l_0n (nn l_0a fun t12 => ldS h (Addr.add (Addr.add t12 ((i_3).toNat * 4)) 1) fun t14 => if (!(t14.toList == (⟨#[]⟩ : ByteArray).toList)) = true then (idxA i_3 l_0n (nn l_0a fun t19 => ldS h (Addr.add (Addr.add t19 ((i_3).toNat * 4)) 1) fun t21 => CallT Try.prog fn_ref04_IsName #[.string t21] h fun v h1 => ∃ t22 : Bool, v = .bool t22 ∧ if (!t22) = true then (Q (.bool false) h1) else (Kn1 (wrap .i64 (i_3 + 1)) h1))) else (Kn1 (wrap .i64 (i_3 + 1)) h))) else (Q (.bool true) h)
def ref43_portNames_v (l_0a : Option Addr) (l_0n l_0c : Nat) (Q : QT) (h : Heap) : Prop :=
 LoopV (fun (s : Int) h Kn => ref43_portNames_l1 l_0a l_0n l_0c Q s h Kn) 0 h
set_option maxRecDepth 100000 in
theorem ref43_portNames_s (l_0a : Option Addr) (l_0n l_0c : Nat) {Q : QT} {h : Heap} (hk : ref43_portNames_v l_0a l_0n l_0c Q h) : CallT Try.prog fn_ref43_portNames #[.slice l_0a l_0n l_0c] h Q :=
 callU follows Try.func43 (Try.call43 _) rfl rfl [] [(6, fun e h => dL (e 0) fun l_0a l_0n l_0c => dI .i64 (e 3) fun i_3 => LoopV (fun (s : Int) h Kn => ref43_portNames_l1 l_0a l_0n l_0c Q s h Kn) i_3 h)]
 trivial
 ⟨⟨by kernel_rfl, fun e h he hk => by
 have F := Ag.nil (e := e)
 have ⟨l_0a, l_0n, l_0c, F, hk⟩ := eL F hk
 have ⟨i_3, F, hk⟩ := eI F hk
 exact loopU (s0 := i_3) follows (fun _ h => by cases h) he F (fun s => [(3, .int .i64 s)]) (by kernel_rfl) (F.take 1) hk (fun Kn1 e h => dI .i64 (e 3) fun i_3 => Kn1 i_3 h) (fun Kn1 e h hk => by
  have F := Ag.nil (e := e)
  have ⟨i_3, F, hk⟩ := eI F hk
  exact ⟨i_3, F, hk⟩)
  (fun Kn1 => []) (fun Kn1 => [])
  (fun Kn1 => trivial)
  (fun Kn1 => trivial) (fun e s h Kn1 => by as_aux_lemma => kernel_rfl)⟩, trivial⟩ (by as_aux_lemma => kernel_rfl) hk
/-! ### intrusion/intrusionref43.flowNames -/
def ref43_flowNames_l1 (l_0a : Option Addr) (l_0n l_0c : Nat) (Q : QT) (i_3 : Int) (h : Heap) (Kn1 : Int → Heap → Prop) : Prop :=
 if (decide (i_3 < ((l_0n : Nat) : Int))) = true then (idxA i_3 l_0n (nn l_0a fun t12 => ldS h (Addr.add (Addr.add t12 ((i_3).toNat * 2)) 1) fun t14 => CallT Try.prog fn_ref04_IsName #[.string t14] h fun v h1 => ∃ t15 : Bool, v = .bool t15 ∧ if (!t15) = true then (Q (.bool false) h1) else (Kn1 (wrap .i64 (i_3 + 1)) h1))) else (Q (.bool true) h)
def ref43_flowNames_v (l_0a : Option Addr) (l_0n l_0c : Nat) (Q : QT) (h : Heap) : Prop :=
 LoopV (fun (s : Int) h Kn => ref43_flowNames_l1 l_0a l_0n l_0c Q s h Kn) 0 h
set_option maxRecDepth 100000 in
theorem ref43_flowNames_s (l_0a : Option Addr) (l_0n l_0c : Nat) {Q : QT} {h : Heap} (hk : ref43_flowNames_v l_0a l_0n l_0c Q h) : CallT Try.prog fn_ref43_flowNames #[.slice l_0a l_0n l_0c] h Q :=
 callU follows Try.func44 (Try.call44 _) rfl rfl [] [(6, fun e h => dL (e 0) fun l_0a l_0n l_0c => dI .i64 (e 3) fun i_3 => LoopV (fun (s : Int) h Kn => ref43_flowNames_l1 l_0a l_0n l_0c Q s h Kn) i_3 h)]
 trivial
 ⟨⟨by kernel_rfl, fun e h he hk => by
 have F := Ag.nil (e := e)
 have ⟨l_0a, l_0n, l_0c, F, hk⟩ := eL F hk
 have ⟨i_3, F, hk⟩ := eI F hk
 exact loopU (s0 := i_3) follows (fun _ h => by cases h) he F (fun s => [(3, .int .i64 s)]) (by kernel_rfl) (F.take 1) hk (fun Kn1 e h => dI .i64 (e 3) fun i_3 => Kn1 i_3 h) (fun Kn1 e h hk => by
  have F := Ag.nil (e := e)
  have ⟨i_3, F, hk⟩ := eI F hk
  exact ⟨i_3, F, hk⟩)
  (fun Kn1 => []) (fun Kn1 => [])
  (fun Kn1 => trivial)
  (fun Kn1 => trivial) (fun e s h Kn1 => by as_aux_lemma => kernel_rfl)⟩, trivial⟩ (by as_aux_lemma => kernel_rfl) hk
/-! ### intrusion/intrusionref43.contents -/
def ref43_contents_b2 (l_0a : Option Addr) (l_0n l_0c : Nat) (i_3 : Int) (c_4 : Addr) (t24 : Bool) (Q : QT) (Kn1 : Int → Heap → Prop) (h : Heap) : Prop :=
 if t24 = true then (Q (.int .i64 3) h) else (ldI h (Addr.add c_4 4) .i64 fun t26 => ldB h (Addr.add c_4 3) fun t28 => CallT Try.prog fn_ref43_offset #[.int .i64 t26, .bool t28] h fun v h3 => ∃ t29 : Bool, v = .bool t29 ∧ if (!t29) = true then (Q (.int .i64 4) h3) else (ldI h3 (Addr.add c_4 5) .i64 fun t33 => if (decide (t33 < 0)) = true then (Q (.int .i64 4) h3) else (ldI h3 (Addr.add c_4 5) .i64 fun t38 => if (decide (t38 > 1024)) = true then (Q (.int .i64 4) h3) else (Kn1 (wrap .i64 (i_3 + 1)) h3))))
def ref43_contents_l1 (l_0a : Option Addr) (l_0n l_0c : Nat) (Q : QT) (i_3 : Int) (h : Heap) (Kn1 : Int → Heap → Prop) : Prop :=
 if (decide (i_3 < ((l_0n : Nat) : Int))) = true then (idxA i_3 l_0n (nn l_0a fun t13 => ldS h (Addr.add t13 ((i_3).toNat * 7)) fun t14_0 => ldB h (Addr.add (Addr.add t13 ((i_3).toNat * 7)) 1) fun t14_1 => ldB h (Addr.add (Addr.add t13 ((i_3).toNat * 7)) 2) fun t14_2 => ldB h (Addr.add (Addr.add t13 ((i_3).toNat * 7)) 3) fun t14_3 => ldI h (Addr.add (Addr.add t13 ((i_3).toNat * 7)) 4) .i64 fun t14_4 => ldI h (Addr.add (Addr.add t13 ((i_3).toNat * 7)) 5) .i64 fun t14_5 => ldB h (Addr.add (Addr.add t13 ((i_3).toNat * 7)) 6) fun t14_6 => alV h (.cells #[.string (⟨#[]⟩ : ByteArray), .bool false, .bool false, .bool false, .int .i64 0, .int .i64 0, .bool false] T_api_Content) fun t4 h1 => stN h1 t4 [.string t14_0, .bool t14_1, .bool t14_2, .bool t14_3, .int .i64 t14_4, .int .i64 t14_5, .bool t14_6] 0 fun h2 => ldS h2 t4 fun t16 => if (decide (((t16.size : Nat) : Int) < 1)) = true then (ref43_contents_b2 l_0a l_0n l_0c i_3 t4 true Q Kn1 h2) else (ldS h2 t4 fun t21 => ref43_contents_b2 l_0a l_0n l_0c i_3 t4 (decide (((t21.size : Nat) : Int) > 64)) Q Kn1 h2))) else (Q (.int .i64 0) h)
def ref43_contents_v (l_0a : Option Addr) (l_0n l_0c : Nat) (Q : QT) (h : Heap) : Prop :=
 LoopV (fun (s : Int) h Kn => ref43_contents_l1 l_0a l_0n l_0c Q s h Kn) 0 h
set_option maxRecDepth 100000 in
theorem ref43_contents_s (l_0a : Option Addr) (l_0n l_0c : Nat) {Q : QT} {h : Heap} (hk : ref43_contents_v l_0a l_0n l_0c Q h) : CallT Try.prog fn_ref43_contents #[.slice l_0a l_0n l_0c] h Q :=
 callU follows Try.func45 (Try.call45 _) rfl rfl [] [(6, fun e h => dL (e 0) fun l_0a l_0n l_0c => dI .i64 (e 3) fun i_3 => LoopV (fun (s : Int) h Kn => ref43_contents_l1 l_0a l_0n l_0c Q s h Kn) i_3 h)]
 trivial
 ⟨⟨by kernel_rfl, fun e h he hk => by
 have F := Ag.nil (e := e)
 have ⟨l_0a, l_0n, l_0c, F, hk⟩ := eL F hk
 have ⟨i_3, F, hk⟩ := eI F hk
 exact loopU (s0 := i_3) follows (fun _ h => by cases h) he F (fun s => [(3, .int .i64 s)]) (by kernel_rfl) (F.take 1) hk (fun Kn1 e h => dI .i64 (e 3) fun i_3 => Kn1 i_3 h) (fun Kn1 e h hk => by
  have F := Ag.nil (e := e)
  have ⟨i_3, F, hk⟩ := eI F hk
  exact ⟨i_3, F, hk⟩)
  (fun Kn1 => [(14, fun e h => dL (e 0) fun l_0a l_0n l_0c => dI .i64 (e 3) fun i_3 => dA (e 4) fun c_4 => dB (e 24) fun t24 => ref43_contents_b2 l_0a l_0n l_0c i_3 c_4 t24 Q Kn1 h)]) (fun Kn1 => [])
  (fun Kn1 => ⟨fun e h _ hk => by
 have F := Ag.nil (e := e)
 have ⟨l_0a, l_0n, l_0c, F, hk⟩ := eL F hk
 have ⟨i_3, F, hk⟩ := eI F hk
 have ⟨c_4, F, hk⟩ := eA F hk
 have ⟨t24, F, hk⟩ := eB F hk
 exact cutU F (by as_aux_lemma => kernel_rfl) hk, trivial⟩)
  (fun Kn1 => trivial) (fun e s h Kn1 => by as_aux_lemma => kernel_rfl)⟩, trivial⟩ (by as_aux_lemma => kernel_rfl) hk
end Go.Proofs.Ytjelnknmjhceiaa
