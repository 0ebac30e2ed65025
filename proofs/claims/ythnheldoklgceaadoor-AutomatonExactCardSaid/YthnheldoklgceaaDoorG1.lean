/-
  Printed by wip/tool/gen2.py: verification conditions, and the proof that each suffices.
-/
import Derived.Test.YthnheldoklgceaaDoorProg
import Derived.Test.YthnheldoklgceaaDoorVcTree
namespace Go.Proofs.YthnheldoklgceaaDoor
set_option linter.unusedSimpArgs false
set_option linter.unusedVariables false
set_option maxRecDepth 20000
open Go IntKind
abbrev fn_main_main : FuncId := 0
abbrev fn_gosem_cut : FuncId := 1
abbrev fn_gosem_cut_init : FuncId := 2
abbrev fn_law45_AutomatonPlants : FuncId := 3
abbrev fn_law45_AutomatonExact : FuncId := 4
abbrev fn_law45_large : FuncId := 5
abbrev fn_law45_awake : FuncId := 6
abbrev fn_automaton_Build : FuncId := 7
abbrev fn_transform_Apply : FuncId := 8
abbrev fn_automaton_Automaton_All : FuncId := 9
abbrev fn_law45_same : FuncId := 10
abbrev fn_automaton_Plain : FuncId := 11
abbrev fn_automaton_Automaton_States : FuncId := 12
abbrev fn_slices_Clone_api_Pattern_api_Pattern : FuncId := 13
abbrev fn_automaton_Automaton_add : FuncId := 14
abbrev fn_automaton_Automaton_link : FuncId := 15
abbrev fn_transform_of : FuncId := 16
abbrev fn_automaton_Automaton_Begin : FuncId := 17
abbrev fn_automaton_Cursor_Scan : FuncId := 18
abbrev fn_automaton_lower : FuncId := 19
abbrev fn_strings_HasSuffix : FuncId := 20
abbrev fn_automaton_small : FuncId := 21
abbrev fn_transform_text_lower : FuncId := 22
abbrev fn_transform_text_strip : FuncId := 23
abbrev fn_transform_text_percent : FuncId := 24
abbrev fn_transform_text_base64 : FuncId := 25
abbrev fn_transform_text_path : FuncId := 26
abbrev fn_transform_text_hex : FuncId := 27
abbrev fn_transform_text_same : FuncId := 28
abbrev fn_automaton_Cursor_step : FuncId := 29
abbrev fn_internal_stringslite_HasSuffix : FuncId := 30
abbrev fn_transform_digit : FuncId := 31
abbrev fn_strings_IndexByte : FuncId := 32
abbrev fn_strings_Split : FuncId := 33
abbrev fn_strings_HasPrefix : FuncId := 34
abbrev fn_strings_Join : FuncId := 35
abbrev fn_automaton_keep : FuncId := 36
abbrev fn_automaton_Cursor_spelt : FuncId := 37
abbrev fn_slices_Sort_int_int : FuncId := 38
abbrev fn_internal_stringslite_IndexByte : FuncId := 39
abbrev fn_strings_genSplit : FuncId := 40
abbrev fn_internal_stringslite_HasPrefix : FuncId := 41
abbrev fn_strings_Builder_Grow : FuncId := 42
abbrev fn_strings_Builder_WriteString : FuncId := 43
abbrev fn_strings_Builder_String : FuncId := 44
abbrev fn_slices_pdqsortOrdered_int : FuncId := 45
abbrev fn_math_bits_Len : FuncId := 46
abbrev fn_internal_bytealg_IndexByteString : FuncId := 47
abbrev fn_strings_explode : FuncId := 48
abbrev fn_strings_Count : FuncId := 49
abbrev fn_strings_Index : FuncId := 50
abbrev fn_strings_Builder_copyCheck : FuncId := 51
abbrev fn_strings_Builder_grow : FuncId := 52
abbrev fn_slices_insertionSortOrdered_int : FuncId := 53
abbrev fn_slices_heapSortOrdered_int : FuncId := 54
abbrev fn_slices_breakPatternsOrdered_int : FuncId := 55
abbrev fn_slices_choosePivotOrdered_int : FuncId := 56
abbrev fn_slices_reverseRangeOrdered_int : FuncId := 57
abbrev fn_slices_partialInsertionSortOrdered_int : FuncId := 58
abbrev fn_cmp_Less_int : FuncId := 59
abbrev fn_slices_partitionEqualOrdered_int : FuncId := 60
abbrev fn_slices_partitionOrdered_int : FuncId := 61
abbrev fn_math_bits_Len32 : FuncId := 62
abbrev fn_math_bits_Len64 : FuncId := 63
abbrev fn_unicode_utf8_RuneCountInString : FuncId := 64
abbrev fn_unicode_utf8_DecodeRuneInString : FuncId := 65
abbrev fn_internal_bytealg_CountString : FuncId := 66
abbrev fn_internal_stringslite_Index : FuncId := 67
abbrev fn_internal_abi_NoEscape : FuncId := 68
abbrev fn_internal_bytealg_MakeNoZero : FuncId := 69
abbrev fn_slices_siftDownOrdered_int : FuncId := 70
abbrev fn_slices_nextPowerOfTwo : FuncId := 71
abbrev fn_slices_xorshift_Next : FuncId := 72
abbrev fn_slices_medianAdjacentOrdered_int : FuncId := 73
abbrev fn_slices_medianOrdered_int : FuncId := 74
abbrev fn_cmp_isNaN_int : FuncId := 75
abbrev fn_unicode_utf8_decodeRuneInStringSlow : FuncId := 76
abbrev fn_internal_bytealg_IndexString : FuncId := 77
abbrev fn_internal_bytealg_Cutover : FuncId := 78
abbrev fn_internal_bytealg_IndexRabinKarp_string : FuncId := 79
abbrev fn_slices_order2Ordered_int : FuncId := 80
abbrev fn_internal_bytealg_hashStr_string : FuncId := 81
abbrev fn_runtime_boundsError_Error : FuncId := 82
abbrev fn_runtime_boundsError_RuntimeError : FuncId := 83
abbrev fn_runtime_errorString_Error : FuncId := 84
abbrev fn_runtime_errorString_RuntimeError : FuncId := 85
abbrev fn_runtime_plainError_Error : FuncId := 86
abbrev fn_runtime_plainError_RuntimeError : FuncId := 87
abbrev fn_runtime_errorAddressString_Error : FuncId := 88
abbrev fn_runtime_errorAddressString_RuntimeError : FuncId := 89
abbrev fn_runtime_TypeAssertionError_Error : FuncId := 90
abbrev fn_runtime_TypeAssertionError_RuntimeError : FuncId := 91
abbrev fn_runtime_PanicNilError_Error : FuncId := 92
abbrev fn_runtime_PanicNilError_RuntimeError : FuncId := 93
abbrev fn_internal_abi_Type_Align : FuncId := 94
abbrev fn_internal_runtime_maps_unhashableTypeError_Error : FuncId := 95
abbrev fn_internal_runtime_maps_unhashableTypeError_RuntimeError : FuncId := 96
abbrev fn_api_Errno_Error : FuncId := 97
abbrev fn_automaton_Cursor_At : FuncId := 98
abbrev fn_strings_Builder_Reset : FuncId := 99
abbrev fn_internal_abi_Kind_String : FuncId := 100
abbrev fn_var_s_door_gosem_cut_vars_holds_initialisers_alone_see_the_manifest_s_row_cutvarsword_look_11_test_files_too : FuncId := 101
abbrev fn_var_s_door_the_look_of_gosem_cut_vars_went_over_the_folder_that_the_caller_named_as_the_repository_s_root_look_11 : FuncId := 102
abbrev fn_var_s_door_unicode_utf8_acceptRanges_is_laid_by_its_own_initialiser_plain_data_look_11 : FuncId := 103
abbrev fn_var_s_door_unicode_utf8_first_is_laid_by_its_text_alone_pinned_1 : FuncId := 104
abbrev fn_gosem_cut_vars : FuncId := 105
abbrev T_t : TypeId := 0
abbrev T_func : TypeId := 1
abbrev T_int64 : TypeId := 2
abbrev T_int : TypeId := 3
abbrev T_bool : TypeId := 4
abbrev T_uint8 : TypeId := 5
abbrev T_abi_BoundsErrorCode : TypeId := 6
abbrev T_struct_x_int64_y_int_signed_bool_code_abi_BoundsErrorCode : TypeId := 7
abbrev T_runtime_boundsError : TypeId := 8
abbrev T_string : TypeId := 9
abbrev T_runtime_errorString : TypeId := 10
abbrev T_runtime_plainError : TypeId := 11
abbrev T_uintptr : TypeId := 12
abbrev T_struct_msg_string_addr_uintptr : TypeId := 13
abbrev T_runtime_errorAddressString : TypeId := 14
abbrev T_p_runtime_TypeAssertionError : TypeId := 15
abbrev T_p_runtime_PanicNilError : TypeId := 16
abbrev T_p_abi_Type : TypeId := 17
abbrev T_struct_typ_p_abi_Type : TypeId := 18
abbrev T_maps_unhashableTypeError : TypeId := 19
abbrev T_interface : TypeId := 20
abbrev T_int32 : TypeId := 21
abbrev T_sl_api_Pattern : TypeId := 22
abbrev T_func_sl_api_Pattern_bool : TypeId := 23
abbrev T_func_bool : TypeId := 24
abbrev T_p_automaton_Automaton : TypeId := 25
abbrev T_api_Errno : TypeId := 26
abbrev T_p_automaton_Automaton_api_Errno : TypeId := 27
abbrev T_func_sl_api_Pattern_p_automaton_Automaton_api_Errno : TypeId := 28
abbrev T_struct_Text_string_Nocase_bool : TypeId := 29
abbrev T_api_Pattern : TypeId := 30
abbrev T_func_int_string_string : TypeId := 31
abbrev T_sl_api_Hit : TypeId := 32
abbrev T_func_string_sl_api_Hit : TypeId := 33
abbrev T_struct_Pattern_int_End_int : TypeId := 34
abbrev T_api_Hit : TypeId := 35
abbrev T_func_sl_api_Pattern_uint8_string_string_bool : TypeId := 36
abbrev T_func_sl_api_Hit_sl_api_Hit_bool : TypeId := 37
abbrev T_func_sl_api_Pattern_string_sl_api_Hit : TypeId := 38
abbrev T_func_sl_api_Pattern_string_bool : TypeId := 39
abbrev T_func_int : TypeId := 40
abbrev T_sl_automaton_state : TypeId := 41
abbrev T_func_sl_api_Pattern_sl_api_Pattern : TypeId := 42
abbrev T_struct_states_sl_automaton_state_patterns_sl_api_Pattern : TypeId := 43
abbrev T_automaton_Automaton : TypeId := 44
abbrev T_func_int_string : TypeId := 45
abbrev T_func_transform_text_string : TypeId := 46
abbrev T_func_int_func_transform_text_string : TypeId := 47
abbrev T_transform_text : TypeId := 48
abbrev T_p_automaton_Cursor : TypeId := 49
abbrev T_func_p_automaton_Cursor : TypeId := 50
abbrev T_func_string_string : TypeId := 51
abbrev T_func_string_string_bool : TypeId := 52
abbrev T_func_uint8_uint8 : TypeId := 53
abbrev T_uint16 : TypeId := 54
abbrev T_256_uint16 : TypeId := 55
abbrev T_sl_int : TypeId := 56
abbrev T_struct_next_256_uint16_fail_uint16_out_uint16_ends_sl_int : TypeId := 57
abbrev T_automaton_state : TypeId := 58
abbrev T_sl_uint16 : TypeId := 59
abbrev T_p_automaton_state : TypeId := 60
abbrev T_func_string : TypeId := 61
abbrev T_sl_uint8 : TypeId := 62
abbrev T_struct_a_p_automaton_Automaton_now_uint16_at_int_tail_sl_u : TypeId := 63
abbrev T_automaton_Cursor : TypeId := 64
abbrev T_func_uint8_sl_int : TypeId := 65
abbrev T_func_uint8_int : TypeId := 66
abbrev T_func_string_uint8_int : TypeId := 67
abbrev T_uint : TypeId := 68
abbrev T_sl_string : TypeId := 69
abbrev T_func_string_string_sl_string : TypeId := 70
abbrev T_func_sl_string_string_string : TypeId := 71
abbrev T_func_sl_int_func_int_bool_sl_int : TypeId := 72
abbrev T_func_int_bool : TypeId := 73
abbrev T_func_sl_int : TypeId := 74
abbrev T_func_string_string_int_int_sl_string : TypeId := 75
abbrev T_p_strings_Builder : TypeId := 76
abbrev T_struct_addr_p_strings_Builder_buf_sl_uint8 : TypeId := 77
abbrev T_strings_Builder : TypeId := 78
abbrev T_func_int_2 : TypeId := 79
abbrev T_interface_Error_string : TypeId := 80
abbrev T_error : TypeId := 81
abbrev T_int_error : TypeId := 82
abbrev T_func_string_int_error : TypeId := 83
abbrev T_func_sl_int_int_int_int : TypeId := 84
abbrev T_func_uint_int : TypeId := 85
abbrev T_func_string_int_sl_string : TypeId := 86
abbrev T_func_string_string_int : TypeId := 87
abbrev T_p_uint8 : TypeId := 88
abbrev T_func_sl_int_int_int : TypeId := 89
abbrev T_slices_sortedHint : TypeId := 90
abbrev T_int_slices_sortedHint : TypeId := 91
abbrev T_func_sl_int_int_int_int_slices_sortedHint : TypeId := 92
abbrev T_func_sl_int_int_int_bool : TypeId := 93
abbrev T_func_int_int_bool : TypeId := 94
abbrev T_func_sl_int_int_int_int_int : TypeId := 95
abbrev T_int_bool : TypeId := 96
abbrev T_func_sl_int_int_int_int_int_bool : TypeId := 97
abbrev T_func_uint32_int : TypeId := 98
abbrev T_uint32 : TypeId := 99
abbrev T_func_uint64_int : TypeId := 100
abbrev T_uint64 : TypeId := 101
abbrev T_func_string_int : TypeId := 102
abbrev T_int32_int : TypeId := 103
abbrev T_func_string_int32_int : TypeId := 104
abbrev T_unsafe_Pointer : TypeId := 105
abbrev T_func_unsafe_Pointer_unsafe_Pointer : TypeId := 106
abbrev T_func_int_sl_uint8 : TypeId := 107
abbrev T_slices_xorshift : TypeId := 108
abbrev T_func_int_uint : TypeId := 109
abbrev T_func_uint64 : TypeId := 110
abbrev T_func_sl_int_int_p_int_int : TypeId := 111
abbrev T_p_int : TypeId := 112
abbrev T_func_sl_int_int_int_int_p_int_int : TypeId := 113
abbrev T_func_int_int : TypeId := 114
abbrev T_p_slices_xorshift : TypeId := 115
abbrev T_int_int : TypeId := 116
abbrev T_func_sl_int_int_int_p_int_int_int : TypeId := 117
abbrev T_256_uint8 : TypeId := 118
abbrev T_struct_lo_uint8_hi_uint8 : TypeId := 119
abbrev T_utf8_acceptRange : TypeId := 120
abbrev T_16_utf8_acceptRange : TypeId := 121
abbrev T_uint32_uint32 : TypeId := 122
abbrev T_func_string_uint32_uint32 : TypeId := 123
abbrev T_struct__interface_p_abi_Type_concrete_p_abi_Type_asserted_ : TypeId := 124
abbrev T_runtime_TypeAssertionError : TypeId := 125
abbrev T_0_p_runtime_PanicNilError : TypeId := 126
abbrev T_struct___0_p_runtime_PanicNilError : TypeId := 127
abbrev T_runtime_PanicNilError : TypeId := 128
abbrev T_abi_TFlag : TypeId := 129
abbrev T_abi_Kind : TypeId := 130
abbrev T_func_unsafe_Pointer_unsafe_Pointer_bool : TypeId := 131
abbrev T_abi_NameOff : TypeId := 132
abbrev T_abi_TypeOff : TypeId := 133
abbrev T_struct_Size__uintptr_PtrBytes_uintptr_Hash_uint32_TFlag_ab : TypeId := 134
abbrev T_abi_Type : TypeId := 135
theorem follows : Tryd.prog.follows .mixedOrders = true := by kernel_rfl
variable [Gh]
/-! ### intrusion/intrusionlaw45.AutomatonPlants -/
def law45_AutomatonPlants_b3 (before_2 : ByteArray) (i_11 : Int) (p_12 : ByteArray) (hits_13a : Option Addr) (hits_13n hits_13c : Nat) (n_14 k_15 t72 t73 : Int) (Q : QT) (Kn2 : Int × Int → Heap → Prop) (h : Heap) : Prop :=
 if (decide (k_15 > 0)) = true then (idxA k_15 hits_13n (nn hits_13a fun t95 => ldI h (Addr.add (Addr.add t95 ((k_15).toNat * 2)) 1) .i64 fun t97 => idxA (wrap .i64 (k_15 - 1)) hits_13n (nn hits_13a fun t101 => ldI h (Addr.add (Addr.add t101 (((wrap .i64 (k_15 - 1))).toNat * 2)) 1) .i64 fun t103 => if (decide (t97 < t103)) = true then (Q (.bool false) h) else (idxA k_15 hits_13n (nn hits_13a fun t108 => ldI h (Addr.add (Addr.add t108 ((k_15).toNat * 2)) 1) .i64 fun t110 => idxA (wrap .i64 (k_15 - 1)) hits_13n (nn hits_13a fun t114 => ldI h (Addr.add (Addr.add t114 (((wrap .i64 (k_15 - 1))).toNat * 2)) 1) .i64 fun t116 => if (t110 == t116) = true then (idxA k_15 hits_13n (nn hits_13a fun t121 => ldI h (Addr.add t121 ((k_15).toNat * 2)) .i64 fun t123 => idxA (wrap .i64 (k_15 - 1)) hits_13n (nn hits_13a fun t127 => ldI h (Addr.add t127 (((wrap .i64 (k_15 - 1))).toNat * 2)) .i64 fun t129 => if (decide (t123 ≤ t129)) = true then (Q (.bool false) h) else (Kn2 (n_14, wrap .i64 (t73 + 1)) h)))) else (Kn2 (n_14, wrap .i64 (t73 + 1)) h))))))) else (Kn2 (n_14, wrap .i64 (t73 + 1)) h)
def law45_AutomatonPlants_b4 (n_14 : Int) (Q : QT) (h : Heap) : Prop :=
 if (n_14 == 1) = true then (CallT Tryd.prog fn_law45_awake #[] h fun v h11 => ∃ t138 : Bool, v = .bool t138 ∧ Q (.bool t138) h11) else (Q (.bool false) h)
def law45_AutomatonPlants_l2 (before_2 : ByteArray) (i_11 : Int) (p_12 : ByteArray) (hits_13a : Option Addr) (hits_13n hits_13c : Nat) (t72 : Int) (Q : QT) (n_14 t73 : Int) (h : Heap) (Kn2 : Int × Int → Heap → Prop) : Prop :=
 if (decide (t73 < t72)) = true then (idxA t73 hits_13n (nn hits_13a fun t78 => ldI h (Addr.add t78 ((t73).toNat * 2)) .i64 fun t79_0 => ldI h (Addr.add (Addr.add t78 ((t73).toNat * 2)) 1) .i64 fun t79_1 => if ((t79_0 == i_11) && ((t79_1 == (wrap .i64 (((before_2.size : Nat) : Int) + ((p_12.size : Nat) : Int)))) && true)) = true then (law45_AutomatonPlants_b3 before_2 i_11 p_12 hits_13a hits_13n hits_13c (wrap .i64 (n_14 + 1)) t73 t72 t73 Q Kn2 h) else (law45_AutomatonPlants_b3 before_2 i_11 p_12 hits_13a hits_13n hits_13c n_14 t73 t72 t73 Q Kn2 h))) else (law45_AutomatonPlants_b4 n_14 Q h)
def law45_AutomatonPlants_b1 (before_2 after_3 : ByteArray) (a_9 : Option Addr) (i_11 : Int) (p_12 : ByteArray) (Q : QT) (h : Heap) : Prop :=
 ((before_2.size + p_12.size : Nat) : Int) ≤ IntKind.max .i64 ∧ (((before_2 ++ p_12).size + after_3.size : Nat) : Int) ≤ IntKind.max .i64 ∧ CallT Tryd.prog fn_automaton_Automaton_All #[.pointer a_9, .string ((before_2 ++ p_12) ++ after_3)] h fun v h10 => ∃ t70a : Option Addr, ∃ t70n : Nat, ∃ t70c : Nat, v = .slice t70a t70n t70c ∧ LoopV (fun (s : Int × Int) h Kn => law45_AutomatonPlants_l2 before_2 i_11 p_12 t70a t70n t70c ((t70n : Nat) : Int) Q s.1 s.2 h Kn) (0, 0) h10
def law45_AutomatonPlants_v (l_0a : Option Addr) (l_0n l_0c : Nat) (which_1 : Int) (before_2 after_3 : ByteArray) (Q : QT) (h : Heap) : Prop :=
 if (((l_0n : Nat) : Int) == 0) = true then (CallT Tryd.prog fn_law45_awake #[] h fun v h1 => ∃ t38 : Bool, v = .bool t38 ∧ Q (.bool t38) h1) else (if (decide (((l_0n : Nat) : Int) > 60)) = true then (CallT Tryd.prog fn_law45_awake #[] h fun v h2 => ∃ t38 : Bool, v = .bool t38 ∧ Q (.bool t38) h2) else (CallT Tryd.prog fn_law45_large #[.slice l_0a l_0n l_0c] h fun v h3 => ∃ t26 : Bool, v = .bool t26 ∧ if t26 = true then (CallT Tryd.prog fn_law45_awake #[] h3 fun v h4 => ∃ t38 : Bool, v = .bool t38 ∧ Q (.bool t38) h4) else (if (decide (((before_2.size : Nat) : Int) > 300)) = true then (CallT Tryd.prog fn_law45_awake #[] h3 fun v h5 => ∃ t38 : Bool, v = .bool t38 ∧ Q (.bool t38) h5) else (if (decide (((after_3.size : Nat) : Int) > 300)) = true then (CallT Tryd.prog fn_law45_awake #[] h3 fun v h6 => ∃ t38 : Bool, v = .bool t38 ∧ Q (.bool t38) h6) else (CallT Tryd.prog fn_automaton_Build #[.slice l_0a l_0n l_0c] h3 fun v h7 => ∃ t41_0 : Option Addr, ∃ t41_1 : Int, v = .tuple #[.pointer t41_0, .int .i64 t41_1] ∧ if (t41_1 != 0) = true then (CallT Tryd.prog fn_law45_awake #[] h7 fun v h8 => ∃ t46 : Bool, v = .bool t46 ∧ Q (.bool t46) h8) else (((l_0n : Nat) : Int) ≠ 0 ∧ idxA (Int.tmod (wrap .i64 which_1) ((l_0n : Nat) : Int)) l_0n (nn l_0a fun t54 => ldS h7 (Addr.add t54 (((Int.tmod (wrap .i64 which_1) ((l_0n : Nat) : Int))).toNat * 2)) fun t56 => idxA (Int.tmod (wrap .i64 which_1) ((l_0n : Nat) : Int)) l_0n (nn l_0a fun t59 => ldB h7 (Addr.add (Addr.add t59 (((Int.tmod (wrap .i64 which_1) ((l_0n : Nat) : Int))).toNat * 2)) 1) fun t61 => if t61 = true then (CallT Tryd.prog fn_transform_Apply #[.int .i64 1, .string t56] h7 fun v h9 => ∃ t63 : ByteArray, v = .string t63 ∧ law45_AutomatonPlants_b1 before_2 after_3 t41_0 (Int.tmod (wrap .i64 which_1) ((l_0n : Nat) : Int)) t63 Q h9) else (law45_AutomatonPlants_b1 before_2 after_3 t41_0 (Int.tmod (wrap .i64 which_1) ((l_0n : Nat) : Int)) t56 Q h7)))))))))
set_option maxRecDepth 100000 in
theorem law45_AutomatonPlants_s (l_0a : Option Addr) (l_0n l_0c : Nat) (which_1 : Int) (before_2 after_3 : ByteArray) {Q : QT} {h : Heap} (hk : law45_AutomatonPlants_v l_0a l_0n l_0c which_1 before_2 after_3 Q h) : CallT Tryd.prog fn_law45_AutomatonPlants #[.slice l_0a l_0n l_0c, .int .u8 which_1, .string before_2, .string after_3] h Q :=
 callU follows Tryd.func3 (Tryd.call3 _) rfl rfl [(22, fun e h => dS (e 2) fun before_2 => dS (e 3) fun after_3 => dP (e 9) fun a_9 => dI .i64 (e 11) fun i_11 => dS (e 12) fun p_12 => law45_AutomatonPlants_b1 before_2 after_3 a_9 i_11 p_12 Q h), (42, fun e h => dI .i64 (e 14) fun n_14 => law45_AutomatonPlants_b4 n_14 Q h)] [(28, fun e h => dS (e 2) fun before_2 => dI .i64 (e 11) fun i_11 => dS (e 12) fun p_12 => dL (e 13) fun hits_13a hits_13n hits_13c => dI .i64 (e 72) fun t72 => dI .i64 (e 14) fun n_14 => dI .i64 (e 73) fun t73 => LoopV (fun (s : Int × Int) h Kn => law45_AutomatonPlants_l2 before_2 i_11 p_12 hits_13a hits_13n hits_13c t72 Q s.1 s.2 h Kn) (n_14, t73) h)]
 ⟨fun e h _ hk => by
 have F := Ag.nil (e := e)
 have ⟨before_2, F, hk⟩ := eS F hk
 have ⟨after_3, F, hk⟩ := eS F hk
 have ⟨a_9, F, hk⟩ := eP F hk
 have ⟨i_11, F, hk⟩ := eI F hk
 have ⟨p_12, F, hk⟩ := eS F hk
 exact cutU F (by as_aux_lemma => kernel_rfl) hk, fun e h _ hk => by
 have F := Ag.nil (e := e)
 have ⟨n_14, F, hk⟩ := eI F hk
 exact cutU F (by as_aux_lemma => kernel_rfl) hk, trivial⟩
 ⟨⟨by kernel_rfl, fun e h he hk => by
 have F := Ag.nil (e := e)
 have ⟨before_2, F, hk⟩ := eS F hk
 have ⟨i_11, F, hk⟩ := eI F hk
 have ⟨p_12, F, hk⟩ := eS F hk
 have ⟨hits_13a, hits_13n, hits_13c, F, hk⟩ := eL F hk
 have ⟨t72, F, hk⟩ := eI F hk
 have ⟨n_14, F, hk⟩ := eI F hk
 have ⟨t73, F, hk⟩ := eI F hk
 exact loopU (s0 := (n_14, t73)) follows (fun _ h => by cases h) he F (fun s => [(73, .int .i64 s.2), (14, .int .i64 s.1)]) (by kernel_rfl) (F.take 2) hk (fun Kn2 e h => dI .i64 (e 14) fun n_14 => dI .i64 (e 73) fun t73 => Kn2 (n_14, t73) h) (fun Kn2 e h hk => by
  have F := Ag.nil (e := e)
  have ⟨n_14, F, hk⟩ := eI F hk
  have ⟨t73, F, hk⟩ := eI F hk
  exact ⟨(n_14, t73), F, hk⟩)
  (fun Kn2 => [(36, fun e h => dS (e 2) fun before_2 => dI .i64 (e 11) fun i_11 => dS (e 12) fun p_12 => dL (e 13) fun hits_13a hits_13n hits_13c => dI .i64 (e 14) fun n_14 => dI .i64 (e 15) fun k_15 => dI .i64 (e 72) fun t72 => dI .i64 (e 73) fun t73 => law45_AutomatonPlants_b3 before_2 i_11 p_12 hits_13a hits_13n hits_13c n_14 k_15 t72 t73 Q Kn2 h)]) (fun Kn2 => [])
  (fun Kn2 => ⟨fun e h _ hk => by
 have F := Ag.nil (e := e)
 have ⟨before_2, F, hk⟩ := eS F hk
 have ⟨i_11, F, hk⟩ := eI F hk
 have ⟨p_12, F, hk⟩ := eS F hk
 have ⟨hits_13a, hits_13n, hits_13c, F, hk⟩ := eL F hk
 have ⟨n_14, F, hk⟩ := eI F hk
 have ⟨k_15, F, hk⟩ := eI F hk
 have ⟨t72, F, hk⟩ := eI F hk
 have ⟨t73, F, hk⟩ := eI F hk
 exact cutU F (by as_aux_lemma => kernel_rfl) hk, trivial⟩)
  (fun Kn2 => trivial) (fun e s h Kn2 => by as_aux_lemma => kernel_rfl)⟩, trivial⟩ (by as_aux_lemma => kernel_rfl) hk
/-! ### intrusion/intrusionlaw45.AutomatonExact -/
def law45_AutomatonExact_b2 (Q : QT) (h : Heap) : Prop :=
 CallT Tryd.prog fn_law45_awake #[] h fun v h14 => ∃ t123 : Bool, v = .bool t123 ∧ Q (.bool t123) h14
def law45_AutomatonExact_l1 (l_0a : Option Addr) (l_0n l_0c : Nat) (s_1 : ByteArray) (hits_7a : Option Addr) (hits_7n hits_7c : Nat) (t42 : Int) (Q : QT) (t43 : Int) (h : Heap) (Kn1 : Int → Heap → Prop) : Prop :=
 if (decide (t43 < t42)) = true then (idxA t43 hits_7n (nn hits_7a fun t48 => ldI h (Addr.add t48 ((t43).toNat * 2)) .i64 fun t49_0 => ldI h (Addr.add (Addr.add t48 ((t43).toNat * 2)) 1) .i64 fun t49_1 => alV h (.cells #[.int .i64 0, .int .i64 0] T_api_Hit) fun t9 h10 => stN h10 t9 [.int .i64 t49_0, .int .i64 t49_1] 0 fun h11 => ldI h11 t9 .i64 fun t51 => if (decide (t51 < 0)) = true then (Q (.bool false) h11) else (ldI h11 t9 .i64 fun t55 => if (decide (t55 ≥ ((l_0n : Nat) : Int))) = true then (Q (.bool false) h11) else (ldI h11 (Addr.add t9 1) .i64 fun t62 => ldI h11 t9 .i64 fun t65 => idxA t65 l_0n (nn l_0a fun t66 => ldS h11 (Addr.add t66 ((t65).toNat * 2)) fun t68 => if (decide (t62 < ((t68.size : Nat) : Int))) = true then (Q (.bool false) h11) else (ldI h11 (Addr.add t9 1) .i64 fun t74 => if (decide (t74 > ((s_1.size : Nat) : Int))) = true then (Q (.bool false) h11) else (ldI h11 (Addr.add t9 1) .i64 fun t81 => ldI h11 t9 .i64 fun t84 => idxA t84 l_0n (nn l_0a fun t85 => ldS h11 (Addr.add t85 ((t84).toNat * 2)) fun t87 => ldI h11 (Addr.add t9 1) .i64 fun t91 => sliceStr s_1 (some (wrap .i64 (t81 - ((t87.size : Nat) : Int)))) (some t91) fun t92 => ldI h11 t9 .i64 fun t96 => idxA t96 l_0n (nn l_0a fun t97 => ldS h11 (Addr.add t97 ((t96).toNat * 2)) fun t99 => if (!(t92.toList == t99.toList)) = true then (ldI h11 t9 .i64 fun t104 => idxA t104 l_0n (nn l_0a fun t105 => ldB h11 (Addr.add (Addr.add t105 ((t104).toNat * 2)) 1) fun t107 => if (!t107) = true then (Q (.bool false) h11) else (ldI h11 t9 .i64 fun t114 => idxA t114 l_0n (nn l_0a fun t115 => ldS h11 (Addr.add t115 ((t114).toNat * 2)) fun t117 => CallT Tryd.prog fn_transform_Apply #[.int .i64 1, .string t92] h11 fun v h12 => ∃ t111 : ByteArray, v = .string t111 ∧ (ldI h12 t9 .i64 fun t9114 => (.int .i64 t9114 : Value) = .int .i64 t114) ∧ (ldS h12 (Addr.add t115 ((t114).toNat * 2)) fun t9117 => (.string t9117 : Value) = .string t117) ∧ CallT Tryd.prog fn_transform_Apply #[.int .i64 1, .string t117] h12 fun v h13 => ∃ t118 : ByteArray, v = .string t118 ∧ if (!(t111.toList == t118.toList)) = true then (Q (.bool false) h13) else (Kn1 (wrap .i64 (t43 + 1)) h13))))) else (Kn1 (wrap .i64 (t43 + 1)) h11)))))))))) else (law45_AutomatonExact_b2 Q h)
def law45_AutomatonExact_v (l_0a : Option Addr) (l_0n l_0c : Nat) (s_1 : ByteArray) (Q : QT) (h : Heap) : Prop :=
 if (decide (((l_0n : Nat) : Int) > 60)) = true then (CallT Tryd.prog fn_law45_awake #[] h fun v h1 => ∃ t23 : Bool, v = .bool t23 ∧ Q (.bool t23) h1) else (CallT Tryd.prog fn_law45_large #[.slice l_0a l_0n l_0c] h fun v h2 => ∃ t16 : Bool, v = .bool t16 ∧ if t16 = true then (CallT Tryd.prog fn_law45_awake #[] h2 fun v h3 => ∃ t23 : Bool, v = .bool t23 ∧ Q (.bool t23) h3) else (if (decide (((s_1.size : Nat) : Int) > 600)) = true then (CallT Tryd.prog fn_law45_awake #[] h2 fun v h4 => ∃ t23 : Bool, v = .bool t23 ∧ Q (.bool t23) h4) else (CallT Tryd.prog fn_automaton_Build #[.slice l_0a l_0n l_0c] h2 fun v h5 => ∃ t26_0 : Option Addr, ∃ t26_1 : Int, v = .tuple #[.pointer t26_0, .int .i64 t26_1] ∧ if (t26_1 != 0) = true then (CallT Tryd.prog fn_law45_awake #[] h5 fun v h6 => ∃ t31 : Bool, v = .bool t31 ∧ Q (.bool t31) h6) else (CallT Tryd.prog fn_automaton_Automaton_All #[.pointer t26_0, .string s_1] h5 fun v h7 => ∃ t34a : Option Addr, ∃ t34n : Nat, ∃ t34c : Nat, v = .slice t34a t34n t34c ∧ CallT Tryd.prog fn_automaton_Plain #[.slice l_0a l_0n l_0c, .string s_1] h7 fun v h8 => ∃ t38a : Option Addr, ∃ t38n : Nat, ∃ t38c : Nat, v = .slice t38a t38n t38c ∧ CallT Tryd.prog fn_law45_same #[.slice t34a t34n t34c, .slice t38a t38n t38c] h8 fun v h9 => ∃ t39 : Bool, v = .bool t39 ∧ if (!t39) = true then (Q (.bool false) h9) else (LoopV (fun (s : Int) h Kn => law45_AutomatonExact_l1 l_0a l_0n l_0c s_1 t34a t34n t34c ((t34n : Nat) : Int) Q s h Kn) 0 h9)))))
set_option maxRecDepth 100000 in
theorem law45_AutomatonExact_s (l_0a : Option Addr) (l_0n l_0c : Nat) (s_1 : ByteArray) {Q : QT} {h : Heap} (hk : law45_AutomatonExact_v l_0a l_0n l_0c s_1 Q h) : CallT Tryd.prog fn_law45_AutomatonExact #[.slice l_0a l_0n l_0c, .string s_1] h Q :=
 callU follows Tryd.func4 (Tryd.call4 _) rfl rfl [(40, fun e h => law45_AutomatonExact_b2 Q h)] [(22, fun e h => dL (e 0) fun l_0a l_0n l_0c => dS (e 1) fun s_1 => dL (e 7) fun hits_7a hits_7n hits_7c => dI .i64 (e 42) fun t42 => dI .i64 (e 43) fun t43 => LoopV (fun (s : Int) h Kn => law45_AutomatonExact_l1 l_0a l_0n l_0c s_1 hits_7a hits_7n hits_7c t42 Q s h Kn) t43 h)]
 ⟨fun e h _ hk => by
 have F := Ag.nil (e := e)
 exact cutU F (by as_aux_lemma => kernel_rfl) hk, trivial⟩
 ⟨⟨by kernel_rfl, fun e h he hk => by
 have F := Ag.nil (e := e)
 have ⟨l_0a, l_0n, l_0c, F, hk⟩ := eL F hk
 have ⟨s_1, F, hk⟩ := eS F hk
 have ⟨hits_7a, hits_7n, hits_7c, F, hk⟩ := eL F hk
 have ⟨t42, F, hk⟩ := eI F hk
 have ⟨t43, F, hk⟩ := eI F hk
 exact loopU (s0 := t43) follows (fun _ h => by cases h) he F (fun s => [(43, .int .i64 s)]) (by kernel_rfl) (F.take 1) hk (fun Kn1 e h => dI .i64 (e 43) fun t43 => Kn1 t43 h) (fun Kn1 e h hk => by
  have F := Ag.nil (e := e)
  have ⟨t43, F, hk⟩ := eI F hk
  exact ⟨t43, F, hk⟩)
  (fun Kn1 => []) (fun Kn1 => [])
  (fun Kn1 => trivial)
  (fun Kn1 => trivial) (fun e s h Kn1 => by as_aux_lemma => kernel_rfl)⟩, trivial⟩ (by as_aux_lemma => kernel_rfl) hk
/-! ### intrusion/intrusionlaw45.large -/
def law45_large_b2 (l_0a : Option Addr) (l_0n l_0c : Nat) (Q : QT) (h : Heap) : Prop :=
 Q (.bool (decide (((l_0n : Nat) : Int) > 600))) h
def law45_large_l1 (l_0a : Option Addr) (l_0n l_0c : Nat) (Q : QT) (i_3 : Int) (h : Heap) (Kn1 : Int → Heap → Prop) : Prop :=
 if (decide (i_3 < ((l_0n : Nat) : Int))) = true then (if (decide (i_3 < 600)) = true then (idxA i_3 l_0n (nn l_0a fun t16 => ldS h (Addr.add t16 ((i_3).toNat * 2)) fun t18 => if (decide (((t18.size : Nat) : Int) > 300)) = true then (Q (.bool true) h) else (Kn1 (wrap .i64 (i_3 + 1)) h))) else (law45_large_b2 l_0a l_0n l_0c Q h)) else (law45_large_b2 l_0a l_0n l_0c Q h)
def law45_large_v (l_0a : Option Addr) (l_0n l_0c : Nat) (Q : QT) (h : Heap) : Prop :=
 LoopV (fun (s : Int) h Kn => law45_large_l1 l_0a l_0n l_0c Q s h Kn) 0 h
set_option maxRecDepth 100000 in
theorem law45_large_s (l_0a : Option Addr) (l_0n l_0c : Nat) {Q : QT} {h : Heap} (hk : law45_large_v l_0a l_0n l_0c Q h) : CallT Tryd.prog fn_law45_large #[.slice l_0a l_0n l_0c] h Q :=
 callU follows Tryd.func5 (Tryd.call5 _) rfl rfl [(14, fun e h => dL (e 0) fun l_0a l_0n l_0c => law45_large_b2 l_0a l_0n l_0c Q h)] [(6, fun e h => dL (e 0) fun l_0a l_0n l_0c => dI .i64 (e 3) fun i_3 => LoopV (fun (s : Int) h Kn => law45_large_l1 l_0a l_0n l_0c Q s h Kn) i_3 h)]
 ⟨fun e h _ hk => by
 have F := Ag.nil (e := e)
 have ⟨l_0a, l_0n, l_0c, F, hk⟩ := eL F hk
 exact cutU F (by as_aux_lemma => kernel_rfl) hk, trivial⟩
 ⟨⟨by kernel_rfl, fun e h he hk => by
 have F := Ag.nil (e := e)
 have ⟨l_0a, l_0n, l_0c, F, hk⟩ := eL F hk
 have ⟨i_3, F, hk⟩ := eI F hk
 exact loopU (s0 := i_3) follows (fun _ h => by cases h) he F (fun s => [(3, .int .i64 s)]) (by kernel_rfl) (F.take 1) hk (fun Kn1 e h => dI .i64 (e 3) fun i_3 => Kn1 i_3 h) (fun Kn1 e h hk => by
  have F := Ag.nil (e := e)
  have ⟨i_3, F, hk⟩ := eI F hk
  exact ⟨i_3, F, hk⟩)
  (fun Kn1 => []) (fun Kn1 => [])
  (fun Kn1 => trivial)
  (fun Kn1 => trivial) (fun e s h Kn1 => by as_aux_lemma => kernel_rfl)⟩, trivial⟩ (by as_aux_lemma => kernel_rfl) hk
/-! ### intrusion/intrusionlaw45.awake -/
def law45_awake_v (Q : QT) (h : Heap) : Prop :=
 alV h (.cells #[.string (⟨#[104, 101]⟩ : ByteArray), .bool false, .string (⟨#[115, 104, 101]⟩ : ByteArray), .bool false, .string (⟨#[104, 101, 114, 115]⟩ : ByteArray), .bool false] T_api_Pattern) fun t9 h1 => CallT Tryd.prog fn_automaton_Build #[.slice (some t9) 3 3] h1 fun v h2 => ∃ t10_0 : Option Addr, ∃ t10_1 : Int, v = .tuple #[.pointer t10_0, .int .i64 t10_1] ∧ alV h2 (.cells #[.string (⟨#[97, 97]⟩ : ByteArray), .bool false] T_api_Pattern) fun t15 h3 => CallT Tryd.prog fn_automaton_Build #[.slice (some t15) 1 1] h3 fun v h4 => ∃ t16_0 : Option Addr, ∃ t16_1 : Int, v = .tuple #[.pointer t16_0, .int .i64 t16_1] ∧ if (Option.isNone t10_0) = true then (Q (.bool false) h4) else (if (Option.isNone t16_0) = true then (Q (.bool false) h4) else (if (t10_1 != 0) = true then (Q (.bool false) h4) else (if (t16_1 != 0) = true then (Q (.bool false) h4) else (CallT Tryd.prog fn_automaton_Automaton_States #[.pointer t10_0] h4 fun v h5 => ∃ t34 : Int, v = .int .i64 t34 ∧ if (t34 == 8) = true then (CallT Tryd.prog fn_automaton_Automaton_All #[.pointer t10_0, .string (⟨#[117, 115, 104, 101, 114, 115]⟩ : ByteArray)] h5 fun v h6 => ∃ t38a : Option Addr, ∃ t38n : Nat, ∃ t38c : Nat, v = .slice t38a t38n t38c ∧ alV h6 (.cells #[.int .i64 0, .int .i64 4, .int .i64 1, .int .i64 4, .int .i64 2, .int .i64 6] T_api_Hit) fun t42 h7 => CallT Tryd.prog fn_law45_same #[.slice t38a t38n t38c, .slice (some t42) 3 3] h7 fun v h8 => ∃ t43 : Bool, v = .bool t43 ∧ if t43 = true then (CallT Tryd.prog fn_automaton_Automaton_All #[.pointer t16_0, .string (⟨#[97, 97, 97]⟩ : ByteArray)] h8 fun v h9 => ∃ t47a : Option Addr, ∃ t47n : Nat, ∃ t47c : Nat, v = .slice t47a t47n t47c ∧ alV h9 (.cells #[.int .i64 0, .int .i64 2, .int .i64 0, .int .i64 3] T_api_Hit) fun t50 h10 => CallT Tryd.prog fn_law45_same #[.slice t47a t47n t47c, .slice (some t50) 2 2] h10 fun v h11 => ∃ t51 : Bool, v = .bool t51 ∧ Q (.bool t51) h11) else (Q (.bool false) h8)) else (Q (.bool false) h5)))))
set_option maxRecDepth 100000 in
theorem law45_awake_s {Q : QT} {h : Heap} (hk : law45_awake_v Q h) : CallT Tryd.prog fn_law45_awake #[] h Q :=
 callU follows Tryd.func6 (Tryd.call6 _) rfl rfl [] []
 trivial
 trivial (by as_aux_lemma => kernel_rfl) hk
/-! ### intrusion/automaton.Build -/
def automaton_Build_b4 (a_6 : Addr) (Q : QT) (h : Heap) : Prop :=
 CallT Tryd.prog fn_automaton_Automaton_link #[.pointer (some a_6)] h fun v h12 => v = .tuple #[] ∧ Q (.tuple #[.pointer (some a_6), .int .i64 0]) h12
def automaton_Build_l3 (a_6 : Addr) (t33a : Option Addr) (t33n t33c : Nat) (t34 : Int) (Q : QT) (t35 : Int) (h : Heap) (Kn3 : Int → Heap → Prop) : Prop :=
 if (decide (t35 < t34)) = true then (idxA t35 t33n (nn t33a fun t38 => ldS h (Addr.add t38 ((t35).toNat * 2)) fun t39_0 => ldB h (Addr.add (Addr.add t38 ((t35).toNat * 2)) 1) fun t39_1 => alV h (.cells #[.string (⟨#[]⟩ : ByteArray), .bool false] T_api_Pattern) fun t8 h6 => stN h6 t8 [.string t39_0, .bool t39_1] 0 fun h7 => ldS h7 t8 fun t43 => CallT Tryd.prog fn_automaton_Automaton_add #[.pointer (some a_6), .int .i64 t35, .string t43] h7 fun v h8 => v = .tuple #[] ∧ Kn3 (wrap .i64 (t35 + 1)) h8)) else (automaton_Build_b4 a_6 Q h)
def automaton_Build_b2 (l_0a : Option Addr) (l_0n l_0c : Nat) (Q : QT) (h : Heap) : Prop :=
 (mkSlV Tryd.prog T_sl_automaton_state (.int .i64 1) (.int .i64 1) h fun v h3 => ∃ t28a : Option Addr, ∃ t28n : Nat, ∃ t28c : Nat, v = .slice t28a t28n t28c ∧ CallT Tryd.prog fn_slices_Clone_api_Pattern_api_Pattern #[.slice l_0a l_0n l_0c] h3 fun v h4 => ∃ t30a : Option Addr, ∃ t30n : Nat, ∃ t30c : Nat, v = .slice t30a t30n t30c ∧ alV h4 (.cells #[.slice t28a t28n t28c, .slice t30a t30n t30c] T_automaton_Automaton) fun t32 h5 => LoopV (fun (s : Int) h Kn => automaton_Build_l3 t32 l_0a l_0n l_0c ((l_0n : Nat) : Int) Q s h Kn) 0 h5) ∧ (CallT Tryd.prog fn_slices_Clone_api_Pattern_api_Pattern #[.slice l_0a l_0n l_0c] h fun v h9 => ∃ t30a : Option Addr, ∃ t30n : Nat, ∃ t30c : Nat, v = .slice t30a t30n t30c ∧ mkSlV Tryd.prog T_sl_automaton_state (.int .i64 1) (.int .i64 1) h9 fun v h10 => ∃ t28a : Option Addr, ∃ t28n : Nat, ∃ t28c : Nat, v = .slice t28a t28n t28c ∧ alV h10 (.cells #[.slice t28a t28n t28c, .slice t30a t30n t30c] T_automaton_Automaton) fun t32 h11 => LoopV (fun (s : Int) h Kn => automaton_Build_l3 t32 l_0a l_0n l_0c ((l_0n : Nat) : Int) Q s h Kn) 0 h11)
def automaton_Build_l1 (l_0a : Option Addr) (l_0n l_0c : Nat) (t12a : Option Addr) (t12n t12c : Nat) (t13 : Int) (Q : QT) (t14 : Int) (h : Heap) (Kn1 : Int → Heap → Prop) : Prop :=
 if (decide (t14 < t13)) = true then (idxA t14 t12n (nn t12a fun t16 => ldS h (Addr.add t16 ((t14).toNat * 2)) fun t17_0 => ldB h (Addr.add (Addr.add t16 ((t14).toNat * 2)) 1) fun t17_1 => alV h (.cells #[.string (⟨#[]⟩ : ByteArray), .bool false] T_api_Pattern) fun t5 h1 => stN h1 t5 [.string t17_0, .bool t17_1] 0 fun h2 => ldS h2 t5 fun t20 => if (t20.toList == (⟨#[]⟩ : ByteArray).toList) = true then (Q (.tuple #[.pointer none, .int .i64 2]) h2) else (ldS h2 t5 fun t24 => if (decide (((t24.size : Nat) : Int) > 64)) = true then (Q (.tuple #[.pointer none, .int .i64 3]) h2) else (Kn1 (wrap .i64 (t14 + 1)) h2)))) else (automaton_Build_b2 l_0a l_0n l_0c Q h)
def automaton_Build_v (l_0a : Option Addr) (l_0n l_0c : Nat) (Q : QT) (h : Heap) : Prop :=
 if (decide (((l_0n : Nat) : Int) > 512)) = true then (Q (.tuple #[.pointer none, .int .i64 3]) h) else (LoopV (fun (s : Int) h Kn => automaton_Build_l1 l_0a l_0n l_0c l_0a l_0n l_0c ((l_0n : Nat) : Int) Q s h Kn) 0 h)
set_option maxRecDepth 100000 in
theorem automaton_Build_s (l_0a : Option Addr) (l_0n l_0c : Nat) {Q : QT} {h : Heap} (hk : automaton_Build_v l_0a l_0n l_0c Q h) : CallT Tryd.prog fn_automaton_Build #[.slice l_0a l_0n l_0c] h Q :=
 callU follows Tryd.func7 (Tryd.call7 _) rfl rfl [(24, fun e h => dL (e 0) fun l_0a l_0n l_0c => automaton_Build_b2 l_0a l_0n l_0c Q h), (36, fun e h => dA (e 6) fun a_6 => automaton_Build_b4 a_6 Q h)] [(10, fun e h => dL (e 0) fun l_0a l_0n l_0c => dL (e 12) fun t12a t12n t12c => dI .i64 (e 13) fun t13 => dI .i64 (e 14) fun t14 => LoopV (fun (s : Int) h Kn => automaton_Build_l1 l_0a l_0n l_0c t12a t12n t12c t13 Q s h Kn) t14 h), (28, fun e h => dA (e 6) fun a_6 => dL (e 33) fun t33a t33n t33c => dI .i64 (e 34) fun t34 => dI .i64 (e 35) fun t35 => LoopV (fun (s : Int) h Kn => automaton_Build_l3 a_6 t33a t33n t33c t34 Q s h Kn) t35 h)]
 ⟨fun e h _ hk => by
 have F := Ag.nil (e := e)
 have ⟨l_0a, l_0n, l_0c, F, hk⟩ := eL F hk
 exact cutU F (by as_aux_lemma => kernel_rfl) hk, fun e h _ hk => by
 have F := Ag.nil (e := e)
 have ⟨a_6, F, hk⟩ := eA F hk
 exact cutU F (by as_aux_lemma => kernel_rfl) hk, trivial⟩
 ⟨⟨by kernel_rfl, fun e h he hk => by
 have F := Ag.nil (e := e)
 have ⟨l_0a, l_0n, l_0c, F, hk⟩ := eL F hk
 have ⟨t12a, t12n, t12c, F, hk⟩ := eL F hk
 have ⟨t13, F, hk⟩ := eI F hk
 have ⟨t14, F, hk⟩ := eI F hk
 exact loopU (s0 := t14) follows (fun _ h => by cases h) he F (fun s => [(14, .int .i64 s)]) (by kernel_rfl) (F.take 1) hk (fun Kn1 e h => dI .i64 (e 14) fun t14 => Kn1 t14 h) (fun Kn1 e h hk => by
  have F := Ag.nil (e := e)
  have ⟨t14, F, hk⟩ := eI F hk
  exact ⟨t14, F, hk⟩)
  (fun Kn1 => []) (fun Kn1 => [])
  (fun Kn1 => trivial)
  (fun Kn1 => trivial) (fun e s h Kn1 => by as_aux_lemma => kernel_rfl)⟩, ⟨by kernel_rfl, fun e h he hk => by
 have F := Ag.nil (e := e)
 have ⟨a_6, F, hk⟩ := eA F hk
 have ⟨t33a, t33n, t33c, F, hk⟩ := eL F hk
 have ⟨t34, F, hk⟩ := eI F hk
 have ⟨t35, F, hk⟩ := eI F hk
 exact loopU (s0 := t35) follows (fun _ h => by cases h) he F (fun s => [(35, .int .i64 s)]) (by kernel_rfl) (F.take 1) hk (fun Kn3 e h => dI .i64 (e 35) fun t35 => Kn3 t35 h) (fun Kn3 e h hk => by
  have F := Ag.nil (e := e)
  have ⟨t35, F, hk⟩ := eI F hk
  exact ⟨t35, F, hk⟩)
  (fun Kn3 => []) (fun Kn3 => [])
  (fun Kn3 => trivial)
  (fun Kn3 => trivial) (fun e s h Kn3 => by as_aux_lemma => kernel_rfl)⟩, trivial⟩ (by as_aux_lemma => kernel_rfl) hk
/-! ### intrusion/transform.Apply -/
def transform_Apply_v (kind_0 : Int) (s_1 : ByteArray) (Q : QT) (h : Heap) : Prop :=
 CallT Tryd.prog fn_transform_of #[.int .i64 kind_0] h fun v h1 => ∃ t6 : Value, v = t6 ∧ CallV Tryd.prog t6 #[.string s_1] h1 fun v h2 => ∃ t8 : ByteArray, v = .string t8 ∧ Q (.string t8) h2
set_option maxRecDepth 100000 in
theorem transform_Apply_s (kind_0 : Int) (s_1 : ByteArray) {Q : QT} {h : Heap} (hk : transform_Apply_v kind_0 s_1 Q h) : CallT Tryd.prog fn_transform_Apply #[.int .i64 kind_0, .string s_1] h Q :=
 callU follows Tryd.func8 (Tryd.call8 _) rfl rfl [] []
 trivial
 trivial (by as_aux_lemma => kernel_rfl) hk
/-! ### (*intrusion/automaton.Automaton).All -/
def automaton_Automaton_All_v (a_0 : Option Addr) (s_1 : ByteArray) (Q : QT) (h : Heap) : Prop :=
 CallT Tryd.prog fn_automaton_Automaton_Begin #[.pointer a_0] h fun v h1 => ∃ t6 : Option Addr, v = .pointer t6 ∧ CallT Tryd.prog fn_automaton_Cursor_Scan #[.pointer t6, .string s_1] h1 fun v h2 => ∃ t8a : Option Addr, ∃ t8n : Nat, ∃ t8c : Nat, v = .slice t8a t8n t8c ∧ Q (.slice t8a t8n t8c) h2
set_option maxRecDepth 100000 in
theorem automaton_Automaton_All_s (a_0 : Option Addr) (s_1 : ByteArray) {Q : QT} {h : Heap} (hk : automaton_Automaton_All_v a_0 s_1 Q h) : CallT Tryd.prog fn_automaton_Automaton_All #[.pointer a_0, .string s_1] h Q :=
 callU follows Tryd.func9 (Tryd.call9 _) rfl rfl [] []
 trivial
 trivial (by as_aux_lemma => kernel_rfl) hk
/-! ### intrusion/intrusionlaw45.same -/
def law45_same_l1 (a_0a : Option Addr) (a_0n a_0c : Nat) (b_1a : Option Addr) (b_1n b_1c : Nat) (t12 : Int) (Q : QT) (t13 : Int) (h : Heap) (Kn1 : Int → Heap → Prop) : Prop :=
 if (decide (t13 < t12)) = true then (idxA t13 a_0n (nn a_0a fun t18 => ldI h (Addr.add t18 ((t13).toNat * 2)) .i64 fun t19_0 => ldI h (Addr.add (Addr.add t18 ((t13).toNat * 2)) 1) .i64 fun t19_1 => idxA t13 b_1n (nn b_1a fun t22 => ldI h (Addr.add t22 ((t13).toNat * 2)) .i64 fun t23_0 => ldI h (Addr.add (Addr.add t22 ((t13).toNat * 2)) 1) .i64 fun t23_1 => if (!((t19_0 == t23_0) && ((t19_1 == t23_1) && true))) = true then (Q (.bool false) h) else (Kn1 (wrap .i64 (t13 + 1)) h)))) else (Q (.bool true) h)
def law45_same_v (a_0a : Option Addr) (a_0n a_0c : Nat) (b_1a : Option Addr) (b_1n b_1c : Nat) (Q : QT) (h : Heap) : Prop :=
 if (((a_0n : Nat) : Int) != ((b_1n : Nat) : Int)) = true then (Q (.bool false) h) else (LoopV (fun (s : Int) h Kn => law45_same_l1 a_0a a_0n a_0c b_1a b_1n b_1c ((a_0n : Nat) : Int) Q s h Kn) 0 h)
set_option maxRecDepth 100000 in
theorem law45_same_s (a_0a : Option Addr) (a_0n a_0c : Nat) (b_1a : Option Addr) (b_1n b_1c : Nat) {Q : QT} {h : Heap} (hk : law45_same_v a_0a a_0n a_0c b_1a b_1n b_1c Q h) : CallT Tryd.prog fn_law45_same #[.slice a_0a a_0n a_0c, .slice b_1a b_1n b_1c] h Q :=
 callU follows Tryd.func10 (Tryd.call10 _) rfl rfl [] [(10, fun e h => dL (e 0) fun a_0a a_0n a_0c => dL (e 1) fun b_1a b_1n b_1c => dI .i64 (e 12) fun t12 => dI .i64 (e 13) fun t13 => LoopV (fun (s : Int) h Kn => law45_same_l1 a_0a a_0n a_0c b_1a b_1n b_1c t12 Q s h Kn) t13 h)]
 trivial
 ⟨⟨by kernel_rfl, fun e h he hk => by
 have F := Ag.nil (e := e)
 have ⟨a_0a, a_0n, a_0c, F, hk⟩ := eL F hk
 have ⟨b_1a, b_1n, b_1c, F, hk⟩ := eL F hk
 have ⟨t12, F, hk⟩ := eI F hk
 have ⟨t13, F, hk⟩ := eI F hk
 exact loopU (s0 := t13) follows (fun _ h => by cases h) he F (fun s => [(13, .int .i64 s)]) (by kernel_rfl) (F.take 1) hk (fun Kn1 e h => dI .i64 (e 13) fun t13 => Kn1 t13 h) (fun Kn1 e h hk => by
  have F := Ag.nil (e := e)
  have ⟨t13, F, hk⟩ := eI F hk
  exact ⟨t13, F, hk⟩)
  (fun Kn1 => []) (fun Kn1 => [])
  (fun Kn1 => trivial)
  (fun Kn1 => trivial) (fun e s h Kn1 => by as_aux_lemma => kernel_rfl)⟩, trivial⟩ (by as_aux_lemma => kernel_rfl) hk
/-! ### intrusion/automaton.Plain -/
def automaton_Plain_b3 (l_0a : Option Addr) (l_0n l_0c : Nat) (s_1 : ByteArray) (out_5a : Option Addr) (out_5n out_5c : Nat) (low_6 : ByteArray) (end_7 i_8 : Int) (text_10 pattern_11 : ByteArray) (t20a : Option Addr) (t20n t20c : Nat) (t21 t22 : Int) (Q : QT) (Kn1 : (Option Addr) × Nat × Nat × Int → Heap → Prop) (Kn2 : (Option Addr) × Nat × Nat × Int → Heap → Prop) (h : Heap) : Prop :=
 if (!(pattern_11.toList == (⟨#[]⟩ : ByteArray).toList)) = true then (CallT Tryd.prog fn_strings_HasSuffix #[.string text_10, .string pattern_11] h fun v h5 => ∃ t44 : Bool, v = .bool t44 ∧ if t44 = true then (alV h5 (.cells #[.int .i64 i_8, .int .i64 end_7] T_api_Hit) fun t50 h6 => bltV Tryd.prog .append #[T_sl_api_Hit, T_sl_api_Hit] T_sl_api_Hit #[false, false] #[.slice out_5a out_5n out_5c, .slice (some t50) 1 1] h6 fun v h7 => ∃ t51a : Option Addr, ∃ t51n : Nat, ∃ t51c : Nat, v = .slice t51a t51n t51c ∧ Kn2 (t51a, t51n, t51c, wrap .i64 (t22 + 1)) h7) else (Kn2 (out_5a, out_5n, out_5c, wrap .i64 (t22 + 1)) h5)) else (Kn2 (out_5a, out_5n, out_5c, wrap .i64 (t22 + 1)) h)
def automaton_Plain_l2 (l_0a : Option Addr) (l_0n l_0c : Nat) (s_1 low_6 : ByteArray) (end_7 : Int) (t20a : Option Addr) (t20n t20c : Nat) (t21 : Int) (Q : QT) (Kn1 : (Option Addr) × Nat × Nat × Int → Heap → Prop) (out_5a : Option Addr) (out_5n out_5c : Nat) (t22 : Int) (h : Heap) (Kn2 : (Option Addr) × Nat × Nat × Int → Heap → Prop) : Prop :=
 if (decide (t22 < t21)) = true then (idxA t22 t20n (nn t20a fun t25 => ldS h (Addr.add t25 ((t22).toNat * 2)) fun t26_0 => ldB h (Addr.add (Addr.add t25 ((t22).toNat * 2)) 1) fun t26_1 => alV h (.cells #[.string (⟨#[]⟩ : ByteArray), .bool false] T_api_Pattern) fun t9 h2 => stN h2 t9 [.string t26_0, .bool t26_1] 0 fun h3 => sliceStr s_1 none (some end_7) fun t29 => ldS h3 t9 fun t31 => ldB h3 (Addr.add t9 1) fun t33 => if t33 = true then (sliceStr low_6 none (some end_7) fun t36 => CallT Tryd.prog fn_automaton_lower #[.string t31] h3 fun v h4 => ∃ t38 : ByteArray, v = .string t38 ∧ automaton_Plain_b3 l_0a l_0n l_0c s_1 out_5a out_5n out_5c low_6 end_7 t22 t36 t38 t20a t20n t20c t21 t22 Q Kn1 Kn2 h4) else (automaton_Plain_b3 l_0a l_0n l_0c s_1 out_5a out_5n out_5c low_6 end_7 t22 t29 t31 t20a t20n t20c t21 t22 Q Kn1 Kn2 h3))) else (Kn1 (out_5a, out_5n, out_5c, wrap .i64 (end_7 + 1)) h)
def automaton_Plain_l1 (l_0a : Option Addr) (l_0n l_0c : Nat) (s_1 low_6 : ByteArray) (Q : QT) (out_5a : Option Addr) (out_5n out_5c : Nat) (end_7 : Int) (h : Heap) (Kn1 : (Option Addr) × Nat × Nat × Int → Heap → Prop) : Prop :=
 if (decide (end_7 ≤ ((s_1.size : Nat) : Int))) = true then (LoopV (fun (s : (Option Addr) × Nat × Nat × Int) h Kn => automaton_Plain_l2 l_0a l_0n l_0c s_1 low_6 end_7 l_0a l_0n l_0c ((l_0n : Nat) : Int) Q Kn1 s.1 s.2.1 s.2.2.1 s.2.2.2 h Kn) (out_5a, out_5n, out_5c, 0) h) else (Q (.slice out_5a out_5n out_5c) h)
def automaton_Plain_v (l_0a : Option Addr) (l_0n l_0c : Nat) (s_1 : ByteArray) (Q : QT) (h : Heap) : Prop :=
 CallT Tryd.prog fn_automaton_lower #[.string s_1] h fun v h1 => ∃ t13 : ByteArray, v = .string t13 ∧ LoopV (fun (s : (Option Addr) × Nat × Nat × Int) h Kn => automaton_Plain_l1 l_0a l_0n l_0c s_1 t13 Q s.1 s.2.1 s.2.2.1 s.2.2.2 h Kn) (none, 0, 0, 1) h1
set_option maxRecDepth 100000 in
theorem automaton_Plain_s (l_0a : Option Addr) (l_0n l_0c : Nat) (s_1 : ByteArray) {Q : QT} {h : Heap} (hk : automaton_Plain_v l_0a l_0n l_0c s_1 Q h) : CallT Tryd.prog fn_automaton_Plain #[.slice l_0a l_0n l_0c, .string s_1] h Q :=
 callU follows Tryd.func11 (Tryd.call11 _) rfl rfl [] [(10, fun e h => dL (e 0) fun l_0a l_0n l_0c => dS (e 1) fun s_1 => dS (e 6) fun low_6 => dL (e 5) fun out_5a out_5n out_5c => dI .i64 (e 7) fun end_7 => LoopV (fun (s : (Option Addr) × Nat × Nat × Int) h Kn => automaton_Plain_l1 l_0a l_0n l_0c s_1 low_6 Q s.1 s.2.1 s.2.2.1 s.2.2.2 h Kn) (out_5a, out_5n, out_5c, end_7) h)]
 trivial
 ⟨⟨by kernel_rfl, fun e h he hk => by
 have F := Ag.nil (e := e)
 have ⟨l_0a, l_0n, l_0c, F, hk⟩ := eL F hk
 have ⟨s_1, F, hk⟩ := eS F hk
 have ⟨low_6, F, hk⟩ := eS F hk
 have ⟨out_5a, out_5n, out_5c, F, hk⟩ := eL F hk
 have ⟨end_7, F, hk⟩ := eI F hk
 exact loopU (s0 := (out_5a, out_5n, out_5c, end_7)) follows (fun _ h => by cases h) he F (fun s => [(7, .int .i64 s.2.2.2), (5, .slice s.1 s.2.1 s.2.2.1)]) (by kernel_rfl) (F.take 2) hk (fun Kn1 e h => dL (e 5) fun out_5a out_5n out_5c => dI .i64 (e 7) fun end_7 => Kn1 (out_5a, out_5n, out_5c, end_7) h) (fun Kn1 e h hk => by
  have F := Ag.nil (e := e)
  have ⟨out_5a, out_5n, out_5c, F, hk⟩ := eL F hk
  have ⟨end_7, F, hk⟩ := eI F hk
  exact ⟨(out_5a, out_5n, out_5c, end_7), F, hk⟩)
  (fun Kn1 => []) (fun Kn1 => [(16, fun e h => dL (e 0) fun l_0a l_0n l_0c => dS (e 1) fun s_1 => dS (e 6) fun low_6 => dI .i64 (e 7) fun end_7 => dL (e 20) fun t20a t20n t20c => dI .i64 (e 21) fun t21 => dL (e 5) fun out_5a out_5n out_5c => dI .i64 (e 22) fun t22 => LoopV (fun (s : (Option Addr) × Nat × Nat × Int) h Kn => automaton_Plain_l2 l_0a l_0n l_0c s_1 low_6 end_7 t20a t20n t20c t21 Q Kn1 s.1 s.2.1 s.2.2.1 s.2.2.2 h Kn) (out_5a, out_5n, out_5c, t22) h)])
  (fun Kn1 => trivial)
  (fun Kn1 => ⟨⟨by kernel_rfl, fun e h he hk => by
 have F := Ag.nil (e := e)
 have ⟨l_0a, l_0n, l_0c, F, hk⟩ := eL F hk
 have ⟨s_1, F, hk⟩ := eS F hk
 have ⟨low_6, F, hk⟩ := eS F hk
 have ⟨end_7, F, hk⟩ := eI F hk
 have ⟨t20a, t20n, t20c, F, hk⟩ := eL F hk
 have ⟨t21, F, hk⟩ := eI F hk
 have ⟨out_5a, out_5n, out_5c, F, hk⟩ := eL F hk
 have ⟨t22, F, hk⟩ := eI F hk
 exact loopU (s0 := (out_5a, out_5n, out_5c, t22)) follows (keep_sub (by kernel_rfl)) he F (fun s => [(22, .int .i64 s.2.2.2), (5, .slice s.1 s.2.1 s.2.2.1)]) (by kernel_rfl) (F.take 2) hk (fun Kn2 e h => dL (e 5) fun out_5a out_5n out_5c => dI .i64 (e 22) fun t22 => Kn2 (out_5a, out_5n, out_5c, t22) h) (fun Kn2 e h hk => by
  have F := Ag.nil (e := e)
  have ⟨out_5a, out_5n, out_5c, F, hk⟩ := eL F hk
  have ⟨t22, F, hk⟩ := eI F hk
  exact ⟨(out_5a, out_5n, out_5c, t22), F, hk⟩)
  (fun Kn2 => [(26, fun e h => dL (e 0) fun l_0a l_0n l_0c => dS (e 1) fun s_1 => dL (e 5) fun out_5a out_5n out_5c => dS (e 6) fun low_6 => dI .i64 (e 7) fun end_7 => dI .i64 (e 8) fun i_8 => dS (e 10) fun text_10 => dS (e 11) fun pattern_11 => dL (e 20) fun t20a t20n t20c => dI .i64 (e 21) fun t21 => dI .i64 (e 22) fun t22 => automaton_Plain_b3 l_0a l_0n l_0c s_1 out_5a out_5n out_5c low_6 end_7 i_8 text_10 pattern_11 t20a t20n t20c t21 t22 Q Kn1 Kn2 h)]) (fun Kn2 => [])
  (fun Kn2 => ⟨fun e h _ hk => by
 have F := Ag.nil (e := e)
 have ⟨l_0a, l_0n, l_0c, F, hk⟩ := eL F hk
 have ⟨s_1, F, hk⟩ := eS F hk
 have ⟨out_5a, out_5n, out_5c, F, hk⟩ := eL F hk
 have ⟨low_6, F, hk⟩ := eS F hk
 have ⟨end_7, F, hk⟩ := eI F hk
 have ⟨i_8, F, hk⟩ := eI F hk
 have ⟨text_10, F, hk⟩ := eS F hk
 have ⟨pattern_11, F, hk⟩ := eS F hk
 have ⟨t20a, t20n, t20c, F, hk⟩ := eL F hk
 have ⟨t21, F, hk⟩ := eI F hk
 have ⟨t22, F, hk⟩ := eI F hk
 exact cutU F (by as_aux_lemma => kernel_rfl) hk, trivial⟩)
  (fun Kn2 => trivial) (fun e s h Kn2 => by as_aux_lemma => kernel_rfl)⟩, trivial⟩) (fun e s h Kn1 => by as_aux_lemma => kernel_rfl)⟩, trivial⟩ (by as_aux_lemma => kernel_rfl) hk
/-! ### (*intrusion/automaton.Automaton).States -/
def automaton_Automaton_States_v (a_0 : Option Addr) (Q : QT) (h : Heap) : Prop :=
 if (Option.isNone a_0) = true then (Q (.int .i64 0) h) else (nn a_0 fun t6 => ldL h t6 fun t8a t8n t8c => Q (.int .i64 ((t8n : Nat) : Int)) h)
set_option maxRecDepth 100000 in
theorem automaton_Automaton_States_s (a_0 : Option Addr) {Q : QT} {h : Heap} (hk : automaton_Automaton_States_v a_0 Q h) : CallT Tryd.prog fn_automaton_Automaton_States #[.pointer a_0] h Q :=
 callU follows Tryd.func12 (Tryd.call12 _) rfl rfl [] []
 trivial
 trivial (by as_aux_lemma => kernel_rfl) hk
/-! ### slices.Clone[[]intrusion/api.Pattern,intrusion/api.Pattern] -/
def slices_Clone_api_Pattern_api_Pattern_v (s_0a : Option Addr) (s_0n s_0c : Nat) (Q : QT) (h : Heap) : Prop :=
 if (Option.isNone s_0a) = true then (Q (.slice none 0 0) h) else (alV h (.cells #[] T_api_Pattern) fun t5 h1 => bltV Tryd.prog .append #[T_sl_api_Pattern, T_sl_api_Pattern] T_sl_api_Pattern #[false, false] #[.slice (some t5) 0 0, .slice s_0a s_0n s_0c] h1 fun v h2 => ∃ t7a : Option Addr, ∃ t7n : Nat, ∃ t7c : Nat, v = .slice t7a t7n t7c ∧ Q (.slice t7a t7n t7c) h2)
set_option maxRecDepth 100000 in
theorem slices_Clone_api_Pattern_api_Pattern_s (s_0a : Option Addr) (s_0n s_0c : Nat) {Q : QT} {h : Heap} (hk : slices_Clone_api_Pattern_api_Pattern_v s_0a s_0n s_0c Q h) : CallT Tryd.prog fn_slices_Clone_api_Pattern_api_Pattern #[.slice s_0a s_0n s_0c] h Q :=
 callU follows Tryd.func13 (Tryd.call13 _) rfl rfl [] []
 trivial
 trivial (by as_aux_lemma => kernel_rfl) hk
/-! ### (*intrusion/automaton.Automaton).add -/
def automaton_Automaton_add_b2 (a_0 : Option Addr) (index_1 now_6 : Int) (Q : QT) (h : Heap) : Prop :=
 nn a_0 fun t61 => ldL h t61 fun t63a t63n t63c => nn a_0 fun t66 => ldL h t66 fun t68a t68n t68c => idxA now_6 t68n (nn t68a fun t70 => ldL h (Addr.add (Addr.add t70 ((now_6).toNat * 259)) 258) fun t72a t72n t72c => alV h (.cells #[.int .i64 index_1] T_int) fun t74 h6 => (ldL h6 t61 fun t963a t963n t963c => (.slice t963a t963n t963c : Value) = .slice t63a t63n t63c) ∧ (ldL h6 t66 fun t968a t968n t968c => (.slice t968a t968n t968c : Value) = .slice t68a t68n t68c) ∧ (ldL h6 (Addr.add (Addr.add t70 ((now_6).toNat * 259)) 258) fun t972a t972n t972c => (.slice t972a t972n t972c : Value) = .slice t72a t72n t72c) ∧ bltV Tryd.prog .append #[T_sl_int, T_sl_int] T_sl_int #[false, false] #[.slice t72a t72n t72c, .slice (some t74) 1 1] h6 fun v h7 => ∃ t75a : Option Addr, ∃ t75n : Nat, ∃ t75c : Nat, v = .slice t75a t75n t75c ∧ (ldL h7 t61 fun t963a t963n t963c => (.slice t963a t963n t963c : Value) = .slice t63a t63n t63c) ∧ idxA now_6 t63n (nn t63a fun t76 => st1 h7 (Addr.add (Addr.add t76 ((now_6).toNat * 259)) 258) (.slice t75a t75n t75c) fun h8 => Q (.tuple #[]) h8))
def automaton_Automaton_add_l1 (a_0 : Option Addr) (index_1 : Int) (s_2 : ByteArray) (t11 : Int) (Q : QT) (now_6 t12 : Int) (h : Heap) (Kn1 : Int × Int → Heap → Prop) : Prop :=
 if (decide (t12 < t11)) = true then (idxS s_2 t12 fun t17 => CallT Tryd.prog fn_automaton_small #[.int .u8 t17] h fun v h1 => ∃ t18 : Int, v = .int .u8 t18 ∧ nn a_0 fun t20 => ldL h1 t20 fun t22a t22n t22c => idxA now_6 t22n (nn t22a fun t25 => idxA t18 256 (ldI h1 (Addr.add (Addr.add t25 ((now_6).toNat * 259)) ((t18).toNat * 1)) .u16 fun t28 => if ((wrap .i64 t28) == 0) = true then (nn a_0 fun t33 => ldL h1 t33 fun t35a t35n t35c => nn a_0 fun t39 => ldL h1 t39 fun t41a t41n t41c => alV h1 (.cells #[.int .u16 0, .int .u16 0, .int .u16 0, .int .u16 0, .int .u16 0, .int .u16 0, .int .u16 0, .int .u16 0, .int .u16 0, .int .u16 0, .int .u16 0, .int .u16 0, .int .u16 0, .int .u16 0, .int .u16 0, .int .u16 0, .int .u16 0, .int .u16 0, .int .u16 0, .int .u16 0, .int .u16 0, .int .u16 0, .int .u16 0, .int .u16 0, .int .u16 0, .int .u16 0, .int .u16 0, .int .u16 0, .int .u16 0, .int .u16 0, .int .u16 0, .int .u16 0, .int .u16 0, .int .u16 0, .int .u16 0, .int .u16 0, .int .u16 0, .int .u16 0, .int .u16 0, .int .u16 0, .int .u16 0, .int .u16 0, .int .u16 0, .int .u16 0, .int .u16 0, .int .u16 0, .int .u16 0, .int .u16 0, .int .u16 0, .int .u16 0, .int .u16 0, .int .u16 0, .int .u16 0, .int .u16 0, .int .u16 0, .int .u16 0, .int .u16 0, .int .u16 0, .int .u16 0, .int .u16 0, .int .u16 0, .int .u16 0, .int .u16 0, .int .u16 0, .int .u16 0, .int .u16 0, .int .u16 0, .int .u16 0, .int .u16 0, .int .u16 0, .int .u16 0, .int .u16 0, .int .u16 0, .int .u16 0, .int .u16 0, .int .u16 0, .int .u16 0, .int .u16 0, .int .u16 0, .int .u16 0, .int .u16 0, .int .u16 0, .int .u16 0, .int .u16 0, .int .u16 0, .int .u16 0, .int .u16 0, .int .u16 0, .int .u16 0, .int .u16 0, .int .u16 0, .int .u16 0, .int .u16 0, .int .u16 0, .int .u16 0, .int .u16 0, .int .u16 0, .int .u16 0, .int .u16 0, .int .u16 0, .int .u16 0, .int .u16 0, .int .u16 0, .int .u16 0, .int .u16 0, .int .u16 0, .int .u16 0, .int .u16 0, .int .u16 0, .int .u16 0, .int .u16 0, .int .u16 0, .int .u16 0, .int .u16 0, .int .u16 0, .int .u16 0, .int .u16 0, .int .u16 0, .int .u16 0, .int .u16 0, .int .u16 0, .int .u16 0, .int .u16 0, .int .u16 0, .int .u16 0, .int .u16 0, .int .u16 0, .int .u16 0, .int .u16 0, .int .u16 0, .int .u16 0, .int .u16 0, .int .u16 0, .int .u16 0, .int .u16 0, .int .u16 0, .int .u16 0, .int .u16 0, .int .u16 0, .int .u16 0, .int .u16 0, .int .u16 0, .int .u16 0, .int .u16 0, .int .u16 0, .int .u16 0, .int .u16 0, .int .u16 0, .int .u16 0, .int .u16 0, .int .u16 0, .int .u16 0, .int .u16 0, .int .u16 0, .int .u16 0, .int .u16 0, .int .u16 0, .int .u16 0, .int .u16 0, .int .u16 0, .int .u16 0, .int .u16 0, .int .u16 0, .int .u16 0, .int .u16 0, .int .u16 0, .int .u16 0, .int .u16 0, .int .u16 0, .int .u16 0, .int .u16 0, .int .u16 0, .int .u16 0, .int .u16 0, .int .u16 0, .int .u16 0, .int .u16 0, .int .u16 0, .int .u16 0, .int .u16 0, .int .u16 0, .int .u16 0, .int .u16 0, .int .u16 0, .int .u16 0, .int .u16 0, .int .u16 0, .int .u16 0, .int .u16 0, .int .u16 0, .int .u16 0, .int .u16 0, .int .u16 0, .int .u16 0, .int .u16 0, .int .u16 0, .int .u16 0, .int .u16 0, .int .u16 0, .int .u16 0, .int .u16 0, .int .u16 0, .int .u16 0, .int .u16 0, .int .u16 0, .int .u16 0, .int .u16 0, .int .u16 0, .int .u16 0, .int .u16 0, .int .u16 0, .int .u16 0, .int .u16 0, .int .u16 0, .int .u16 0, .int .u16 0, .int .u16 0, .int .u16 0, .int .u16 0, .int .u16 0, .int .u16 0, .int .u16 0, .int .u16 0, .int .u16 0, .int .u16 0, .int .u16 0, .int .u16 0, .int .u16 0, .int .u16 0, .int .u16 0, .int .u16 0, .int .u16 0, .int .u16 0, .int .u16 0, .int .u16 0, .int .u16 0, .int .u16 0, .int .u16 0, .int .u16 0, .int .u16 0, .int .u16 0, .int .u16 0, .int .u16 0, .int .u16 0, .int .u16 0, .int .u16 0, .int .u16 0, .int .u16 0, .int .u16 0, .int .u16 0, .int .u16 0, .int .u16 0, .int .u16 0, .int .u16 0, .int .u16 0, .int .u16 0, .int .u16 0, .int .u16 0, .slice none 0 0] T_automaton_state) fun t43 h2 => bltV Tryd.prog .append #[T_sl_automaton_state, T_sl_automaton_state] T_sl_automaton_state #[false, false] #[.slice t41a t41n t41c, .slice (some t43) 1 1] h2 fun v h3 => ∃ t44a : Option Addr, ∃ t44n : Nat, ∃ t44c : Nat, v = .slice t44a t44n t44c ∧ nn a_0 fun t45 => st1 h3 t45 (.slice t44a t44n t44c) fun h4 => nn a_0 fun t48 => ldL h4 t48 fun t50a t50n t50c => idxA now_6 t50n (nn t50a fun t55 => idxA t18 256 (st1 h4 (Addr.add (Addr.add t55 ((now_6).toNat * 259)) ((t18).toNat * 1)) (.int .u16 (wrap .u16 ((t35n : Nat) : Int))) fun h5 => Kn1 (((t35n : Nat) : Int), wrap .i64 (t12 + 1)) h5))) else (Kn1 (wrap .i64 t28, wrap .i64 (t12 + 1)) h1)))) else (automaton_Automaton_add_b2 a_0 index_1 now_6 Q h)
def automaton_Automaton_add_v (a_0 : Option Addr) (index_1 : Int) (s_2 : ByteArray) (Q : QT) (h : Heap) : Prop :=
 LoopV (fun (s : Int × Int) h Kn => automaton_Automaton_add_l1 a_0 index_1 s_2 ((s_2.size : Nat) : Int) Q s.1 s.2 h Kn) (0, 0) h
set_option maxRecDepth 100000 in
theorem automaton_Automaton_add_s (a_0 : Option Addr) (index_1 : Int) (s_2 : ByteArray) {Q : QT} {h : Heap} (hk : automaton_Automaton_add_v a_0 index_1 s_2 Q h) : CallT Tryd.prog fn_automaton_Automaton_add #[.pointer a_0, .int .i64 index_1, .string s_2] h Q :=
 callU follows Tryd.func14 (Tryd.call14 _) rfl rfl [(26, fun e h => dP (e 0) fun a_0 => dI .i64 (e 1) fun index_1 => dI .i64 (e 6) fun now_6 => automaton_Automaton_add_b2 a_0 index_1 now_6 Q h)] [(6, fun e h => dP (e 0) fun a_0 => dI .i64 (e 1) fun index_1 => dS (e 2) fun s_2 => dI .i64 (e 11) fun t11 => dI .i64 (e 6) fun now_6 => dI .i64 (e 12) fun t12 => LoopV (fun (s : Int × Int) h Kn => automaton_Automaton_add_l1 a_0 index_1 s_2 t11 Q s.1 s.2 h Kn) (now_6, t12) h)]
 ⟨fun e h _ hk => by
 have F := Ag.nil (e := e)
 have ⟨a_0, F, hk⟩ := eP F hk
 have ⟨index_1, F, hk⟩ := eI F hk
 have ⟨now_6, F, hk⟩ := eI F hk
 exact cutU F (by as_aux_lemma => kernel_rfl) hk, trivial⟩
 ⟨⟨by kernel_rfl, fun e h he hk => by
 have F := Ag.nil (e := e)
 have ⟨a_0, F, hk⟩ := eP F hk
 have ⟨index_1, F, hk⟩ := eI F hk
 have ⟨s_2, F, hk⟩ := eS F hk
 have ⟨t11, F, hk⟩ := eI F hk
 have ⟨now_6, F, hk⟩ := eI F hk
 have ⟨t12, F, hk⟩ := eI F hk
 exact loopU (s0 := (now_6, t12)) follows (fun _ h => by cases h) he F (fun s => [(12, .int .i64 s.2), (6, .int .i64 s.1)]) (by kernel_rfl) (F.take 2) hk (fun Kn1 e h => dI .i64 (e 6) fun now_6 => dI .i64 (e 12) fun t12 => Kn1 (now_6, t12) h) (fun Kn1 e h hk => by
  have F := Ag.nil (e := e)
  have ⟨now_6, F, hk⟩ := eI F hk
  have ⟨t12, F, hk⟩ := eI F hk
  exact ⟨(now_6, t12), F, hk⟩)
  (fun Kn1 => []) (fun Kn1 => [])
  (fun Kn1 => trivial)
  (fun Kn1 => trivial) (fun e s h Kn1 => by as_aux_lemma => kernel_rfl)⟩, trivial⟩ (by as_aux_lemma => kernel_rfl) hk
/-! ### (*intrusion/automaton.Automaton).link -/
def automaton_Automaton_link_l5 (a_0 : Option Addr) (s_6 back_7 : Addr) (t73 : List Value) (Q : QT) (Kn3 : (Option Addr) × Nat × Nat → Heap → Prop) (queue_2a : Option Addr) (queue_2n queue_2c : Nat) (t74 : Int) (h : Heap) (Kn5 : (Option Addr) × Nat × Nat × Int → Heap → Prop) : Prop :=
 if (decide (t74 < 256)) = true then (idxA t74 256 (∃ v : Value, t73.toArray[(t74).toNat]? = some v ∧ ∃ t77 : Int, v = .int .u16 t77 ∧ if (t77 == 0) = true then (idxA t74 256 (ldI h (Addr.add back_7 ((t74).toNat * 1)) .u16 fun t87 => idxA t74 256 (st1 h (Addr.add s_6 ((t74).toNat * 1)) (.int .u16 t87) fun h5 => Kn5 (queue_2a, queue_2n, queue_2c, wrap .i64 (t74 + 1)) h5))) else (nn a_0 fun t92 => ldL h t92 fun t94a t94n t94c => idxA t74 256 (ldI h (Addr.add back_7 ((t74).toNat * 1)) .u16 fun t101 => idxA t77 t94n (nn t94a fun t102 => st1 h (Addr.add (Addr.add t102 ((t77).toNat * 259)) 256) (.int .u16 t101) fun h6 => alV h6 (.cells #[.int .u16 t77] T_uint16) fun t106 h7 => bltV Tryd.prog .append #[T_sl_uint16, T_sl_uint16] T_sl_uint16 #[false, false] #[.slice queue_2a queue_2n queue_2c, .slice (some t106) 1 1] h7 fun v h8 => ∃ t107a : Option Addr, ∃ t107n : Nat, ∃ t107c : Nat, v = .slice t107a t107n t107c ∧ Kn5 (t107a, t107n, t107c, wrap .i64 (t74 + 1)) h8))))) else (Kn3 (queue_2a, queue_2n, queue_2c) h)
def automaton_Automaton_link_b4 (a_0 queue_2a : Option Addr) (queue_2n queue_2c : Nat) (s_6 back_7 : Addr) (Q : QT) (Kn3 : (Option Addr) × Nat × Nat → Heap → Prop) (h : Heap) : Prop :=
 ldN h s_6 (kinds Tryd.prog 20 55) 0 fun t73 => LoopV (fun (s : (Option Addr) × Nat × Nat × Int) h Kn => automaton_Automaton_link_l5 a_0 s_6 back_7 t73 Q Kn3 s.1 s.2.1 s.2.2.1 s.2.2.2 h Kn) (queue_2a, queue_2n, queue_2c, 0) h
def automaton_Automaton_link_l3 (a_0 : Option Addr) (Q : QT) (queue_2a : Option Addr) (queue_2n queue_2c : Nat) (h : Heap) (Kn3 : (Option Addr) × Nat × Nat → Heap → Prop) : Prop :=
 if (decide (((queue_2n : Nat) : Int) > 0)) = true then (idxA (0 : Int) queue_2n (nn queue_2a fun t31 => ldI h (Addr.add t31 (((0 : Int)).toNat * 1)) .u16 fun t32 => sliceSl 1 queue_2a queue_2n queue_2c (some (1 : Int)) none none fun t34a t34n t34c => nn a_0 fun t36 => ldL h t36 fun t38a t38n t38c => idxA t32 t38n (nn t38a fun t40 => nn a_0 fun t42 => ldL h t42 fun t44a t44n t44c => ldI h (Addr.add (Addr.add t40 ((t32).toNat * 259)) 256) .u16 fun t48 => idxA t48 t44n (nn t44a fun t49 => ldI h (Addr.add (Addr.add t40 ((t32).toNat * 259)) 256) .u16 fun t54 => st1 h (Addr.add (Addr.add t40 ((t32).toNat * 259)) 257) (.int .u16 t54) fun h3 => ldL h3 (Addr.add (Addr.add t49 ((t48).toNat * 259)) 258) fun t60a t60n t60c => if (((t60n : Nat) : Int) == 0) = true then (ldI h3 (Addr.add (Addr.add t49 ((t48).toNat * 259)) 257) .u16 fun t67 => st1 h3 (Addr.add (Addr.add t40 ((t32).toNat * 259)) 257) (.int .u16 t67) fun h4 => automaton_Automaton_link_b4 a_0 t34a t34n t34c (Addr.add t40 ((t32).toNat * 259)) (Addr.add t49 ((t48).toNat * 259)) Q Kn3 h4) else (automaton_Automaton_link_b4 a_0 t34a t34n t34c (Addr.add t40 ((t32).toNat * 259)) (Addr.add t49 ((t48).toNat * 259)) Q Kn3 h3))))) else (Q (.tuple #[]) h)
def automaton_Automaton_link_b2 (a_0 queue_2a : Option Addr) (queue_2n queue_2c : Nat) (Q : QT) (h : Heap) : Prop :=
 LoopV (fun (s : (Option Addr) × Nat × Nat) h Kn => automaton_Automaton_link_l3 a_0 Q s.1 s.2.1 s.2.2 h Kn) (queue_2a, queue_2n, queue_2c) h
def automaton_Automaton_link_l1 (a_0 : Option Addr) (t16 : List Value) (Q : QT) (queue_2a : Option Addr) (queue_2n queue_2c : Nat) (t17 : Int) (h : Heap) (Kn1 : (Option Addr) × Nat × Nat × Int → Heap → Prop) : Prop :=
 if (decide (t17 < 256)) = true then (idxA t17 256 (∃ v : Value, t16.toArray[(t17).toNat]? = some v ∧ ∃ t19 : Int, v = .int .u16 t19 ∧ if (t19 != 0) = true then (alV h (.cells #[.int .u16 t19] T_uint16) fun t24 h1 => bltV Tryd.prog .append #[T_sl_uint16, T_sl_uint16] T_sl_uint16 #[false, false] #[.slice queue_2a queue_2n queue_2c, .slice (some t24) 1 1] h1 fun v h2 => ∃ t25a : Option Addr, ∃ t25n : Nat, ∃ t25c : Nat, v = .slice t25a t25n t25c ∧ Kn1 (t25a, t25n, t25c, wrap .i64 (t17 + 1)) h2) else (Kn1 (queue_2a, queue_2n, queue_2c, wrap .i64 (t17 + 1)) h))) else (automaton_Automaton_link_b2 a_0 queue_2a queue_2n queue_2c Q h)
def automaton_Automaton_link_v (a_0 : Option Addr) (Q : QT) (h : Heap) : Prop :=
 nn a_0 fun t11 => ldL h t11 fun t13a t13n t13c => idxA (0 : Int) t13n (nn t13a fun t14 => ldN h (Addr.add t14 (((0 : Int)).toNat * 259)) (kinds Tryd.prog 20 55) 0 fun t16 => LoopV (fun (s : (Option Addr) × Nat × Nat × Int) h Kn => automaton_Automaton_link_l1 a_0 t16 Q s.1 s.2.1 s.2.2.1 s.2.2.2 h Kn) (none, 0, 0, 0) h)
set_option maxRecDepth 100000 in
theorem automaton_Automaton_link_s (a_0 : Option Addr) {Q : QT} {h : Heap} (hk : automaton_Automaton_link_v a_0 Q h) : CallT Tryd.prog fn_automaton_Automaton_link #[.pointer a_0] h Q :=
 callU follows Tryd.func15 (Tryd.call15 _) rfl rfl [(16, fun e h => dP (e 0) fun a_0 => dL (e 2) fun queue_2a queue_2n queue_2c => automaton_Automaton_link_b2 a_0 queue_2a queue_2n queue_2c Q h)] [(6, fun e h => dP (e 0) fun a_0 => dG (e 16) fun t16 => dL (e 2) fun queue_2a queue_2n queue_2c => dI .i64 (e 17) fun t17 => LoopV (fun (s : (Option Addr) × Nat × Nat × Int) h Kn => automaton_Automaton_link_l1 a_0 t16 Q s.1 s.2.1 s.2.2.1 s.2.2.2 h Kn) (queue_2a, queue_2n, queue_2c, t17) h), (16, fun e h => dP (e 0) fun a_0 => dL (e 2) fun queue_2a queue_2n queue_2c => LoopV (fun (s : (Option Addr) × Nat × Nat) h Kn => automaton_Automaton_link_l3 a_0 Q s.1 s.2.1 s.2.2 h Kn) (queue_2a, queue_2n, queue_2c) h)]
 ⟨fun e h _ hk => by
 have F := Ag.nil (e := e)
 have ⟨a_0, F, hk⟩ := eP F hk
 have ⟨queue_2a, queue_2n, queue_2c, F, hk⟩ := eL F hk
 exact cutU F (by as_aux_lemma => kernel_rfl) hk, trivial⟩
 ⟨⟨by kernel_rfl, fun e h he hk => by
 have F := Ag.nil (e := e)
 have ⟨a_0, F, hk⟩ := eP F hk
 have ⟨t16, F, hk⟩ := eG F hk
 have ⟨queue_2a, queue_2n, queue_2c, F, hk⟩ := eL F hk
 have ⟨t17, F, hk⟩ := eI F hk
 exact loopU (s0 := (queue_2a, queue_2n, queue_2c, t17)) follows (fun _ h => by cases h) he F (fun s => [(17, .int .i64 s.2.2.2), (2, .slice s.1 s.2.1 s.2.2.1)]) (by kernel_rfl) (F.take 2) hk (fun Kn1 e h => dL (e 2) fun queue_2a queue_2n queue_2c => dI .i64 (e 17) fun t17 => Kn1 (queue_2a, queue_2n, queue_2c, t17) h) (fun Kn1 e h hk => by
  have F := Ag.nil (e := e)
  have ⟨queue_2a, queue_2n, queue_2c, F, hk⟩ := eL F hk
  have ⟨t17, F, hk⟩ := eI F hk
  exact ⟨(queue_2a, queue_2n, queue_2c, t17), F, hk⟩)
  (fun Kn1 => []) (fun Kn1 => [])
  (fun Kn1 => trivial)
  (fun Kn1 => trivial) (fun e s h Kn1 => by as_aux_lemma => kernel_rfl)⟩, ⟨by kernel_rfl, fun e h he hk => by
 have F := Ag.nil (e := e)
 have ⟨a_0, F, hk⟩ := eP F hk
 have ⟨queue_2a, queue_2n, queue_2c, F, hk⟩ := eL F hk
 exact loopU (s0 := (queue_2a, queue_2n, queue_2c)) follows (fun _ h => by cases h) he F (fun s => [(2, .slice s.1 s.2.1 s.2.2)]) (by kernel_rfl) (F.take 1) hk (fun Kn3 e h => dL (e 2) fun queue_2a queue_2n queue_2c => Kn3 (queue_2a, queue_2n, queue_2c) h) (fun Kn3 e h hk => by
  have F := Ag.nil (e := e)
  have ⟨queue_2a, queue_2n, queue_2c, F, hk⟩ := eL F hk
  exact ⟨(queue_2a, queue_2n, queue_2c), F, hk⟩)
  (fun Kn3 => [(32, fun e h => dP (e 0) fun a_0 => dL (e 2) fun queue_2a queue_2n queue_2c => dA (e 6) fun s_6 => dA (e 7) fun back_7 => automaton_Automaton_link_b4 a_0 queue_2a queue_2n queue_2c s_6 back_7 Q Kn3 h)]) (fun Kn3 => [(34, fun e h => dP (e 0) fun a_0 => dA (e 6) fun s_6 => dA (e 7) fun back_7 => dG (e 73) fun t73 => dL (e 2) fun queue_2a queue_2n queue_2c => dI .i64 (e 74) fun t74 => LoopV (fun (s : (Option Addr) × Nat × Nat × Int) h Kn => automaton_Automaton_link_l5 a_0 s_6 back_7 t73 Q Kn3 s.1 s.2.1 s.2.2.1 s.2.2.2 h Kn) (queue_2a, queue_2n, queue_2c, t74) h)])
  (fun Kn3 => ⟨fun e h _ hk => by
 have F := Ag.nil (e := e)
 have ⟨a_0, F, hk⟩ := eP F hk
 have ⟨queue_2a, queue_2n, queue_2c, F, hk⟩ := eL F hk
 have ⟨s_6, F, hk⟩ := eA F hk
 have ⟨back_7, F, hk⟩ := eA F hk
 exact cutU F (by as_aux_lemma => kernel_rfl) hk, trivial⟩)
  (fun Kn3 => ⟨⟨by kernel_rfl, fun e h he hk => by
 have F := Ag.nil (e := e)
 have ⟨a_0, F, hk⟩ := eP F hk
 have ⟨s_6, F, hk⟩ := eA F hk
 have ⟨back_7, F, hk⟩ := eA F hk
 have ⟨t73, F, hk⟩ := eG F hk
 have ⟨queue_2a, queue_2n, queue_2c, F, hk⟩ := eL F hk
 have ⟨t74, F, hk⟩ := eI F hk
 exact loopU (s0 := (queue_2a, queue_2n, queue_2c, t74)) follows (keep_sub (by kernel_rfl)) he F (fun s => [(74, .int .i64 s.2.2.2), (2, .slice s.1 s.2.1 s.2.2.1)]) (by kernel_rfl) (F.take 2) hk (fun Kn5 e h => dL (e 2) fun queue_2a queue_2n queue_2c => dI .i64 (e 74) fun t74 => Kn5 (queue_2a, queue_2n, queue_2c, t74) h) (fun Kn5 e h hk => by
  have F := Ag.nil (e := e)
  have ⟨queue_2a, queue_2n, queue_2c, F, hk⟩ := eL F hk
  have ⟨t74, F, hk⟩ := eI F hk
  exact ⟨(queue_2a, queue_2n, queue_2c, t74), F, hk⟩)
  (fun Kn5 => []) (fun Kn5 => [])
  (fun Kn5 => trivial)
  (fun Kn5 => trivial) (fun e s h Kn5 => by as_aux_lemma => kernel_rfl)⟩, trivial⟩) (fun e s h Kn3 => by as_aux_lemma => kernel_rfl)⟩, trivial⟩ (by as_aux_lemma => kernel_rfl) hk
/-! ### intrusion/transform.of -/
def transform_of_v (kind_0 : Int) (Q : QT) (h : Heap) : Prop :=
 if (kind_0 == 1) = true then (Q (.func (.func 22) #[] #[]) h) else (if (kind_0 == 2) = true then (Q (.func (.func 23) #[] #[]) h) else (if (kind_0 == 3) = true then (Q (.func (.func 24) #[] #[]) h) else (if (kind_0 == 4) = true then (Q (.func (.func 25) #[] #[]) h) else (if (kind_0 == 5) = true then (Q (.func (.func 26) #[] #[]) h) else (if (kind_0 == 6) = true then (Q (.func (.func 27) #[] #[]) h) else (Q (.func (.func 28) #[] #[]) h))))))
set_option maxRecDepth 100000 in
theorem transform_of_s (kind_0 : Int) {Q : QT} {h : Heap} (hk : transform_of_v kind_0 Q h) : CallT Tryd.prog fn_transform_of #[.int .i64 kind_0] h Q :=
 callU follows Tryd.func16 (Tryd.call16 _) rfl rfl [] []
 trivial
 trivial (by as_aux_lemma => kernel_rfl) hk
/-! ### (*intrusion/automaton.Automaton).Begin -/
def automaton_Automaton_Begin_v (a_0 : Option Addr) (Q : QT) (h : Heap) : Prop :=
 if (Option.isNone a_0) = true then (Q (.pointer none) h) else (alV h (.cells #[.pointer a_0, .int .u16 0, .int .i64 0, .slice none 0 0] T_automaton_Cursor) fun t7 h1 => Q (.pointer (some t7)) h1)
set_option maxRecDepth 100000 in
theorem automaton_Automaton_Begin_s (a_0 : Option Addr) {Q : QT} {h : Heap} (hk : automaton_Automaton_Begin_v a_0 Q h) : CallT Tryd.prog fn_automaton_Automaton_Begin #[.pointer a_0] h Q :=
 callU follows Tryd.func17 (Tryd.call17 _) rfl rfl [] []
 trivial
 trivial (by as_aux_lemma => kernel_rfl) hk
/-! ### (*intrusion/automaton.Cursor).Scan -/
def automaton_Cursor_Scan_l2 (c_0 : Option Addr) (s_1 : ByteArray) (t12 t13 : Int) (t20a : Option Addr) (t20n t20c : Nat) (t21 : Int) (Q : QT) (Kn1 : (Option Addr) × Nat × Nat × Int → Heap → Prop) (out_5a : Option Addr) (out_5n out_5c : Nat) (t22 : Int) (h : Heap) (Kn2 : (Option Addr) × Nat × Nat × Int → Heap → Prop) : Prop :=
 if (decide (t22 < t21)) = true then (idxA t22 t20n (nn t20a fun t24 => ldI h (Addr.add t24 ((t22).toNat * 1)) .i64 fun t25 => nn c_0 fun t29 => ldI h (Addr.add t29 2) .i64 fun t31 => alV h (.cells #[.int .i64 t25, .int .i64 t31] T_api_Hit) fun t33 h2 => bltV Tryd.prog .append #[T_sl_api_Hit, T_sl_api_Hit] T_sl_api_Hit #[false, false] #[.slice out_5a out_5n out_5c, .slice (some t33) 1 1] h2 fun v h3 => ∃ t34a : Option Addr, ∃ t34n : Nat, ∃ t34c : Nat, v = .slice t34a t34n t34c ∧ Kn2 (t34a, t34n, t34c, wrap .i64 (t22 + 1)) h3)) else (Kn1 (out_5a, out_5n, out_5c, wrap .i64 (t13 + 1)) h)
def automaton_Cursor_Scan_l1 (c_0 : Option Addr) (s_1 : ByteArray) (t12 : Int) (Q : QT) (out_5a : Option Addr) (out_5n out_5c : Nat) (t13 : Int) (h : Heap) (Kn1 : (Option Addr) × Nat × Nat × Int → Heap → Prop) : Prop :=
 if (decide (t13 < t12)) = true then (idxS s_1 t13 fun t19 => CallT Tryd.prog fn_automaton_Cursor_step #[.pointer c_0, .int .u8 t19] h fun v h1 => ∃ t20a : Option Addr, ∃ t20n : Nat, ∃ t20c : Nat, v = .slice t20a t20n t20c ∧ LoopV (fun (s : (Option Addr) × Nat × Nat × Int) h Kn => automaton_Cursor_Scan_l2 c_0 s_1 t12 t13 t20a t20n t20c ((t20n : Nat) : Int) Q Kn1 s.1 s.2.1 s.2.2.1 s.2.2.2 h Kn) (out_5a, out_5n, out_5c, 0) h1) else (Q (.slice out_5a out_5n out_5c) h)
def automaton_Cursor_Scan_v (c_0 : Option Addr) (s_1 : ByteArray) (Q : QT) (h : Heap) : Prop :=
 if (Option.isNone c_0) = true then (Q (.slice none 0 0) h) else (LoopV (fun (s : (Option Addr) × Nat × Nat × Int) h Kn => automaton_Cursor_Scan_l1 c_0 s_1 ((s_1.size : Nat) : Int) Q s.1 s.2.1 s.2.2.1 s.2.2.2 h Kn) (none, 0, 0, 0) h)
set_option maxRecDepth 100000 in
theorem automaton_Cursor_Scan_s (c_0 : Option Addr) (s_1 : ByteArray) {Q : QT} {h : Heap} (hk : automaton_Cursor_Scan_v c_0 s_1 Q h) : CallT Tryd.prog fn_automaton_Cursor_Scan #[.pointer c_0, .string s_1] h Q :=
 callU follows Tryd.func18 (Tryd.call18 _) rfl rfl [] [(12, fun e h => dP (e 0) fun c_0 => dS (e 1) fun s_1 => dI .i64 (e 12) fun t12 => dL (e 5) fun out_5a out_5n out_5c => dI .i64 (e 13) fun t13 => LoopV (fun (s : (Option Addr) × Nat × Nat × Int) h Kn => automaton_Cursor_Scan_l1 c_0 s_1 t12 Q s.1 s.2.1 s.2.2.1 s.2.2.2 h Kn) (out_5a, out_5n, out_5c, t13) h)]
 trivial
 ⟨⟨by kernel_rfl, fun e h he hk => by
 have F := Ag.nil (e := e)
 have ⟨c_0, F, hk⟩ := eP F hk
 have ⟨s_1, F, hk⟩ := eS F hk
 have ⟨t12, F, hk⟩ := eI F hk
 have ⟨out_5a, out_5n, out_5c, F, hk⟩ := eL F hk
 have ⟨t13, F, hk⟩ := eI F hk
 exact loopU (s0 := (out_5a, out_5n, out_5c, t13)) follows (fun _ h => by cases h) he F (fun s => [(13, .int .i64 s.2.2.2), (5, .slice s.1 s.2.1 s.2.2.1)]) (by kernel_rfl) (F.take 2) hk (fun Kn1 e h => dL (e 5) fun out_5a out_5n out_5c => dI .i64 (e 13) fun t13 => Kn1 (out_5a, out_5n, out_5c, t13) h) (fun Kn1 e h hk => by
  have F := Ag.nil (e := e)
  have ⟨out_5a, out_5n, out_5c, F, hk⟩ := eL F hk
  have ⟨t13, F, hk⟩ := eI F hk
  exact ⟨(out_5a, out_5n, out_5c, t13), F, hk⟩)
  (fun Kn1 => []) (fun Kn1 => [(18, fun e h => dP (e 0) fun c_0 => dS (e 1) fun s_1 => dI .i64 (e 12) fun t12 => dI .i64 (e 13) fun t13 => dL (e 20) fun t20a t20n t20c => dI .i64 (e 21) fun t21 => dL (e 5) fun out_5a out_5n out_5c => dI .i64 (e 22) fun t22 => LoopV (fun (s : (Option Addr) × Nat × Nat × Int) h Kn => automaton_Cursor_Scan_l2 c_0 s_1 t12 t13 t20a t20n t20c t21 Q Kn1 s.1 s.2.1 s.2.2.1 s.2.2.2 h Kn) (out_5a, out_5n, out_5c, t22) h)])
  (fun Kn1 => trivial)
  (fun Kn1 => ⟨⟨by kernel_rfl, fun e h he hk => by
 have F := Ag.nil (e := e)
 have ⟨c_0, F, hk⟩ := eP F hk
 have ⟨s_1, F, hk⟩ := eS F hk
 have ⟨t12, F, hk⟩ := eI F hk
 have ⟨t13, F, hk⟩ := eI F hk
 have ⟨t20a, t20n, t20c, F, hk⟩ := eL F hk
 have ⟨t21, F, hk⟩ := eI F hk
 have ⟨out_5a, out_5n, out_5c, F, hk⟩ := eL F hk
 have ⟨t22, F, hk⟩ := eI F hk
 exact loopU (s0 := (out_5a, out_5n, out_5c, t22)) follows (keep_sub (by kernel_rfl)) he F (fun s => [(22, .int .i64 s.2.2.2), (5, .slice s.1 s.2.1 s.2.2.1)]) (by kernel_rfl) (F.take 2) hk (fun Kn2 e h => dL (e 5) fun out_5a out_5n out_5c => dI .i64 (e 22) fun t22 => Kn2 (out_5a, out_5n, out_5c, t22) h) (fun Kn2 e h hk => by
  have F := Ag.nil (e := e)
  have ⟨out_5a, out_5n, out_5c, F, hk⟩ := eL F hk
  have ⟨t22, F, hk⟩ := eI F hk
  exact ⟨(out_5a, out_5n, out_5c, t22), F, hk⟩)
  (fun Kn2 => []) (fun Kn2 => [])
  (fun Kn2 => trivial)
  (fun Kn2 => trivial) (fun e s h Kn2 => by as_aux_lemma => kernel_rfl)⟩, trivial⟩) (fun e s h Kn1 => by as_aux_lemma => kernel_rfl)⟩, trivial⟩ (by as_aux_lemma => kernel_rfl) hk
/-! ### intrusion/automaton.lower -/
def automaton_lower_l1 (out_3a : Option Addr) (out_3n out_3c : Nat) (t8a : Option Addr) (t8n t8c : Nat) (t9 : Int) (Q : QT) (t10 : Int) (h : Heap) (Kn1 : Int → Heap → Prop) : Prop :=
 if (decide (t10 < t9)) = true then (idxA t10 t8n (nn t8a fun t13 => ldI h (Addr.add t13 ((t10).toNat * 1)) .u8 fun t14 => CallT Tryd.prog fn_automaton_small #[.int .u8 t14] h fun v h2 => ∃ t18 : Int, v = .int .u8 t18 ∧ idxA t10 out_3n (nn out_3a fun t19 => st1 h2 (Addr.add t19 ((t10).toNat * 1)) (.int .u8 t18) fun h3 => Kn1 (wrap .i64 (t10 + 1)) h3))) else (convV Tryd.prog T_sl_uint8 T_string (.slice out_3a out_3n out_3c) h fun v h4 => ∃ t22 : ByteArray, v = .string t22 ∧ Q (.string t22) h4)
def automaton_lower_v (s_0 : ByteArray) (Q : QT) (h : Heap) : Prop :=
 convV Tryd.prog T_string T_sl_uint8 (.string s_0) h fun v h1 => ∃ t7a : Option Addr, ∃ t7n : Nat, ∃ t7c : Nat, v = .slice t7a t7n t7c ∧ LoopV (fun (s : Int) h Kn => automaton_lower_l1 t7a t7n t7c t7a t7n t7c ((t7n : Nat) : Int) Q s h Kn) 0 h1
set_option maxRecDepth 100000 in
theorem automaton_lower_s (s_0 : ByteArray) {Q : QT} {h : Heap} (hk : automaton_lower_v s_0 Q h) : CallT Tryd.prog fn_automaton_lower #[.string s_0] h Q :=
 callU follows Tryd.func19 (Tryd.call19 _) rfl rfl [] [(8, fun e h => dL (e 3) fun out_3a out_3n out_3c => dL (e 8) fun t8a t8n t8c => dI .i64 (e 9) fun t9 => dI .i64 (e 10) fun t10 => LoopV (fun (s : Int) h Kn => automaton_lower_l1 out_3a out_3n out_3c t8a t8n t8c t9 Q s h Kn) t10 h)]
 trivial
 ⟨⟨by kernel_rfl, fun e h he hk => by
 have F := Ag.nil (e := e)
 have ⟨out_3a, out_3n, out_3c, F, hk⟩ := eL F hk
 have ⟨t8a, t8n, t8c, F, hk⟩ := eL F hk
 have ⟨t9, F, hk⟩ := eI F hk
 have ⟨t10, F, hk⟩ := eI F hk
 exact loopU (s0 := t10) follows (fun _ h => by cases h) he F (fun s => [(10, .int .i64 s)]) (by kernel_rfl) (F.take 1) hk (fun Kn1 e h => dI .i64 (e 10) fun t10 => Kn1 t10 h) (fun Kn1 e h hk => by
  have F := Ag.nil (e := e)
  have ⟨t10, F, hk⟩ := eI F hk
  exact ⟨t10, F, hk⟩)
  (fun Kn1 => []) (fun Kn1 => [])
  (fun Kn1 => trivial)
  (fun Kn1 => trivial) (fun e s h Kn1 => by as_aux_lemma => kernel_rfl)⟩, trivial⟩ (by as_aux_lemma => kernel_rfl) hk
/-! ### strings.HasSuffix -/
def strings_HasSuffix_v (s_0 suffix_1 : ByteArray) (Q : QT) (h : Heap) : Prop :=
 CallT Tryd.prog fn_internal_stringslite_HasSuffix #[.string s_0, .string suffix_1] h fun v h1 => ∃ t7 : Bool, v = .bool t7 ∧ Q (.bool t7) h1
set_option maxRecDepth 100000 in
theorem strings_HasSuffix_s (s_0 suffix_1 : ByteArray) {Q : QT} {h : Heap} (hk : strings_HasSuffix_v s_0 suffix_1 Q h) : CallT Tryd.prog fn_strings_HasSuffix #[.string s_0, .string suffix_1] h Q :=
 callU follows Tryd.func20 (Tryd.call20 _) rfl rfl [] []
 trivial
 trivial (by as_aux_lemma => kernel_rfl) hk
/-! ### intrusion/automaton.small -/
def automaton_small_v (c_0 : Int) (Q : QT) (h : Heap) : Prop :=
 if (decide (65 ≤ c_0)) = true then (if (decide (c_0 ≤ 90)) = true then (Q (.int .u8 (wrap .u8 ((wrap .u8 (c_0 + 97)) - 65))) h) else (Q (.int .u8 c_0) h)) else (Q (.int .u8 c_0) h)
set_option maxRecDepth 100000 in
theorem automaton_small_s (c_0 : Int) {Q : QT} {h : Heap} (hk : automaton_small_v c_0 Q h) : CallT Tryd.prog fn_automaton_small #[.int .u8 c_0] h Q :=
 callU follows Tryd.func21 (Tryd.call21 _) rfl rfl [] []
 trivial
 trivial (by as_aux_lemma => kernel_rfl) hk
/-! ### (intrusion/transform.text).lower -/
def transform_text_lower_l1 (out_3a : Option Addr) (out_3n out_3c : Nat) (t8a : Option Addr) (t8n t8c : Nat) (t9 : Int) (Q : QT) (t10 : Int) (h : Heap) (Kn1 : Int → Heap → Prop) : Prop :=
 if (decide (t10 < t9)) = true then (idxA t10 t8n (nn t8a fun t13 => ldI h (Addr.add t13 ((t10).toNat * 1)) .u8 fun t14 => if (decide (65 ≤ t14)) = true then (if (decide (t14 ≤ 90)) = true then (idxA t10 out_3n (nn out_3a fun t26 => st1 h (Addr.add t26 ((t10).toNat * 1)) (.int .u8 (wrap .u8 ((wrap .u8 (t14 + 97)) - 65))) fun h2 => Kn1 (wrap .i64 (t10 + 1)) h2)) else (Kn1 (wrap .i64 (t10 + 1)) h)) else (Kn1 (wrap .i64 (t10 + 1)) h))) else (convV Tryd.prog T_sl_uint8 T_string (.slice out_3a out_3n out_3c) h fun v h3 => ∃ t29 : ByteArray, v = .string t29 ∧ Q (.string t29) h3)
def transform_text_lower_v (t_0 : ByteArray) (Q : QT) (h : Heap) : Prop :=
 convV Tryd.prog T_transform_text T_sl_uint8 (.string t_0) h fun v h1 => ∃ t7a : Option Addr, ∃ t7n : Nat, ∃ t7c : Nat, v = .slice t7a t7n t7c ∧ LoopV (fun (s : Int) h Kn => transform_text_lower_l1 t7a t7n t7c t7a t7n t7c ((t7n : Nat) : Int) Q s h Kn) 0 h1
set_option maxRecDepth 100000 in
theorem transform_text_lower_s (t_0 : ByteArray) {Q : QT} {h : Heap} (hk : transform_text_lower_v t_0 Q h) : CallT Tryd.prog fn_transform_text_lower #[.string t_0] h Q :=
 callU follows Tryd.func22 (Tryd.call22 _) rfl rfl [] [(8, fun e h => dL (e 3) fun out_3a out_3n out_3c => dL (e 8) fun t8a t8n t8c => dI .i64 (e 9) fun t9 => dI .i64 (e 10) fun t10 => LoopV (fun (s : Int) h Kn => transform_text_lower_l1 out_3a out_3n out_3c t8a t8n t8c t9 Q s h Kn) t10 h)]
 trivial
 ⟨⟨by kernel_rfl, fun e h he hk => by
 have F := Ag.nil (e := e)
 have ⟨out_3a, out_3n, out_3c, F, hk⟩ := eL F hk
 have ⟨t8a, t8n, t8c, F, hk⟩ := eL F hk
 have ⟨t9, F, hk⟩ := eI F hk
 have ⟨t10, F, hk⟩ := eI F hk
 exact loopU (s0 := t10) follows (fun _ h => by cases h) he F (fun s => [(10, .int .i64 s)]) (by kernel_rfl) (F.take 1) hk (fun Kn1 e h => dI .i64 (e 10) fun t10 => Kn1 t10 h) (fun Kn1 e h hk => by
  have F := Ag.nil (e := e)
  have ⟨t10, F, hk⟩ := eI F hk
  exact ⟨t10, F, hk⟩)
  (fun Kn1 => []) (fun Kn1 => [])
  (fun Kn1 => trivial)
  (fun Kn1 => trivial) (fun e s h Kn1 => by as_aux_lemma => kernel_rfl)⟩, trivial⟩ (by as_aux_lemma => kernel_rfl) hk
/-! ### (intrusion/transform.text).strip -/
def transform_text_strip_b2 (t_0 : ByteArray) (out_3a : Option Addr) (out_3n out_3c : Nat) (i_4 t6 t7 : Int) (Q : QT) (Kn1 : (Option Addr) × Nat × Nat × Int → Heap → Prop) (h : Heap) : Prop :=
 idxS t_0 i_4 fun t16 => alV h (.cells #[.int .u8 t16] T_uint8) fun t17 h2 => bltV Tryd.prog .append #[T_sl_uint8, T_sl_uint8] T_sl_uint8 #[false, false] #[.slice out_3a out_3n out_3c, .slice (some t17) 1 1] h2 fun v h3 => ∃ t18a : Option Addr, ∃ t18n : Nat, ∃ t18c : Nat, v = .slice t18a t18n t18c ∧ Kn1 (t18a, t18n, t18c, wrap .i64 (t7 + 1)) h3
def transform_text_strip_l1 (t_0 : ByteArray) (t6 : Int) (Q : QT) (out_3a : Option Addr) (out_3n out_3c : Nat) (t7 : Int) (h : Heap) (Kn1 : (Option Addr) × Nat × Nat × Int → Heap → Prop) : Prop :=
 if (decide (t7 < t6)) = true then (idxS t_0 t7 fun t12 => if (t12 == 9) = true then (if (t12 == 9) = true then (Kn1 (out_3a, out_3n, out_3c, wrap .i64 (t7 + 1)) h) else (transform_text_strip_b2 t_0 out_3a out_3n out_3c t7 t6 t7 Q Kn1 h)) else (if (t12 == 10) = true then (if (t12 == 10) = true then (Kn1 (out_3a, out_3n, out_3c, wrap .i64 (t7 + 1)) h) else (transform_text_strip_b2 t_0 out_3a out_3n out_3c t7 t6 t7 Q Kn1 h)) else (if (t12 == 13) = true then (if (t12 == 13) = true then (Kn1 (out_3a, out_3n, out_3c, wrap .i64 (t7 + 1)) h) else (transform_text_strip_b2 t_0 out_3a out_3n out_3c t7 t6 t7 Q Kn1 h)) else (if (t12 == 32) = true then (Kn1 (out_3a, out_3n, out_3c, wrap .i64 (t7 + 1)) h) else (transform_text_strip_b2 t_0 out_3a out_3n out_3c t7 t6 t7 Q Kn1 h))))) else (convV Tryd.prog T_sl_uint8 T_string (.slice out_3a out_3n out_3c) h fun v h1 => ∃ t26 : ByteArray, v = .string t26 ∧ Q (.string t26) h1)
def transform_text_strip_v (t_0 : ByteArray) (Q : QT) (h : Heap) : Prop :=
 LoopV (fun (s : (Option Addr) × Nat × Nat × Int) h Kn => transform_text_strip_l1 t_0 ((t_0.size : Nat) : Int) Q s.1 s.2.1 s.2.2.1 s.2.2.2 h Kn) (none, 0, 0, 0) h
set_option maxRecDepth 100000 in
theorem transform_text_strip_s (t_0 : ByteArray) {Q : QT} {h : Heap} (hk : transform_text_strip_v t_0 Q h) : CallT Tryd.prog fn_transform_text_strip #[.string t_0] h Q :=
 callU follows Tryd.func23 (Tryd.call23 _) rfl rfl [] [(8, fun e h => dS (e 0) fun t_0 => dI .i64 (e 6) fun t6 => dL (e 3) fun out_3a out_3n out_3c => dI .i64 (e 7) fun t7 => LoopV (fun (s : (Option Addr) × Nat × Nat × Int) h Kn => transform_text_strip_l1 t_0 t6 Q s.1 s.2.1 s.2.2.1 s.2.2.2 h Kn) (out_3a, out_3n, out_3c, t7) h)]
 trivial
 ⟨⟨by kernel_rfl, fun e h he hk => by
 have F := Ag.nil (e := e)
 have ⟨t_0, F, hk⟩ := eS F hk
 have ⟨t6, F, hk⟩ := eI F hk
 have ⟨out_3a, out_3n, out_3c, F, hk⟩ := eL F hk
 have ⟨t7, F, hk⟩ := eI F hk
 exact loopU (s0 := (out_3a, out_3n, out_3c, t7)) follows (fun _ h => by cases h) he F (fun s => [(7, .int .i64 s.2.2.2), (3, .slice s.1 s.2.1 s.2.2.1)]) (by kernel_rfl) (F.take 2) hk (fun Kn1 e h => dL (e 3) fun out_3a out_3n out_3c => dI .i64 (e 7) fun t7 => Kn1 (out_3a, out_3n, out_3c, t7) h) (fun Kn1 e h hk => by
  have F := Ag.nil (e := e)
  have ⟨out_3a, out_3n, out_3c, F, hk⟩ := eL F hk
  have ⟨t7, F, hk⟩ := eI F hk
  exact ⟨(out_3a, out_3n, out_3c, t7), F, hk⟩)
  (fun Kn1 => [(15, fun e h => dS (e 0) fun t_0 => dL (e 3) fun out_3a out_3n out_3c => dI .i64 (e 4) fun i_4 => dI .i64 (e 6) fun t6 => dI .i64 (e 7) fun t7 => transform_text_strip_b2 t_0 out_3a out_3n out_3c i_4 t6 t7 Q Kn1 h)]) (fun Kn1 => [])
  (fun Kn1 => ⟨fun e h _ hk => by
 have F := Ag.nil (e := e)
 have ⟨t_0, F, hk⟩ := eS F hk
 have ⟨out_3a, out_3n, out_3c, F, hk⟩ := eL F hk
 have ⟨i_4, F, hk⟩ := eI F hk
 have ⟨t6, F, hk⟩ := eI F hk
 have ⟨t7, F, hk⟩ := eI F hk
 exact cutU F (by as_aux_lemma => kernel_rfl) hk, trivial⟩)
  (fun Kn1 => trivial) (fun e s h Kn1 => by as_aux_lemma => kernel_rfl)⟩, trivial⟩ (by as_aux_lemma => kernel_rfl) hk
/-! ### (intrusion/transform.text).percent -/
def transform_text_percent_b2 (t_0 : ByteArray) (out_3a : Option Addr) (out_3n out_3c : Nat) (i_4 : Int) (Q : QT) (Kn1 : (Option Addr) × Nat × Nat × Int → Heap → Prop) (h : Heap) : Prop :=
 idxS t_0 i_4 fun t53 => alV h (.cells #[.int .u8 t53] T_uint8) fun t54 h6 => bltV Tryd.prog .append #[T_sl_uint8, T_sl_uint8] T_sl_uint8 #[false, false] #[.slice out_3a out_3n out_3c, .slice (some t54) 1 1] h6 fun v h7 => ∃ t55a : Option Addr, ∃ t55n : Nat, ∃ t55c : Nat, v = .slice t55a t55n t55c ∧ Kn1 (t55a, t55n, t55c, wrap .i64 (i_4 + 1)) h7
def transform_text_percent_l1 (t_0 : ByteArray) (Q : QT) (out_3a : Option Addr) (out_3n out_3c : Nat) (i_4 : Int) (h : Heap) (Kn1 : (Option Addr) × Nat × Nat × Int → Heap → Prop) : Prop :=
 if (decide (i_4 < ((t_0.size : Nat) : Int))) = true then (idxS t_0 i_4 fun t15 => if (t15 == 37) = true then (if (decide ((wrap .i64 (((t_0.size : Nat) : Int) - i_4)) > 2)) = true then (idxS t_0 (wrap .i64 (i_4 + 1)) fun t27 => idxS t_0 (wrap .i64 (i_4 + 2)) fun t32 => CallT Tryd.prog fn_transform_digit #[.int .u8 t27] h fun v h1 => ∃ t28 : Int, v = .int .i64 t28 ∧ CallT Tryd.prog fn_transform_digit #[.int .u8 t32] h1 fun v h2 => ∃ t33 : Int, v = .int .i64 t33 ∧ if (decide (t28 ≥ 0)) = true then (if (decide (t33 ≥ 0)) = true then (alV h2 (.cells #[.int .u8 (wrap .u8 (wrap .i64 ((wrap .i64 (16 * t28)) + t33)))] T_uint8) fun t46 h3 => bltV Tryd.prog .append #[T_sl_uint8, T_sl_uint8] T_sl_uint8 #[false, false] #[.slice out_3a out_3n out_3c, .slice (some t46) 1 1] h3 fun v h4 => ∃ t47a : Option Addr, ∃ t47n : Nat, ∃ t47c : Nat, v = .slice t47a t47n t47c ∧ Kn1 (t47a, t47n, t47c, wrap .i64 ((wrap .i64 (i_4 + 2)) + 1)) h4) else (transform_text_percent_b2 t_0 out_3a out_3n out_3c i_4 Q Kn1 h2)) else (transform_text_percent_b2 t_0 out_3a out_3n out_3c i_4 Q Kn1 h2)) else (transform_text_percent_b2 t_0 out_3a out_3n out_3c i_4 Q Kn1 h)) else (transform_text_percent_b2 t_0 out_3a out_3n out_3c i_4 Q Kn1 h)) else (convV Tryd.prog T_sl_uint8 T_string (.slice out_3a out_3n out_3c) h fun v h5 => ∃ t57 : ByteArray, v = .string t57 ∧ Q (.string t57) h5)
def transform_text_percent_v (t_0 : ByteArray) (Q : QT) (h : Heap) : Prop :=
 LoopV (fun (s : (Option Addr) × Nat × Nat × Int) h Kn => transform_text_percent_l1 t_0 Q s.1 s.2.1 s.2.2.1 s.2.2.2 h Kn) (none, 0, 0, 0) h
set_option maxRecDepth 100000 in
theorem transform_text_percent_s (t_0 : ByteArray) {Q : QT} {h : Heap} (hk : transform_text_percent_v t_0 Q h) : CallT Tryd.prog fn_transform_text_percent #[.string t_0] h Q :=
 callU follows Tryd.func24 (Tryd.call24 _) rfl rfl [] [(8, fun e h => dS (e 0) fun t_0 => dL (e 3) fun out_3a out_3n out_3c => dI .i64 (e 4) fun i_4 => LoopV (fun (s : (Option Addr) × Nat × Nat × Int) h Kn => transform_text_percent_l1 t_0 Q s.1 s.2.1 s.2.2.1 s.2.2.2 h Kn) (out_3a, out_3n, out_3c, i_4) h)]
 trivial
 ⟨⟨by kernel_rfl, fun e h he hk => by
 have F := Ag.nil (e := e)
 have ⟨t_0, F, hk⟩ := eS F hk
 have ⟨out_3a, out_3n, out_3c, F, hk⟩ := eL F hk
 have ⟨i_4, F, hk⟩ := eI F hk
 exact loopU (s0 := (out_3a, out_3n, out_3c, i_4)) follows (fun _ h => by cases h) he F (fun s => [(4, .int .i64 s.2.2.2), (3, .slice s.1 s.2.1 s.2.2.1)]) (by kernel_rfl) (F.take 2) hk (fun Kn1 e h => dL (e 3) fun out_3a out_3n out_3c => dI .i64 (e 4) fun i_4 => Kn1 (out_3a, out_3n, out_3c, i_4) h) (fun Kn1 e h hk => by
  have F := Ag.nil (e := e)
  have ⟨out_3a, out_3n, out_3c, F, hk⟩ := eL F hk
  have ⟨i_4, F, hk⟩ := eI F hk
  exact ⟨(out_3a, out_3n, out_3c, i_4), F, hk⟩)
  (fun Kn1 => [(22, fun e h => dS (e 0) fun t_0 => dL (e 3) fun out_3a out_3n out_3c => dI .i64 (e 4) fun i_4 => transform_text_percent_b2 t_0 out_3a out_3n out_3c i_4 Q Kn1 h)]) (fun Kn1 => [])
  (fun Kn1 => ⟨fun e h _ hk => by
 have F := Ag.nil (e := e)
 have ⟨t_0, F, hk⟩ := eS F hk
 have ⟨out_3a, out_3n, out_3c, F, hk⟩ := eL F hk
 have ⟨i_4, F, hk⟩ := eI F hk
 exact cutU F (by as_aux_lemma => kernel_rfl) hk, trivial⟩)
  (fun Kn1 => trivial) (fun e s h Kn1 => by as_aux_lemma => kernel_rfl)⟩, trivial⟩ (by as_aux_lemma => kernel_rfl) hk
/-! ### (intrusion/transform.text).base64 -/
def transform_text_base64_l1 (t_0 : ByteArray) (t9 : Int) (Q : QT) (out_3a : Option Addr) (out_3n out_3c : Nat) (bits_4 n_5 t10 : Int) (h : Heap) (Kn1 : (Option Addr) × Nat × Nat × Int × Int × Int → Heap → Prop) : Prop :=
 if (decide (t10 < t9)) = true then (idxS t_0 t10 fun t15 => if (t15 == 61) = true then (convV Tryd.prog T_sl_uint8 T_string (.slice out_3a out_3n out_3c) h fun v h1 => ∃ t47 : ByteArray, v = .string t47 ∧ Q (.string t47) h1) else (idxS t_0 t10 fun t19 => CallT Tryd.prog fn_strings_IndexByte #[.string (⟨#[65, 66, 67, 68, 69, 70, 71, 72, 73, 74, 75, 76, 77, 78, 79, 80, 81, 82, 83, 84, 85, 86, 87, 88, 89, 90, 97, 98, 99, 100, 101, 102, 103, 104, 105, 106, 107, 108, 109, 110, 111, 112, 113, 114, 115, 116, 117, 118, 119, 120, 121, 122, 48, 49, 50, 51, 52, 53, 54, 55, 56, 57, 43, 47]⟩ : ByteArray), .int .u8 t19] h fun v h2 => ∃ t20 : Int, v = .int .i64 t20 ∧ if (decide (t20 < 0)) = true then (Kn1 (out_3a, out_3n, out_3c, bits_4, n_5, wrap .i64 (t10 + 1)) h2) else (0 ≤ (6 : Int) ∧ if (decide ((wrap .i64 (n_5 + 6)) ≥ 8)) = true then (0 ≤ (wrap .i64 ((wrap .i64 (n_5 + 6)) - 8)) ∧ alV h2 (.cells #[.int .u8 (wrap .u8 (Int.fdiv (wrap .i64 (BitVec.toNat (BitVec.ofInt (IntKind.bits .i64) (wrap .i64 (bits_4 * 2 ^ (min (Int.toNat 6) (IntKind.bits .i64)))) ||| BitVec.ofInt (IntKind.bits .i64) t20) : Int)) (2 ^ (min (Int.toNat (wrap .i64 ((wrap .i64 (n_5 + 6)) - 8))) (IntKind.bits .i64)))))] T_uint8) fun t38 h3 => bltV Tryd.prog .append #[T_sl_uint8, T_sl_uint8] T_sl_uint8 #[false, false] #[.slice out_3a out_3n out_3c, .slice (some t38) 1 1] h3 fun v h4 => ∃ t39a : Option Addr, ∃ t39n : Nat, ∃ t39c : Nat, v = .slice t39a t39n t39c ∧ 0 ≤ (wrap .i64 ((wrap .i64 (n_5 + 6)) - 8)) ∧ Kn1 (t39a, t39n, t39c, wrap .i64 (BitVec.toNat (BitVec.ofInt (IntKind.bits .i64) (wrap .i64 (BitVec.toNat (BitVec.ofInt (IntKind.bits .i64) (wrap .i64 (bits_4 * 2 ^ (min (Int.toNat 6) (IntKind.bits .i64)))) ||| BitVec.ofInt (IntKind.bits .i64) t20) : Int)) &&& BitVec.ofInt (IntKind.bits .i64) (wrap .i64 ((wrap .i64 (1 * 2 ^ (min (Int.toNat (wrap .i64 ((wrap .i64 (n_5 + 6)) - 8))) (IntKind.bits .i64)))) - 1))) : Int), wrap .i64 ((wrap .i64 (n_5 + 6)) - 8), wrap .i64 (t10 + 1)) h4) else (Kn1 (out_3a, out_3n, out_3c, wrap .i64 (BitVec.toNat (BitVec.ofInt (IntKind.bits .i64) (wrap .i64 (bits_4 * 2 ^ (min (Int.toNat 6) (IntKind.bits .i64)))) ||| BitVec.ofInt (IntKind.bits .i64) t20) : Int), wrap .i64 (n_5 + 6), wrap .i64 (t10 + 1)) h2)))) else (convV Tryd.prog T_sl_uint8 T_string (.slice out_3a out_3n out_3c) h fun v h5 => ∃ t47 : ByteArray, v = .string t47 ∧ Q (.string t47) h5)
def transform_text_base64_v (t_0 : ByteArray) (Q : QT) (h : Heap) : Prop :=
 LoopV (fun (s : (Option Addr) × Nat × Nat × Int × Int × Int) h Kn => transform_text_base64_l1 t_0 ((t_0.size : Nat) : Int) Q s.1 s.2.1 s.2.2.1 s.2.2.2.1 s.2.2.2.2.1 s.2.2.2.2.2 h Kn) (none, 0, 0, 0, 0, 0) h
set_option maxRecDepth 100000 in
theorem transform_text_base64_s (t_0 : ByteArray) {Q : QT} {h : Heap} (hk : transform_text_base64_v t_0 Q h) : CallT Tryd.prog fn_transform_text_base64 #[.string t_0] h Q :=
 callU follows Tryd.func25 (Tryd.call25 _) rfl rfl [] [(10, fun e h => dS (e 0) fun t_0 => dI .i64 (e 9) fun t9 => dL (e 3) fun out_3a out_3n out_3c => dI .i64 (e 4) fun bits_4 => dI .i64 (e 5) fun n_5 => dI .i64 (e 10) fun t10 => LoopV (fun (s : (Option Addr) × Nat × Nat × Int × Int × Int) h Kn => transform_text_base64_l1 t_0 t9 Q s.1 s.2.1 s.2.2.1 s.2.2.2.1 s.2.2.2.2.1 s.2.2.2.2.2 h Kn) (out_3a, out_3n, out_3c, bits_4, n_5, t10) h)]
 trivial
 ⟨⟨by kernel_rfl, fun e h he hk => by
 have F := Ag.nil (e := e)
 have ⟨t_0, F, hk⟩ := eS F hk
 have ⟨t9, F, hk⟩ := eI F hk
 have ⟨out_3a, out_3n, out_3c, F, hk⟩ := eL F hk
 have ⟨bits_4, F, hk⟩ := eI F hk
 have ⟨n_5, F, hk⟩ := eI F hk
 have ⟨t10, F, hk⟩ := eI F hk
 exact loopU (s0 := (out_3a, out_3n, out_3c, bits_4, n_5, t10)) follows (fun _ h => by cases h) he F (fun s => [(10, .int .i64 s.2.2.2.2.2), (5, .int .i64 s.2.2.2.2.1), (4, .int .i64 s.2.2.2.1), (3, .slice s.1 s.2.1 s.2.2.1)]) (by kernel_rfl) (F.take 4) hk (fun Kn1 e h => dL (e 3) fun out_3a out_3n out_3c => dI .i64 (e 4) fun bits_4 => dI .i64 (e 5) fun n_5 => dI .i64 (e 10) fun t10 => Kn1 (out_3a, out_3n, out_3c, bits_4, n_5, t10) h) (fun Kn1 e h hk => by
  have F := Ag.nil (e := e)
  have ⟨out_3a, out_3n, out_3c, F, hk⟩ := eL F hk
  have ⟨bits_4, F, hk⟩ := eI F hk
  have ⟨n_5, F, hk⟩ := eI F hk
  have ⟨t10, F, hk⟩ := eI F hk
  exact ⟨(out_3a, out_3n, out_3c, bits_4, n_5, t10), F, hk⟩)
  (fun Kn1 => []) (fun Kn1 => [])
  (fun Kn1 => trivial)
  (fun Kn1 => trivial) (fun e s h Kn1 => by as_aux_lemma => kernel_rfl)⟩, trivial⟩ (by as_aux_lemma => kernel_rfl) hk
/-! ### (intrusion/transform.text).path -/
def transform_text_path_b7 (path_3 query_4 : ByteArray) (left_6a : Option Addr) (left_6n left_6c : Nat) (segments_7a : Option Addr) (segments_7n segments_7c : Nat) (s_9 : ByteArray) (t25a : Option Addr) (t25n t25c : Nat) (t26 t27 : Int) (t31 : ByteArray) (Q : QT) (Kn2 : (Option Addr) × Nat × Nat × Int → Heap → Prop) (h : Heap) : Prop :=
 if (t31.toList == (⟨#[46, 46]⟩ : ByteArray).toList) = true then (sliceSl 1 left_6a left_6n left_6c none (some (if (0 : Int) > (wrap .i64 (((left_6n : Nat) : Int) - 1)) then (0 : Int) else (wrap .i64 (((left_6n : Nat) : Int) - 1)))) none fun t46a t46n t46c => Kn2 (t46a, t46n, t46c, wrap .i64 (t27 + 1)) h) else (alV h (.cells #[.string s_9] T_string) fun t34 h3 => bltV Tryd.prog .append #[T_sl_string, T_sl_string] T_sl_string #[false, false] #[.slice left_6a left_6n left_6c, .slice (some t34) 1 1] h3 fun v h4 => ∃ t35a : Option Addr, ∃ t35n : Nat, ∃ t35c : Nat, v = .slice t35a t35n t35c ∧ Kn2 (t35a, t35n, t35c, wrap .i64 (t27 + 1)) h4)
def transform_text_path_b6 (query_4 out_10 : ByteArray) (Q : QT) (h : Heap) : Prop :=
 ((out_10.size + query_4.size : Nat) : Int) ≤ IntKind.max .i64 ∧ Q (.string (out_10 ++ query_4)) h
def transform_text_path_b5 (query_4 out_10 : ByteArray) (Q : QT) (h : Heap) : Prop :=
 if (out_10.toList == (⟨#[]⟩ : ByteArray).toList) = true then (transform_text_path_b6 query_4 (⟨#[47]⟩ : ByteArray) Q h) else (transform_text_path_b6 query_4 out_10 Q h)
def transform_text_path_b4 (query_4 : ByteArray) (left_6a : Option Addr) (left_6n left_6c : Nat) (segments_7a : Option Addr) (segments_7n segments_7c : Nat) (out_10 : ByteArray) (Q : QT) (h : Heap) : Prop :=
 CallT Tryd.prog fn_strings_Join #[.slice left_6a left_6n left_6c, .string (⟨#[47]⟩ : ByteArray)] h fun v h6 => ∃ t52 : ByteArray, v = .string t52 ∧ ((out_10.size + t52.size : Nat) : Int) ≤ IntKind.max .i64 ∧ idxA (wrap .i64 (((segments_7n : Nat) : Int) - 1)) segments_7n (nn segments_7a fun t58 => ldS h6 (Addr.add t58 (((wrap .i64 (((segments_7n : Nat) : Int) - 1))).toNat * 1)) fun t59 => if (decide (((left_6n : Nat) : Int) > 0)) = true then (if (t59.toList == (⟨#[]⟩ : ByteArray).toList) = true then ((((out_10 ++ t52).size + (⟨#[47]⟩ : ByteArray).size : Nat) : Int) ≤ IntKind.max .i64 ∧ transform_text_path_b5 query_4 ((out_10 ++ t52) ++ (⟨#[47]⟩ : ByteArray)) Q h6) else (if (t59.toList == (⟨#[46]⟩ : ByteArray).toList) = true then ((((out_10 ++ t52).size + (⟨#[47]⟩ : ByteArray).size : Nat) : Int) ≤ IntKind.max .i64 ∧ transform_text_path_b5 query_4 ((out_10 ++ t52) ++ (⟨#[47]⟩ : ByteArray)) Q h6) else (if (t59.toList == (⟨#[46, 46]⟩ : ByteArray).toList) = true then ((((out_10 ++ t52).size + (⟨#[47]⟩ : ByteArray).size : Nat) : Int) ≤ IntKind.max .i64 ∧ transform_text_path_b5 query_4 ((out_10 ++ t52) ++ (⟨#[47]⟩ : ByteArray)) Q h6) else (transform_text_path_b5 query_4 (out_10 ++ t52) Q h6)))) else (transform_text_path_b5 query_4 (out_10 ++ t52) Q h6))
def transform_text_path_b3 (path_3 query_4 : ByteArray) (left_6a : Option Addr) (left_6n left_6c : Nat) (segments_7a : Option Addr) (segments_7n segments_7c : Nat) (Q : QT) (h : Heap) : Prop :=
 CallT Tryd.prog fn_strings_HasPrefix #[.string path_3, .string (⟨#[47]⟩ : ByteArray)] h fun v h5 => ∃ t49 : Bool, v = .bool t49 ∧ if t49 = true then (transform_text_path_b4 query_4 left_6a left_6n left_6c segments_7a segments_7n segments_7c (⟨#[47]⟩ : ByteArray) Q h5) else (transform_text_path_b4 query_4 left_6a left_6n left_6c segments_7a segments_7n segments_7c (⟨#[]⟩ : ByteArray) Q h5)
def transform_text_path_l2 (path_3 query_4 : ByteArray) (segments_7a : Option Addr) (segments_7n segments_7c : Nat) (t25a : Option Addr) (t25n t25c : Nat) (t26 : Int) (Q : QT) (left_6a : Option Addr) (left_6n left_6c : Nat) (t27 : Int) (h : Heap) (Kn2 : (Option Addr) × Nat × Nat × Int → Heap → Prop) : Prop :=
 if (decide (t27 < t26)) = true then (idxA t27 t25n (nn t25a fun t29 => ldS h (Addr.add t29 ((t27).toNat * 1)) fun t30 => if (t30.toList == (⟨#[]⟩ : ByteArray).toList) = true then (if (t30.toList == (⟨#[]⟩ : ByteArray).toList) = true then (Kn2 (left_6a, left_6n, left_6c, wrap .i64 (t27 + 1)) h) else (transform_text_path_b7 path_3 query_4 left_6a left_6n left_6c segments_7a segments_7n segments_7c t30 t25a t25n t25c t26 t27 t30 Q Kn2 h)) else (if (t30.toList == (⟨#[46]⟩ : ByteArray).toList) = true then (Kn2 (left_6a, left_6n, left_6c, wrap .i64 (t27 + 1)) h) else (transform_text_path_b7 path_3 query_4 left_6a left_6n left_6c segments_7a segments_7n segments_7c t30 t25a t25n t25c t26 t27 t30 Q Kn2 h)))) else (transform_text_path_b3 path_3 query_4 left_6a left_6n left_6c segments_7a segments_7n segments_7c Q h)
def transform_text_path_b1 (path_3 query_4 : ByteArray) (Q : QT) (h : Heap) : Prop :=
 CallT Tryd.prog fn_strings_Split #[.string path_3, .string (⟨#[47]⟩ : ByteArray)] h fun v h2 => ∃ t24a : Option Addr, ∃ t24n : Nat, ∃ t24c : Nat, v = .slice t24a t24n t24c ∧ LoopV (fun (s : (Option Addr) × Nat × Nat × Int) h Kn => transform_text_path_l2 path_3 query_4 t24a t24n t24c t24a t24n t24c ((t24n : Nat) : Int) Q s.1 s.2.1 s.2.2.1 s.2.2.2 h Kn) (none, 0, 0, 0) h2
def transform_text_path_v (t_0 : ByteArray) (Q : QT) (h : Heap) : Prop :=
 CallT Tryd.prog fn_strings_IndexByte #[.string t_0, .int .u8 63] h fun v h1 => ∃ t14 : Int, v = .int .i64 t14 ∧ if (decide (t14 ≥ 0)) = true then (sliceStr t_0 none (some t14) fun t19 => sliceStr t_0 (some t14) none fun t22 => transform_text_path_b1 t19 t22 Q h1) else (transform_text_path_b1 t_0 (⟨#[]⟩ : ByteArray) Q h1)
set_option maxRecDepth 100000 in
theorem transform_text_path_s (t_0 : ByteArray) {Q : QT} {h : Heap} (hk : transform_text_path_v t_0 Q h) : CallT Tryd.prog fn_transform_text_path #[.string t_0] h Q :=
 callU follows Tryd.func26 (Tryd.call26 _) rfl rfl [(12, fun e h => dS (e 3) fun path_3 => dS (e 4) fun query_4 => transform_text_path_b1 path_3 query_4 Q h), (36, fun e h => dS (e 3) fun path_3 => dS (e 4) fun query_4 => dL (e 6) fun left_6a left_6n left_6c => dL (e 7) fun segments_7a segments_7n segments_7c => transform_text_path_b3 path_3 query_4 left_6a left_6n left_6c segments_7a segments_7n segments_7c Q h), (42, fun e h => dS (e 4) fun query_4 => dL (e 6) fun left_6a left_6n left_6c => dL (e 7) fun segments_7a segments_7n segments_7c => dS (e 10) fun out_10 => transform_text_path_b4 query_4 left_6a left_6n left_6c segments_7a segments_7n segments_7c out_10 Q h), (50, fun e h => dS (e 4) fun query_4 => dS (e 10) fun out_10 => transform_text_path_b5 query_4 out_10 Q h), (54, fun e h => dS (e 4) fun query_4 => dS (e 10) fun out_10 => transform_text_path_b6 query_4 out_10 Q h)] [(18, fun e h => dS (e 3) fun path_3 => dS (e 4) fun query_4 => dL (e 7) fun segments_7a segments_7n segments_7c => dL (e 25) fun t25a t25n t25c => dI .i64 (e 26) fun t26 => dL (e 6) fun left_6a left_6n left_6c => dI .i64 (e 27) fun t27 => LoopV (fun (s : (Option Addr) × Nat × Nat × Int) h Kn => transform_text_path_l2 path_3 query_4 segments_7a segments_7n segments_7c t25a t25n t25c t26 Q s.1 s.2.1 s.2.2.1 s.2.2.2 h Kn) (left_6a, left_6n, left_6c, t27) h)]
 ⟨fun e h _ hk => by
 have F := Ag.nil (e := e)
 have ⟨path_3, F, hk⟩ := eS F hk
 have ⟨query_4, F, hk⟩ := eS F hk
 exact cutU F (by as_aux_lemma => kernel_rfl) hk, fun e h _ hk => by
 have F := Ag.nil (e := e)
 have ⟨path_3, F, hk⟩ := eS F hk
 have ⟨query_4, F, hk⟩ := eS F hk
 have ⟨left_6a, left_6n, left_6c, F, hk⟩ := eL F hk
 have ⟨segments_7a, segments_7n, segments_7c, F, hk⟩ := eL F hk
 exact cutU F (by as_aux_lemma => kernel_rfl) hk, fun e h _ hk => by
 have F := Ag.nil (e := e)
 have ⟨query_4, F, hk⟩ := eS F hk
 have ⟨left_6a, left_6n, left_6c, F, hk⟩ := eL F hk
 have ⟨segments_7a, segments_7n, segments_7c, F, hk⟩ := eL F hk
 have ⟨out_10, F, hk⟩ := eS F hk
 exact cutU F (by as_aux_lemma => kernel_rfl) hk, fun e h _ hk => by
 have F := Ag.nil (e := e)
 have ⟨query_4, F, hk⟩ := eS F hk
 have ⟨out_10, F, hk⟩ := eS F hk
 exact cutU F (by as_aux_lemma => kernel_rfl) hk, fun e h _ hk => by
 have F := Ag.nil (e := e)
 have ⟨query_4, F, hk⟩ := eS F hk
 have ⟨out_10, F, hk⟩ := eS F hk
 exact cutU F (by as_aux_lemma => kernel_rfl) hk, trivial⟩
 ⟨⟨by kernel_rfl, fun e h he hk => by
 have F := Ag.nil (e := e)
 have ⟨path_3, F, hk⟩ := eS F hk
 have ⟨query_4, F, hk⟩ := eS F hk
 have ⟨segments_7a, segments_7n, segments_7c, F, hk⟩ := eL F hk
 have ⟨t25a, t25n, t25c, F, hk⟩ := eL F hk
 have ⟨t26, F, hk⟩ := eI F hk
 have ⟨left_6a, left_6n, left_6c, F, hk⟩ := eL F hk
 have ⟨t27, F, hk⟩ := eI F hk
 exact loopU (s0 := (left_6a, left_6n, left_6c, t27)) follows (fun _ h => by cases h) he F (fun s => [(27, .int .i64 s.2.2.2), (6, .slice s.1 s.2.1 s.2.2.1)]) (by kernel_rfl) (F.take 2) hk (fun Kn2 e h => dL (e 6) fun left_6a left_6n left_6c => dI .i64 (e 27) fun t27 => Kn2 (left_6a, left_6n, left_6c, t27) h) (fun Kn2 e h hk => by
  have F := Ag.nil (e := e)
  have ⟨left_6a, left_6n, left_6c, F, hk⟩ := eL F hk
  have ⟨t27, F, hk⟩ := eI F hk
  exact ⟨(left_6a, left_6n, left_6c, t27), F, hk⟩)
  (fun Kn2 => [(31, fun e h => dS (e 3) fun path_3 => dS (e 4) fun query_4 => dL (e 6) fun left_6a left_6n left_6c => dL (e 7) fun segments_7a segments_7n segments_7c => dS (e 9) fun s_9 => dL (e 25) fun t25a t25n t25c => dI .i64 (e 26) fun t26 => dI .i64 (e 27) fun t27 => dS (e 31) fun t31 => transform_text_path_b7 path_3 query_4 left_6a left_6n left_6c segments_7a segments_7n segments_7c s_9 t25a t25n t25c t26 t27 t31 Q Kn2 h)]) (fun Kn2 => [])
  (fun Kn2 => ⟨fun e h _ hk => by
 have F := Ag.nil (e := e)
 have ⟨path_3, F, hk⟩ := eS F hk
 have ⟨query_4, F, hk⟩ := eS F hk
 have ⟨left_6a, left_6n, left_6c, F, hk⟩ := eL F hk
 have ⟨segments_7a, segments_7n, segments_7c, F, hk⟩ := eL F hk
 have ⟨s_9, F, hk⟩ := eS F hk
 have ⟨t25a, t25n, t25c, F, hk⟩ := eL F hk
 have ⟨t26, F, hk⟩ := eI F hk
 have ⟨t27, F, hk⟩ := eI F hk
 have ⟨t31, F, hk⟩ := eS F hk
 exact cutU F (by as_aux_lemma => kernel_rfl) hk, trivial⟩)
  (fun Kn2 => trivial) (fun e s h Kn2 => by as_aux_lemma => kernel_rfl)⟩, trivial⟩ (by as_aux_lemma => kernel_rfl) hk
/-! ### (intrusion/transform.text).hex -/
def transform_text_hex_l1 (t_0 : ByteArray) (t8 : Int) (Q : QT) (out_3a : Option Addr) (out_3n out_3c : Nat) (high_4 t9 : Int) (h : Heap) (Kn1 : (Option Addr) × Nat × Nat × Int × Int → Heap → Prop) : Prop :=
 if (decide (t9 < t8)) = true then (idxS t_0 t9 fun t14 => CallT Tryd.prog fn_transform_digit #[.int .u8 t14] h fun v h1 => ∃ t15 : Int, v = .int .i64 t15 ∧ if (decide (t15 < 0)) = true then (Kn1 (out_3a, out_3n, out_3c, high_4, wrap .i64 (t9 + 1)) h1) else (if (decide (high_4 < 0)) = true then (Kn1 (out_3a, out_3n, out_3c, t15, wrap .i64 (t9 + 1)) h1) else (alV h1 (.cells #[.int .u8 (wrap .u8 (wrap .i64 ((wrap .i64 (16 * high_4)) + t15)))] T_uint8) fun t22 h2 => bltV Tryd.prog .append #[T_sl_uint8, T_sl_uint8] T_sl_uint8 #[false, false] #[.slice out_3a out_3n out_3c, .slice (some t22) 1 1] h2 fun v h3 => ∃ t23a : Option Addr, ∃ t23n : Nat, ∃ t23c : Nat, v = .slice t23a t23n t23c ∧ Kn1 (t23a, t23n, t23c, (-1), wrap .i64 (t9 + 1)) h3))) else (convV Tryd.prog T_sl_uint8 T_string (.slice out_3a out_3n out_3c) h fun v h4 => ∃ t33 : ByteArray, v = .string t33 ∧ Q (.string t33) h4)
def transform_text_hex_v (t_0 : ByteArray) (Q : QT) (h : Heap) : Prop :=
 LoopV (fun (s : (Option Addr) × Nat × Nat × Int × Int) h Kn => transform_text_hex_l1 t_0 ((t_0.size : Nat) : Int) Q s.1 s.2.1 s.2.2.1 s.2.2.2.1 s.2.2.2.2 h Kn) (none, 0, 0, (-1), 0) h
set_option maxRecDepth 100000 in
theorem transform_text_hex_s (t_0 : ByteArray) {Q : QT} {h : Heap} (hk : transform_text_hex_v t_0 Q h) : CallT Tryd.prog fn_transform_text_hex #[.string t_0] h Q :=
 callU follows Tryd.func27 (Tryd.call27 _) rfl rfl [] [(10, fun e h => dS (e 0) fun t_0 => dI .i64 (e 8) fun t8 => dL (e 3) fun out_3a out_3n out_3c => dI .i64 (e 4) fun high_4 => dI .i64 (e 9) fun t9 => LoopV (fun (s : (Option Addr) × Nat × Nat × Int × Int) h Kn => transform_text_hex_l1 t_0 t8 Q s.1 s.2.1 s.2.2.1 s.2.2.2.1 s.2.2.2.2 h Kn) (out_3a, out_3n, out_3c, high_4, t9) h)]
 trivial
 ⟨⟨by kernel_rfl, fun e h he hk => by
 have F := Ag.nil (e := e)
 have ⟨t_0, F, hk⟩ := eS F hk
 have ⟨t8, F, hk⟩ := eI F hk
 have ⟨out_3a, out_3n, out_3c, F, hk⟩ := eL F hk
 have ⟨high_4, F, hk⟩ := eI F hk
 have ⟨t9, F, hk⟩ := eI F hk
 exact loopU (s0 := (out_3a, out_3n, out_3c, high_4, t9)) follows (fun _ h => by cases h) he F (fun s => [(9, .int .i64 s.2.2.2.2), (4, .int .i64 s.2.2.2.1), (3, .slice s.1 s.2.1 s.2.2.1)]) (by kernel_rfl) (F.take 3) hk (fun Kn1 e h => dL (e 3) fun out_3a out_3n out_3c => dI .i64 (e 4) fun high_4 => dI .i64 (e 9) fun t9 => Kn1 (out_3a, out_3n, out_3c, high_4, t9) h) (fun Kn1 e h hk => by
  have F := Ag.nil (e := e)
  have ⟨out_3a, out_3n, out_3c, F, hk⟩ := eL F hk
  have ⟨high_4, F, hk⟩ := eI F hk
  have ⟨t9, F, hk⟩ := eI F hk
  exact ⟨(out_3a, out_3n, out_3c, high_4, t9), F, hk⟩)
  (fun Kn1 => []) (fun Kn1 => [])
  (fun Kn1 => trivial)
  (fun Kn1 => trivial) (fun e s h Kn1 => by as_aux_lemma => kernel_rfl)⟩, trivial⟩ (by as_aux_lemma => kernel_rfl) hk
/-! ### (intrusion/transform.text).same -/
def transform_text_same_v (t_0 : ByteArray) (Q : QT) (h : Heap) : Prop :=
 Q (.string t_0) h
set_option maxRecDepth 100000 in
theorem transform_text_same_s (t_0 : ByteArray) {Q : QT} {h : Heap} (hk : transform_text_same_v t_0 Q h) : CallT Tryd.prog fn_transform_text_same #[.string t_0] h Q :=
 callU follows Tryd.func28 (Tryd.call28 _) rfl rfl [] []
 trivial
 trivial (by as_aux_lemma => kernel_rfl) hk
/-! ### (*intrusion/automaton.Cursor).step -/
def automaton_Cursor_step_b3 (found_5a : Option Addr) (found_5n found_5c : Nat) (Q : QT) (h : Heap) : Prop :=
 CallT Tryd.prog fn_slices_Sort_int_int #[.slice found_5a found_5n found_5c] h fun v h11 => v = .tuple #[] ∧ Q (.slice found_5a found_5n found_5c) h11
def automaton_Cursor_step_l2 (c_0 : Option Addr) (Q : QT) (found_5a : Option Addr) (found_5n found_5c : Nat) (now_6 : Int) (h : Heap) (Kn2 : (Option Addr) × Nat × Nat × Int → Heap → Prop) : Prop :=
 if (now_6 != 0) = true then (nn c_0 fun t83 => ldP h t83 fun t85 => nn t85 fun t86 => ldL h t86 fun t88a t88n t88c => idxA now_6 t88n (nn t88a fun t90 => ldL h (Addr.add (Addr.add t90 ((now_6).toNat * 259)) 258) fun t92a t92n t92c => CallT Tryd.prog fn_automaton_keep #[.slice t92a t92n t92c, .func (.func 37) #[.pointer c_0] #[]] h fun v h9 => ∃ t95a : Option Addr, ∃ t95n : Nat, ∃ t95c : Nat, v = .slice t95a t95n t95c ∧ bltV Tryd.prog .append #[T_sl_int, T_sl_int] T_sl_int #[false, false] #[.slice found_5a found_5n found_5c, .slice t95a t95n t95c] h9 fun v h10 => ∃ t96a : Option Addr, ∃ t96n : Nat, ∃ t96c : Nat, v = .slice t96a t96n t96c ∧ nn c_0 fun t71 => ldP h10 t71 fun t73 => nn t73 fun t74 => ldL h10 t74 fun t76a t76n t76c => idxA now_6 t76n (nn t76a fun t78 => ldI h10 (Addr.add (Addr.add t78 ((now_6).toNat * 259)) 257) .u16 fun t80 => Kn2 (t96a, t96n, t96c, t80) h10))) else (automaton_Cursor_step_b3 found_5a found_5n found_5c Q h)
def automaton_Cursor_step_b1 (c_0 : Option Addr) (b_1 : Int) (Q : QT) (h : Heap) : Prop :=
 nn c_0 fun t36 => ldL h (Addr.add t36 3) fun t38a t38n t38c => alV h (.cells #[.int .u8 b_1] T_uint8) fun t40 h4 => bltV Tryd.prog .append #[T_sl_uint8, T_sl_uint8] T_sl_uint8 #[false, false] #[.slice t38a t38n t38c, .slice (some t40) 1 1] h4 fun v h5 => ∃ t41a : Option Addr, ∃ t41n : Nat, ∃ t41c : Nat, v = .slice t41a t41n t41c ∧ nn c_0 fun t42 => st1 h5 (Addr.add t42 3) (.slice t41a t41n t41c) fun h6 => nn c_0 fun t46 => ldP h6 t46 fun t48 => nn t48 fun t49 => ldL h6 t49 fun t51a t51n t51c => nn c_0 fun t53 => ldI h6 (Addr.add t53 1) .u16 fun t55 => idxA t55 t51n (nn t51a fun t58 => CallT Tryd.prog fn_automaton_small #[.int .u8 b_1] h6 fun v h7 => ∃ t57 : Int, v = .int .u8 t57 ∧ (ldP h7 t46 fun t948 => (.pointer t948 : Value) = .pointer t48) ∧ (ldL h7 t49 fun t951a t951n t951c => (.slice t951a t951n t951c : Value) = .slice t51a t51n t51c) ∧ (ldI h7 (Addr.add t53 1) .u16 fun t955 => (.int .u16 t955 : Value) = .int .u16 t55) ∧ idxA t57 256 (ldI h7 (Addr.add (Addr.add t58 ((t55).toNat * 259)) ((t57).toNat * 1)) .u16 fun t61 => nn c_0 fun t62 => st1 h7 (Addr.add t62 1) (.int .u16 t61) fun h8 => nn c_0 fun t65 => ldI h8 (Addr.add t65 1) .u16 fun t67 => LoopV (fun (s : (Option Addr) × Nat × Nat × Int) h Kn => automaton_Cursor_step_l2 c_0 Q s.1 s.2.1 s.2.2.1 s.2.2.2 h Kn) (none, 0, 0, t67) h8))
def automaton_Cursor_step_v (c_0 : Option Addr) (b_1 : Int) (Q : QT) (h : Heap) : Prop :=
 nn c_0 fun t8 => ldI h (Addr.add t8 2) .i64 fun t10 => nn c_0 fun t12 => st1 h (Addr.add t12 2) (.int .i64 (wrap .i64 (t10 + 1))) fun h1 => nn c_0 fun t15 => ldL h1 (Addr.add t15 3) fun t17a t17n t17c => if (((t17n : Nat) : Int) == 64) = true then (nn c_0 fun t22 => ldL h1 (Addr.add t22 3) fun t24a t24n t24c => sliceSl 1 t24a t24n t24c none (some (0 : Int)) none fun t25a t25n t25c => nn c_0 fun t27 => ldL h1 (Addr.add t27 3) fun t29a t29n t29c => sliceSl 1 t29a t29n t29c (some (1 : Int)) none none fun t30a t30n t30c => bltV Tryd.prog .append #[T_sl_uint8, T_sl_uint8] T_sl_uint8 #[false, false] #[.slice t25a t25n t25c, .slice t30a t30n t30c] h1 fun v h2 => ∃ t31a : Option Addr, ∃ t31n : Nat, ∃ t31c : Nat, v = .slice t31a t31n t31c ∧ nn c_0 fun t32 => st1 h2 (Addr.add t32 3) (.slice t31a t31n t31c) fun h3 => automaton_Cursor_step_b1 c_0 b_1 Q h3) else (automaton_Cursor_step_b1 c_0 b_1 Q h1)
set_option maxRecDepth 100000 in
theorem automaton_Cursor_step_s (c_0 : Option Addr) (b_1 : Int) {Q : QT} {h : Heap} (hk : automaton_Cursor_step_v c_0 b_1 Q h) : CallT Tryd.prog fn_automaton_Cursor_step #[.pointer c_0, .int .u8 b_1] h Q :=
 callU follows Tryd.func29 (Tryd.call29 _) rfl rfl [(10, fun e h => dP (e 0) fun c_0 => dI .u8 (e 1) fun b_1 => automaton_Cursor_step_b1 c_0 b_1 Q h), (24, fun e h => dL (e 5) fun found_5a found_5n found_5c => automaton_Cursor_step_b3 found_5a found_5n found_5c Q h)] [(18, fun e h => dP (e 0) fun c_0 => dL (e 5) fun found_5a found_5n found_5c => dI .u16 (e 6) fun now_6 => LoopV (fun (s : (Option Addr) × Nat × Nat × Int) h Kn => automaton_Cursor_step_l2 c_0 Q s.1 s.2.1 s.2.2.1 s.2.2.2 h Kn) (found_5a, found_5n, found_5c, now_6) h)]
 ⟨fun e h _ hk => by
 have F := Ag.nil (e := e)
 have ⟨c_0, F, hk⟩ := eP F hk
 have ⟨b_1, F, hk⟩ := eI F hk
 exact cutU F (by as_aux_lemma => kernel_rfl) hk, fun e h _ hk => by
 have F := Ag.nil (e := e)
 have ⟨found_5a, found_5n, found_5c, F, hk⟩ := eL F hk
 exact cutU F (by as_aux_lemma => kernel_rfl) hk, trivial⟩
 ⟨⟨by kernel_rfl, fun e h he hk => by
 have F := Ag.nil (e := e)
 have ⟨c_0, F, hk⟩ := eP F hk
 have ⟨found_5a, found_5n, found_5c, F, hk⟩ := eL F hk
 have ⟨now_6, F, hk⟩ := eI F hk
 exact loopU (s0 := (found_5a, found_5n, found_5c, now_6)) follows (fun _ h => by cases h) he F (fun s => [(6, .int .u16 s.2.2.2), (5, .slice s.1 s.2.1 s.2.2.1)]) (by kernel_rfl) (F.take 2) hk (fun Kn2 e h => dL (e 5) fun found_5a found_5n found_5c => dI .u16 (e 6) fun now_6 => Kn2 (found_5a, found_5n, found_5c, now_6) h) (fun Kn2 e h hk => by
  have F := Ag.nil (e := e)
  have ⟨found_5a, found_5n, found_5c, F, hk⟩ := eL F hk
  have ⟨now_6, F, hk⟩ := eI F hk
  exact ⟨(found_5a, found_5n, found_5c, now_6), F, hk⟩)
  (fun Kn2 => []) (fun Kn2 => [])
  (fun Kn2 => trivial)
  (fun Kn2 => trivial) (fun e s h Kn2 => by as_aux_lemma => kernel_rfl)⟩, trivial⟩ (by as_aux_lemma => kernel_rfl) hk
/-! ### internal/stringslite.HasSuffix -/
def internal_stringslite_HasSuffix_v (s_0 suffix_1 : ByteArray) (Q : QT) (h : Heap) : Prop :=
 if (decide (((s_0.size : Nat) : Int) ≥ ((suffix_1.size : Nat) : Int))) = true then (sliceStr s_0 (some (wrap .i64 (((s_0.size : Nat) : Int) - ((suffix_1.size : Nat) : Int)))) none fun t17 => Q (.bool (t17.toList == suffix_1.toList)) h) else (Q (.bool false) h)
set_option maxRecDepth 100000 in
theorem internal_stringslite_HasSuffix_s (s_0 suffix_1 : ByteArray) {Q : QT} {h : Heap} (hk : internal_stringslite_HasSuffix_v s_0 suffix_1 Q h) : CallT Tryd.prog fn_internal_stringslite_HasSuffix #[.string s_0, .string suffix_1] h Q :=
 callU follows Tryd.func30 (Tryd.call30 _) rfl rfl [] []
 trivial
 trivial (by as_aux_lemma => kernel_rfl) hk
/-! ### intrusion/transform.digit -/
def transform_digit_b1 (c_0 : Int) (Q : QT) (h : Heap) : Prop :=
 if (decide (97 ≤ c_0)) = true then (if (decide (c_0 ≤ 102)) = true then (Q (.int .i64 (wrap .i64 ((wrap .i64 (wrap .u8 (c_0 - 97))) + 10))) h) else (if (decide (65 ≤ c_0)) = true then (if (decide (c_0 ≤ 70)) = true then (Q (.int .i64 (wrap .i64 ((wrap .i64 (wrap .u8 (c_0 - 65))) + 10))) h) else (Q (.int .i64 (-1)) h)) else (Q (.int .i64 (-1)) h))) else (if (decide (65 ≤ c_0)) = true then (if (decide (c_0 ≤ 70)) = true then (Q (.int .i64 (wrap .i64 ((wrap .i64 (wrap .u8 (c_0 - 65))) + 10))) h) else (Q (.int .i64 (-1)) h)) else (Q (.int .i64 (-1)) h))
def transform_digit_v (c_0 : Int) (Q : QT) (h : Heap) : Prop :=
 if (decide (48 ≤ c_0)) = true then (if (decide (c_0 ≤ 57)) = true then (Q (.int .i64 (wrap .i64 (wrap .u8 (c_0 - 48)))) h) else (transform_digit_b1 c_0 Q h)) else (transform_digit_b1 c_0 Q h)
set_option maxRecDepth 100000 in
theorem transform_digit_s (c_0 : Int) {Q : QT} {h : Heap} (hk : transform_digit_v c_0 Q h) : CallT Tryd.prog fn_transform_digit #[.int .u8 c_0] h Q :=
 callU follows Tryd.func31 (Tryd.call31 _) rfl rfl [(9, fun e h => dI .u8 (e 0) fun c_0 => transform_digit_b1 c_0 Q h)] []
 ⟨fun e h _ hk => by
 have F := Ag.nil (e := e)
 have ⟨c_0, F, hk⟩ := eI F hk
 exact cutU F (by as_aux_lemma => kernel_rfl) hk, trivial⟩
 trivial (by as_aux_lemma => kernel_rfl) hk
/-! ### intrusion/automaton.keep -/
def automaton_keep_l1 (f_1 : Value) (t8a : Option Addr) (t8n t8c : Nat) (t9 : Int) (Q : QT) (out_5a : Option Addr) (out_5n out_5c : Nat) (t10 : Int) (h : Heap) (Kn1 : (Option Addr) × Nat × Nat × Int → Heap → Prop) : Prop :=
 if (decide (t10 < t9)) = true then (idxA t10 t8n (nn t8a fun t12 => ldI h (Addr.add t12 ((t10).toNat * 1)) .i64 fun t13 => CallV Tryd.prog f_1 #[.int .i64 t13] h fun v h1 => ∃ t16 : Bool, v = .bool t16 ∧ if t16 = true then (alV h1 (.cells #[.int .i64 t13] T_int) fun t19 h2 => bltV Tryd.prog .append #[T_sl_int, T_sl_int] T_sl_int #[false, false] #[.slice out_5a out_5n out_5c, .slice (some t19) 1 1] h2 fun v h3 => ∃ t20a : Option Addr, ∃ t20n : Nat, ∃ t20c : Nat, v = .slice t20a t20n t20c ∧ Kn1 (t20a, t20n, t20c, wrap .i64 (t10 + 1)) h3) else (Kn1 (out_5a, out_5n, out_5c, wrap .i64 (t10 + 1)) h1))) else (Q (.slice out_5a out_5n out_5c) h)
def automaton_keep_v (l_0a : Option Addr) (l_0n l_0c : Nat) (f_1 : Value) (Q : QT) (h : Heap) : Prop :=
 LoopV (fun (s : (Option Addr) × Nat × Nat × Int) h Kn => automaton_keep_l1 f_1 l_0a l_0n l_0c ((l_0n : Nat) : Int) Q s.1 s.2.1 s.2.2.1 s.2.2.2 h Kn) (none, 0, 0, 0) h
set_option maxRecDepth 100000 in
theorem automaton_keep_s (l_0a : Option Addr) (l_0n l_0c : Nat) (f_1 : Value) {Q : QT} {h : Heap} (hk : automaton_keep_v l_0a l_0n l_0c f_1 Q h) : CallT Tryd.prog fn_automaton_keep #[.slice l_0a l_0n l_0c, f_1] h Q :=
 callU follows Tryd.func36 (Tryd.call36 _) rfl rfl [] [(8, fun e h => dV (e 1) fun f_1 => dL (e 8) fun t8a t8n t8c => dI .i64 (e 9) fun t9 => dL (e 5) fun out_5a out_5n out_5c => dI .i64 (e 10) fun t10 => LoopV (fun (s : (Option Addr) × Nat × Nat × Int) h Kn => automaton_keep_l1 f_1 t8a t8n t8c t9 Q s.1 s.2.1 s.2.2.1 s.2.2.2 h Kn) (out_5a, out_5n, out_5c, t10) h)]
 trivial
 ⟨⟨by kernel_rfl, fun e h he hk => by
 have F := Ag.nil (e := e)
 have ⟨f_1, F, hk⟩ := eV F hk
 have ⟨t8a, t8n, t8c, F, hk⟩ := eL F hk
 have ⟨t9, F, hk⟩ := eI F hk
 have ⟨out_5a, out_5n, out_5c, F, hk⟩ := eL F hk
 have ⟨t10, F, hk⟩ := eI F hk
 exact loopU (s0 := (out_5a, out_5n, out_5c, t10)) follows (fun _ h => by cases h) he F (fun s => [(10, .int .i64 s.2.2.2), (5, .slice s.1 s.2.1 s.2.2.1)]) (by kernel_rfl) (F.take 2) hk (fun Kn1 e h => dL (e 5) fun out_5a out_5n out_5c => dI .i64 (e 10) fun t10 => Kn1 (out_5a, out_5n, out_5c, t10) h) (fun Kn1 e h hk => by
  have F := Ag.nil (e := e)
  have ⟨out_5a, out_5n, out_5c, F, hk⟩ := eL F hk
  have ⟨t10, F, hk⟩ := eI F hk
  exact ⟨(out_5a, out_5n, out_5c, t10), F, hk⟩)
  (fun Kn1 => []) (fun Kn1 => [])
  (fun Kn1 => trivial)
  (fun Kn1 => trivial) (fun e s h Kn1 => by as_aux_lemma => kernel_rfl)⟩, trivial⟩ (by as_aux_lemma => kernel_rfl) hk
/-! ### (*intrusion/automaton.Cursor).spelt -/
def automaton_Cursor_spelt_v (c_0 : Option Addr) (index_1 : Int) (Q : QT) (h : Heap) : Prop :=
 nn c_0 fun t7 => ldP h t7 fun t9 => nn t9 fun t10 => ldL h (Addr.add t10 1) fun t12a t12n t12c => idxA index_1 t12n (nn t12a fun t14 => ldS h (Addr.add t14 ((index_1).toNat * 2)) fun t15_0 => ldB h (Addr.add (Addr.add t14 ((index_1).toNat * 2)) 1) fun t15_1 => alV h (.cells #[.string (⟨#[]⟩ : ByteArray), .bool false] T_api_Pattern) fun t5 h1 => stN h1 t5 [.string t15_0, .bool t15_1] 0 fun h2 => ldB h2 (Addr.add t5 1) fun t17 => if t17 = true then (Q (.bool true) h2) else (nn c_0 fun t20 => ldL h2 (Addr.add t20 3) fun t22a t22n t22c => nn c_0 fun t24 => ldL h2 (Addr.add t24 3) fun t26a t26n t26c => ldS h2 t5 fun t29 => sliceSl 1 t22a t22n t22c (some (wrap .i64 (((t26n : Nat) : Int) - ((t29.size : Nat) : Int)))) none none fun t32a t32n t32c => ldS h2 t5 fun t35 => convV Tryd.prog T_sl_uint8 T_string (.slice t32a t32n t32c) h2 fun v h3 => ∃ t33 : ByteArray, v = .string t33 ∧ (ldS h3 t5 fun t935 => (.string t935 : Value) = .string t35) ∧ Q (.bool (t33.toList == t35.toList)) h3))
set_option maxRecDepth 100000 in
theorem automaton_Cursor_spelt_s (c_0 : Option Addr) (index_1 : Int) {Q : QT} {h : Heap} (hk : automaton_Cursor_spelt_v c_0 index_1 Q h) : CallT Tryd.prog fn_automaton_Cursor_spelt #[.pointer c_0, .int .i64 index_1] h Q :=
 callU follows Tryd.func37 (Tryd.call37 _) rfl rfl [] []
 trivial
 trivial (by as_aux_lemma => kernel_rfl) hk
end Go.Proofs.YthnheldoklgceaaDoor
