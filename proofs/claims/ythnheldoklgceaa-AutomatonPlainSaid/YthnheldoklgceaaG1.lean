/-
  Printed by wip/tool/gen2.py: verification conditions, and the proof that each suffices.
-/
import Derived.Test.YthnheldoklgceaaProg
import Derived.Test.YthnheldoklgceaaVcTree
namespace Go.Proofs.Ythnheldoklgceaa
set_option linter.unusedSimpArgs false
set_option linter.unusedVariables false
set_option maxRecDepth 20000
open Go IntKind
abbrev fn_main_main : FuncId := 0
abbrev fn_gosem_cut : FuncId := 1
abbrev fn_gosem_cut_init : FuncId := 2
abbrev fn_law45_AutomatonBuilds : FuncId := 3
abbrev fn_law45_AutomatonScans : FuncId := 4
abbrev fn_law45_AutomatonPieces : FuncId := 5
abbrev fn_law45_AutomatonNone : FuncId := 6
abbrev fn_law45_AutomatonPlain : FuncId := 7
abbrev fn_law45_large : FuncId := 8
abbrev fn_law45_awake : FuncId := 9
abbrev fn_automaton_Build : FuncId := 10
abbrev fn_ref45_Build : FuncId := 11
abbrev fn_automaton_Automaton_States : FuncId := 12
abbrev fn_ref45_Automaton_States : FuncId := 13
abbrev fn_automaton_Automaton_Begin : FuncId := 14
abbrev fn_ref45_Automaton_Begin : FuncId := 15
abbrev fn_law45_same : FuncId := 16
abbrev fn_automaton_Cursor_Scan : FuncId := 17
abbrev fn_ref45_Cursor_Scan : FuncId := 18
abbrev fn_automaton_Cursor_At : FuncId := 19
abbrev fn_ref45_Cursor_At : FuncId := 20
abbrev fn_automaton_Automaton_All : FuncId := 21
abbrev fn_automaton_Plain : FuncId := 22
abbrev fn_ref45_Plain : FuncId := 23
abbrev fn_slices_Clone_api_Pattern_api_Pattern : FuncId := 24
abbrev fn_automaton_Automaton_add : FuncId := 25
abbrev fn_automaton_Automaton_link : FuncId := 26
abbrev fn_ref45_small : FuncId := 27
abbrev fn_automaton_Cursor_step : FuncId := 28
abbrev fn_ref45_after : FuncId := 29
abbrev fn_automaton_lower : FuncId := 30
abbrev fn_strings_HasSuffix : FuncId := 31
abbrev fn_automaton_small : FuncId := 32
abbrev fn_ref26_Apply : FuncId := 33
abbrev fn_automaton_keep : FuncId := 34
abbrev fn_automaton_Cursor_spelt : FuncId := 35
abbrev fn_slices_Sort_int_int : FuncId := 36
abbrev fn_ref45_Occurs : FuncId := 37
abbrev fn_internal_stringslite_HasSuffix : FuncId := 38
abbrev fn_ref26_lower : FuncId := 39
abbrev fn_ref26_strip : FuncId := 40
abbrev fn_ref26_percent : FuncId := 41
abbrev fn_ref26_base64 : FuncId := 42
abbrev fn_ref26_path : FuncId := 43
abbrev fn_ref26_hex : FuncId := 44
abbrev fn_slices_pdqsortOrdered_int : FuncId := 45
abbrev fn_math_bits_Len : FuncId := 46
abbrev fn_ref26_digit : FuncId := 47
abbrev fn_ref26_segments : FuncId := 48
abbrev fn_slices_insertionSortOrdered_int : FuncId := 49
abbrev fn_slices_heapSortOrdered_int : FuncId := 50
abbrev fn_slices_breakPatternsOrdered_int : FuncId := 51
abbrev fn_slices_choosePivotOrdered_int : FuncId := 52
abbrev fn_slices_reverseRangeOrdered_int : FuncId := 53
abbrev fn_slices_partialInsertionSortOrdered_int : FuncId := 54
abbrev fn_cmp_Less_int : FuncId := 55
abbrev fn_slices_partitionEqualOrdered_int : FuncId := 56
abbrev fn_slices_partitionOrdered_int : FuncId := 57
abbrev fn_math_bits_Len32 : FuncId := 58
abbrev fn_math_bits_Len64 : FuncId := 59
abbrev fn_slices_siftDownOrdered_int : FuncId := 60
abbrev fn_slices_nextPowerOfTwo : FuncId := 61
abbrev fn_slices_xorshift_Next : FuncId := 62
abbrev fn_slices_medianAdjacentOrdered_int : FuncId := 63
abbrev fn_slices_medianOrdered_int : FuncId := 64
abbrev fn_cmp_isNaN_int : FuncId := 65
abbrev fn_slices_order2Ordered_int : FuncId := 66
abbrev fn_runtime_boundsError_Error : FuncId := 67
abbrev fn_runtime_boundsError_RuntimeError : FuncId := 68
abbrev fn_runtime_errorString_Error : FuncId := 69
abbrev fn_runtime_errorString_RuntimeError : FuncId := 70
abbrev fn_runtime_plainError_Error : FuncId := 71
abbrev fn_runtime_plainError_RuntimeError : FuncId := 72
abbrev fn_runtime_errorAddressString_Error : FuncId := 73
abbrev fn_runtime_errorAddressString_RuntimeError : FuncId := 74
abbrev fn_runtime_TypeAssertionError_Error : FuncId := 75
abbrev fn_runtime_TypeAssertionError_RuntimeError : FuncId := 76
abbrev fn_runtime_PanicNilError_Error : FuncId := 77
abbrev fn_runtime_PanicNilError_RuntimeError : FuncId := 78
abbrev fn_internal_abi_Type_Align : FuncId := 79
abbrev fn_internal_runtime_maps_unhashableTypeError_Error : FuncId := 80
abbrev fn_internal_runtime_maps_unhashableTypeError_RuntimeError : FuncId := 81
abbrev fn_api_Errno_Error : FuncId := 82
abbrev fn_internal_abi_Kind_String : FuncId := 83
abbrev T_t : TypeId := 0
abbrev T_func : TypeId := 1
abbrev T_int64 : TypeId := 2
abbrev T_int : TypeId := 3
abbrev T_bool : TypeId := 4
abbrev T_uint8 : TypeId := 5
abbrev T_abi_BoundsErrorCode : TypeId := 6
abbrev T_struct_x_int64_y_int_signed_bool_code_abi_BoundsErrorCode : TypeId := 7
abbrev T_runtime_boundsError : TypeId := 8
abbrev T_string : TypeId := 9
abbrev T_runtime_errorString : TypeId := 10
abbrev T_runtime_plainError : TypeId := 11
abbrev T_uintptr : TypeId := 12
abbrev T_struct_msg_string_addr_uintptr : TypeId := 13
abbrev T_runtime_errorAddressString : TypeId := 14
abbrev T_p_runtime_TypeAssertionError : TypeId := 15
abbrev T_p_runtime_PanicNilError : TypeId := 16
abbrev T_p_abi_Type : TypeId := 17
abbrev T_struct_typ_p_abi_Type : TypeId := 18
abbrev T_maps_unhashableTypeError : TypeId := 19
abbrev T_interface : TypeId := 20
abbrev T_int32 : TypeId := 21
abbrev T_sl_api_Pattern : TypeId := 22
abbrev T_func_sl_api_Pattern_bool : TypeId := 23
abbrev T_func_bool : TypeId := 24
abbrev T_p_automaton_Automaton : TypeId := 25
abbrev T_api_Errno : TypeId := 26
abbrev T_p_automaton_Automaton_api_Errno : TypeId := 27
abbrev T_func_sl_api_Pattern_p_automaton_Automaton_api_Errno : TypeId := 28
abbrev T_p_intrusionref45_Automaton : TypeId := 29
abbrev T_p_intrusionref45_Automaton_api_Errno : TypeId := 30
abbrev T_func_sl_api_Pattern_p_intrusionref45_Automaton_api_Errno : TypeId := 31
abbrev T_func_int : TypeId := 32
abbrev T_sl_string : TypeId := 33
abbrev T_p_automaton_Cursor : TypeId := 34
abbrev T_func_p_automaton_Cursor : TypeId := 35
abbrev T_p_intrusionref45_Cursor : TypeId := 36
abbrev T_func_p_intrusionref45_Cursor : TypeId := 37
abbrev T_func_sl_api_Hit_sl_api_Hit_bool : TypeId := 38
abbrev T_sl_api_Hit : TypeId := 39
abbrev T_func_string_sl_api_Hit : TypeId := 40
abbrev T_func_sl_api_Pattern_sl_string_bool : TypeId := 41
abbrev T_func_sl_api_Pattern_string_int_bool : TypeId := 42
abbrev T_func_string_bool : TypeId := 43
abbrev T_func_sl_api_Pattern_string_sl_api_Hit : TypeId := 44
abbrev T_func_sl_api_Pattern_string_bool : TypeId := 45
abbrev T_struct_Text_string_Nocase_bool : TypeId := 46
abbrev T_api_Pattern : TypeId := 47
abbrev T_struct_Pattern_int_End_int : TypeId := 48
abbrev T_api_Hit : TypeId := 49
abbrev T_sl_automaton_state : TypeId := 50
abbrev T_func_sl_api_Pattern_sl_api_Pattern : TypeId := 51
abbrev T_struct_states_sl_automaton_state_patterns_sl_api_Pattern : TypeId := 52
abbrev T_automaton_Automaton : TypeId := 53
abbrev T_func_int_string : TypeId := 54
abbrev T_struct_Patterns_sl_api_Pattern : TypeId := 55
abbrev T_intrusionref45_Automaton : TypeId := 56
abbrev T_map_string_bool : TypeId := 57
abbrev T_func_string_string : TypeId := 58
abbrev T_uint16 : TypeId := 59
abbrev T_sl_uint8 : TypeId := 60
abbrev T_struct_a_p_automaton_Automaton_now_uint16_at_int_tail_sl_u : TypeId := 61
abbrev T_automaton_Cursor : TypeId := 62
abbrev T_struct_a_p_intrusionref45_Automaton_text_string : TypeId := 63
abbrev T_intrusionref45_Cursor : TypeId := 64
abbrev T_sl_int : TypeId := 65
abbrev T_func_uint8_sl_int : TypeId := 66
abbrev T_func_sl_api_Pattern_string_int_sl_api_Hit : TypeId := 67
abbrev T_func_string_string_bool : TypeId := 68
abbrev T_func_uint8_uint8 : TypeId := 69
abbrev T_256_uint16 : TypeId := 70
abbrev T_struct_next_256_uint16_fail_uint16_out_uint16_ends_sl_int : TypeId := 71
abbrev T_automaton_state : TypeId := 72
abbrev T_sl_uint16 : TypeId := 73
abbrev T_p_automaton_state : TypeId := 74
abbrev T_func_int_string_string : TypeId := 75
abbrev T_func_sl_int_func_int_bool_sl_int : TypeId := 76
abbrev T_func_int_bool : TypeId := 77
abbrev T_func_sl_int : TypeId := 78
abbrev T_func_api_Pattern_string_int_bool : TypeId := 79
abbrev T_func_sl_int_int_int_int : TypeId := 80
abbrev T_func_uint_int : TypeId := 81
abbrev T_uint : TypeId := 82
abbrev T_func_uint8_int : TypeId := 83
abbrev T_func_string_sl_string : TypeId := 84
abbrev T_func_sl_int_int_int : TypeId := 85
abbrev T_slices_sortedHint : TypeId := 86
abbrev T_int_slices_sortedHint : TypeId := 87
abbrev T_func_sl_int_int_int_int_slices_sortedHint : TypeId := 88
abbrev T_func_sl_int_int_int_bool : TypeId := 89
abbrev T_func_int_int_bool : TypeId := 90
abbrev T_func_sl_int_int_int_int_int : TypeId := 91
abbrev T_int_bool : TypeId := 92
abbrev T_func_sl_int_int_int_int_int_bool : TypeId := 93
abbrev T_func_uint32_int : TypeId := 94
abbrev T_uint32 : TypeId := 95
abbrev T_func_uint64_int : TypeId := 96
abbrev T_uint64 : TypeId := 97
abbrev T_slices_xorshift : TypeId := 98
abbrev T_func_int_uint : TypeId := 99
abbrev T_func_uint64 : TypeId := 100
abbrev T_func_sl_int_int_p_int_int : TypeId := 101
abbrev T_p_int : TypeId := 102
abbrev T_func_sl_int_int_int_int_p_int_int : TypeId := 103
abbrev T_p_slices_xorshift : TypeId := 104
abbrev T_int_int : TypeId := 105
abbrev T_func_sl_int_int_int_p_int_int_int : TypeId := 106
abbrev T_func_string : TypeId := 107
abbrev T_struct__interface_p_abi_Type_concrete_p_abi_Type_asserted_ : TypeId := 108
abbrev T_runtime_TypeAssertionError : TypeId := 109
abbrev T_0_p_runtime_PanicNilError : TypeId := 110
abbrev T_struct___0_p_runtime_PanicNilError : TypeId := 111
abbrev T_runtime_PanicNilError : TypeId := 112
abbrev T_abi_TFlag : TypeId := 113
abbrev T_abi_Kind : TypeId := 114
abbrev T_func_unsafe_Pointer_unsafe_Pointer_bool : TypeId := 115
abbrev T_p_uint8 : TypeId := 116
abbrev T_abi_NameOff : TypeId := 117
abbrev T_abi_TypeOff : TypeId := 118
abbrev T_struct_Size__uintptr_PtrBytes_uintptr_Hash_uint32_TFlag_ab : TypeId := 119
abbrev T_abi_Type : TypeId := 120
abbrev T_unsafe_Pointer : TypeId := 121
theorem follows : Try.prog.follows .mixedOrders = true := by kernel_rfl
variable [Gh]
/-! ### intrusion/intrusionlaw45.AutomatonBuilds -/
def law45_AutomatonBuilds_v (l_0a : Option Addr) (l_0n l_0c : Nat) (Q : QT) (h : Heap) : Prop :=
 CallT Try.prog fn_law45_large #[.slice l_0a l_0n l_0c] h fun v h1 => ∃ t8 : Bool, v = .bool t8 ∧ if t8 = true then (CallT Try.prog fn_law45_awake #[] h1 fun v h2 => ∃ t9 : Bool, v = .bool t9 ∧ Q (.bool t9) h2) else (CallT Try.prog fn_automaton_Build #[.slice l_0a l_0n l_0c] h1 fun v h3 => ∃ t12_0 : Option Addr, ∃ t12_1 : Int, v = .tuple #[.pointer t12_0, .int .i64 t12_1] ∧ CallT Try.prog fn_ref45_Build #[.slice l_0a l_0n l_0c] h3 fun v h4 => ∃ t17_0 : Option Addr, ∃ t17_1 : Int, v = .tuple #[.pointer t17_0, .int .i64 t17_1] ∧ if (t12_1 == t17_1) = true then (if ((!(Option.isNone t12_0)) == (t12_1 == 0)) = true then (CallT Try.prog fn_automaton_Automaton_States #[.pointer t12_0] h4 fun v h5 => ∃ t32 : Int, v = .int .i64 t32 ∧ CallT Try.prog fn_ref45_Automaton_States #[.pointer t17_0] h5 fun v h6 => ∃ t34 : Int, v = .int .i64 t34 ∧ if (t32 == t34) = true then (CallT Try.prog fn_law45_awake #[] h6 fun v h7 => ∃ t38 : Bool, v = .bool t38 ∧ Q (.bool t38) h7) else (Q (.bool false) h6)) else (Q (.bool false) h4)) else (Q (.bool false) h4))
set_option maxRecDepth 100000 in
theorem law45_AutomatonBuilds_s (l_0a : Option Addr) (l_0n l_0c : Nat) {Q : QT} {h : Heap} (hk : law45_AutomatonBuilds_v l_0a l_0n l_0c Q h) : CallT Try.prog fn_law45_AutomatonBuilds #[.slice l_0a l_0n l_0c] h Q :=
 callU follows Try.func3 (Try.call3 _) rfl rfl [] []
 trivial
 trivial (by as_aux_lemma => kernel_rfl) hk
/-! ### intrusion/intrusionlaw45.AutomatonScans -/
def law45_AutomatonScans_b2 (Q : QT) (h : Heap) : Prop :=
 CallT Try.prog fn_law45_awake #[] h fun v h22 => ∃ t118 : Bool, v = .bool t118 ∧ Q (.bool t118) h22
def law45_AutomatonScans_l1 (pieces_1a : Option Addr) (pieces_1n pieces_1c : Nat) (c_9 d_10 x_11 y_12 : Option Addr) (t58 : Int) (Q : QT) (t59 : Int) (h : Heap) (Kn1 : Int → Heap → Prop) : Prop :=
 if (decide (t59 < t58)) = true then (idxA t59 pieces_1n (nn pieces_1a fun t64 => ldS h (Addr.add t64 ((t59).toNat * 1)) fun t65 => if (decide (((t65.size : Nat) : Int) > 100)) = true then (CallT Try.prog fn_law45_awake #[] h fun v h13 => ∃ t68 : Bool, v = .bool t68 ∧ Q (.bool t68) h13) else (idxA t59 pieces_1n (nn pieces_1a fun t72 => ldS h (Addr.add t72 ((t59).toNat * 1)) fun t73 => idxA t59 pieces_1n (nn pieces_1a fun t78 => ldS h (Addr.add t78 ((t59).toNat * 1)) fun t79 => CallT Try.prog fn_automaton_Cursor_Scan #[.pointer c_9, .string t73] h fun v h14 => ∃ t74a : Option Addr, ∃ t74n : Nat, ∃ t74c : Nat, v = .slice t74a t74n t74c ∧ (ldS h14 (Addr.add t78 ((t59).toNat * 1)) fun t979 => (.string t979 : Value) = .string t79) ∧ CallT Try.prog fn_ref45_Cursor_Scan #[.pointer x_11, .string t79] h14 fun v h15 => ∃ t80a : Option Addr, ∃ t80n : Nat, ∃ t80c : Nat, v = .slice t80a t80n t80c ∧ CallT Try.prog fn_law45_same #[.slice t74a t74n t74c, .slice t80a t80n t80c] h15 fun v h16 => ∃ t81 : Bool, v = .bool t81 ∧ if (!t81) = true then (Q (.bool false) h16) else (CallT Try.prog fn_automaton_Cursor_At #[.pointer c_9] h16 fun v h17 => ∃ t85 : Int, v = .int .i64 t85 ∧ CallT Try.prog fn_ref45_Cursor_At #[.pointer x_11] h17 fun v h18 => ∃ t87 : Int, v = .int .i64 t87 ∧ if (t85 != t87) = true then (Q (.bool false) h18) else (idxA (wrap .i64 ((wrap .i64 (((pieces_1n : Nat) : Int) - 1)) - t59)) pieces_1n (nn pieces_1a fun t97 => ldS h18 (Addr.add t97 (((wrap .i64 ((wrap .i64 (((pieces_1n : Nat) : Int) - 1)) - t59))).toNat * 1)) fun t98 => if (decide (((t98.size : Nat) : Int) ≤ 100)) = true then (idxA (wrap .i64 ((wrap .i64 (((pieces_1n : Nat) : Int) - 1)) - t59)) pieces_1n (nn pieces_1a fun t105 => ldS h18 (Addr.add t105 (((wrap .i64 ((wrap .i64 (((pieces_1n : Nat) : Int) - 1)) - t59))).toNat * 1)) fun t106 => idxA (wrap .i64 ((wrap .i64 (((pieces_1n : Nat) : Int) - 1)) - t59)) pieces_1n (nn pieces_1a fun t111 => ldS h18 (Addr.add t111 (((wrap .i64 ((wrap .i64 (((pieces_1n : Nat) : Int) - 1)) - t59))).toNat * 1)) fun t112 => CallT Try.prog fn_automaton_Cursor_Scan #[.pointer d_10, .string t106] h18 fun v h19 => ∃ t107a : Option Addr, ∃ t107n : Nat, ∃ t107c : Nat, v = .slice t107a t107n t107c ∧ (ldS h19 (Addr.add t111 (((wrap .i64 ((wrap .i64 (((pieces_1n : Nat) : Int) - 1)) - t59))).toNat * 1)) fun t9112 => (.string t9112 : Value) = .string t112) ∧ CallT Try.prog fn_ref45_Cursor_Scan #[.pointer y_12, .string t112] h19 fun v h20 => ∃ t113a : Option Addr, ∃ t113n : Nat, ∃ t113c : Nat, v = .slice t113a t113n t113c ∧ CallT Try.prog fn_law45_same #[.slice t107a t107n t107c, .slice t113a t113n t113c] h20 fun v h21 => ∃ t114 : Bool, v = .bool t114 ∧ if (!t114) = true then (Q (.bool false) h21) else (Kn1 (wrap .i64 (t59 + 1)) h21)))) else (Kn1 (wrap .i64 (t59 + 1)) h18))))))))) else (law45_AutomatonScans_b2 Q h)
def law45_AutomatonScans_v (l_0a : Option Addr) (l_0n l_0c : Nat) (pieces_1a : Option Addr) (pieces_1n pieces_1c : Nat) (Q : QT) (h : Heap) : Prop :=
 if (decide (((l_0n : Nat) : Int) > 60)) = true then (CallT Try.prog fn_law45_awake #[] h fun v h1 => ∃ t27 : Bool, v = .bool t27 ∧ Q (.bool t27) h1) else (CallT Try.prog fn_law45_large #[.slice l_0a l_0n l_0c] h fun v h2 => ∃ t20 : Bool, v = .bool t20 ∧ if t20 = true then (CallT Try.prog fn_law45_awake #[] h2 fun v h3 => ∃ t27 : Bool, v = .bool t27 ∧ Q (.bool t27) h3) else (if (decide (((pieces_1n : Nat) : Int) > 20)) = true then (CallT Try.prog fn_law45_awake #[] h2 fun v h4 => ∃ t27 : Bool, v = .bool t27 ∧ Q (.bool t27) h4) else (CallT Try.prog fn_automaton_Build #[.slice l_0a l_0n l_0c] h2 fun v h5 => ∃ t30_0 : Option Addr, ∃ t30_1 : Int, v = .tuple #[.pointer t30_0, .int .i64 t30_1] ∧ CallT Try.prog fn_ref45_Build #[.slice l_0a l_0n l_0c] h5 fun v h6 => ∃ t35_0 : Option Addr, ∃ t35_1 : Int, v = .tuple #[.pointer t35_0, .int .i64 t35_1] ∧ if (t30_1 != 0) = true then (if (t30_1 != 0) = true then (CallT Try.prog fn_law45_awake #[] h6 fun v h7 => ∃ t47 : Bool, v = .bool t47 ∧ Q (.bool t47) h7) else (Q (.bool false) h6)) else (if (Option.isNone t30_0) = true then (if (t30_1 != 0) = true then (CallT Try.prog fn_law45_awake #[] h6 fun v h8 => ∃ t47 : Bool, v = .bool t47 ∧ Q (.bool t47) h8) else (Q (.bool false) h6)) else (CallT Try.prog fn_automaton_Automaton_Begin #[.pointer t30_0] h6 fun v h9 => ∃ t50 : Option Addr, v = .pointer t50 ∧ CallT Try.prog fn_automaton_Automaton_Begin #[.pointer t30_0] h9 fun v h10 => ∃ t52 : Option Addr, v = .pointer t52 ∧ CallT Try.prog fn_ref45_Automaton_Begin #[.pointer t35_0] h10 fun v h11 => ∃ t54 : Option Addr, v = .pointer t54 ∧ CallT Try.prog fn_ref45_Automaton_Begin #[.pointer t35_0] h11 fun v h12 => ∃ t56 : Option Addr, v = .pointer t56 ∧ LoopV (fun (s : Int) h Kn => law45_AutomatonScans_l1 pieces_1a pieces_1n pieces_1c t50 t52 t54 t56 ((pieces_1n : Nat) : Int) Q s h Kn) 0 h12)))))
set_option maxRecDepth 100000 in
theorem law45_AutomatonScans_s (l_0a : Option Addr) (l_0n l_0c : Nat) (pieces_1a : Option Addr) (pieces_1n pieces_1c : Nat) {Q : QT} {h : Heap} (hk : law45_AutomatonScans_v l_0a l_0n l_0c pieces_1a pieces_1n pieces_1c Q h) : CallT Try.prog fn_law45_AutomatonScans #[.slice l_0a l_0n l_0c, .slice pieces_1a pieces_1n pieces_1c] h Q :=
 callU follows Try.func4 (Try.call4 _) rfl rfl [(42, fun e h => law45_AutomatonScans_b2 Q h)] [(22, fun e h => dL (e 1) fun pieces_1a pieces_1n pieces_1c => dP (e 9) fun c_9 => dP (e 10) fun d_10 => dP (e 11) fun x_11 => dP (e 12) fun y_12 => dI .i64 (e 58) fun t58 => dI .i64 (e 59) fun t59 => LoopV (fun (s : Int) h Kn => law45_AutomatonScans_l1 pieces_1a pieces_1n pieces_1c c_9 d_10 x_11 y_12 t58 Q s h Kn) t59 h)]
 ⟨fun e h _ hk => by
 have F := Ag.nil (e := e)
 exact cutU F (by as_aux_lemma => kernel_rfl) hk, trivial⟩
 ⟨⟨by kernel_rfl, fun e h he hk => by
 have F := Ag.nil (e := e)
 have ⟨pieces_1a, pieces_1n, pieces_1c, F, hk⟩ := eL F hk
 have ⟨c_9, F, hk⟩ := eP F hk
 have ⟨d_10, F, hk⟩ := eP F hk
 have ⟨x_11, F, hk⟩ := eP F hk
 have ⟨y_12, F, hk⟩ := eP F hk
 have ⟨t58, F, hk⟩ := eI F hk
 have ⟨t59, F, hk⟩ := eI F hk
 exact loopU (s0 := t59) follows (fun _ h => by cases h) he F (fun s => [(59, .int .i64 s)]) (by kernel_rfl) (F.take 1) hk (fun Kn1 e h => dI .i64 (e 59) fun t59 => Kn1 t59 h) (fun Kn1 e h hk => by
  have F := Ag.nil (e := e)
  have ⟨t59, F, hk⟩ := eI F hk
  exact ⟨t59, F, hk⟩)
  (fun Kn1 => []) (fun Kn1 => [])
  (fun Kn1 => trivial)
  (fun Kn1 => trivial) (fun e s h Kn1 => by as_aux_lemma => kernel_rfl)⟩, trivial⟩ (by as_aux_lemma => kernel_rfl) hk
/-! ### intrusion/intrusionlaw45.AutomatonPieces -/
def law45_AutomatonPieces_v (l_0a : Option Addr) (l_0n l_0c : Nat) (s_1 : ByteArray) (at_2 : Int) (Q : QT) (h : Heap) : Prop :=
 if (decide (((l_0n : Nat) : Int) > 60)) = true then (CallT Try.prog fn_law45_awake #[] h fun v h1 => ∃ t23 : Bool, v = .bool t23 ∧ Q (.bool t23) h1) else (CallT Try.prog fn_law45_large #[.slice l_0a l_0n l_0c] h fun v h2 => ∃ t16 : Bool, v = .bool t16 ∧ if t16 = true then (CallT Try.prog fn_law45_awake #[] h2 fun v h3 => ∃ t23 : Bool, v = .bool t23 ∧ Q (.bool t23) h3) else (if (decide (((s_1.size : Nat) : Int) > 600)) = true then (CallT Try.prog fn_law45_awake #[] h2 fun v h4 => ∃ t23 : Bool, v = .bool t23 ∧ Q (.bool t23) h4) else (CallT Try.prog fn_automaton_Build #[.slice l_0a l_0n l_0c] h2 fun v h5 => ∃ t26_0 : Option Addr, ∃ t26_1 : Int, v = .tuple #[.pointer t26_0, .int .i64 t26_1] ∧ if (t26_1 != 0) = true then (CallT Try.prog fn_law45_awake #[] h5 fun v h6 => ∃ t31 : Bool, v = .bool t31 ∧ Q (.bool t31) h6) else (CallT Try.prog fn_automaton_Automaton_Begin #[.pointer t26_0] h5 fun v h7 => ∃ t38 : Option Addr, v = .pointer t38 ∧ sliceStr s_1 none (some (if ((s_1.size : Nat) : Int) < (if (0 : Int) > at_2 then (0 : Int) else at_2) then ((s_1.size : Nat) : Int) else (if (0 : Int) > at_2 then (0 : Int) else at_2))) fun t42 => CallT Try.prog fn_automaton_Cursor_Scan #[.pointer t38, .string t42] h7 fun v h8 => ∃ t43a : Option Addr, ∃ t43n : Nat, ∃ t43c : Nat, v = .slice t43a t43n t43c ∧ sliceStr s_1 (some (if ((s_1.size : Nat) : Int) < (if (0 : Int) > at_2 then (0 : Int) else at_2) then ((s_1.size : Nat) : Int) else (if (0 : Int) > at_2 then (0 : Int) else at_2))) none fun t48 => CallT Try.prog fn_automaton_Cursor_Scan #[.pointer t38, .string t48] h8 fun v h9 => ∃ t49a : Option Addr, ∃ t49n : Nat, ∃ t49c : Nat, v = .slice t49a t49n t49c ∧ bltV Try.prog .append #[T_sl_api_Hit, T_sl_api_Hit] T_sl_api_Hit #[false, false] #[.slice t43a t43n t43c, .slice t49a t49n t49c] h9 fun v h10 => ∃ t50a : Option Addr, ∃ t50n : Nat, ∃ t50c : Nat, v = .slice t50a t50n t50c ∧ CallT Try.prog fn_automaton_Automaton_All #[.pointer t26_0, .string s_1] h10 fun v h11 => ∃ t54a : Option Addr, ∃ t54n : Nat, ∃ t54c : Nat, v = .slice t54a t54n t54c ∧ CallT Try.prog fn_law45_same #[.slice t50a t50n t50c, .slice t54a t54n t54c] h11 fun v h12 => ∃ t55 : Bool, v = .bool t55 ∧ if t55 = true then (CallT Try.prog fn_automaton_Cursor_At #[.pointer t38] h12 fun v h13 => ∃ t58 : Int, v = .int .i64 t58 ∧ if (t58 == ((s_1.size : Nat) : Int)) = true then (CallT Try.prog fn_law45_awake #[] h13 fun v h14 => ∃ t64 : Bool, v = .bool t64 ∧ Q (.bool t64) h14) else (Q (.bool false) h13)) else (Q (.bool false) h12)))))
set_option maxRecDepth 100000 in
theorem law45_AutomatonPieces_s (l_0a : Option Addr) (l_0n l_0c : Nat) (s_1 : ByteArray) (at_2 : Int) {Q : QT} {h : Heap} (hk : law45_AutomatonPieces_v l_0a l_0n l_0c s_1 at_2 Q h) : CallT Try.prog fn_law45_AutomatonPieces #[.slice l_0a l_0n l_0c, .string s_1, .int .i64 at_2] h Q :=
 callU follows Try.func5 (Try.call5 _) rfl rfl [] []
 trivial
 trivial (by as_aux_lemma => kernel_rfl) hk
/-! ### intrusion/intrusionlaw45.AutomatonNone -/
def law45_AutomatonNone_v (s_0 : ByteArray) (Q : QT) (h : Heap) : Prop :=
 CallT Try.prog fn_automaton_Automaton_States #[.pointer none] h fun v h1 => ∃ t6 : Int, v = .int .i64 t6 ∧ if (t6 == 0) = true then (CallT Try.prog fn_automaton_Automaton_Begin #[.pointer none] h1 fun v h2 => ∃ t10 : Option Addr, v = .pointer t10 ∧ if (Option.isNone t10) = true then (CallT Try.prog fn_automaton_Automaton_All #[.pointer none, .string s_0] h2 fun v h3 => ∃ t16a : Option Addr, ∃ t16n : Nat, ∃ t16c : Nat, v = .slice t16a t16n t16c ∧ if (((t16n : Nat) : Int) == 0) = true then (CallT Try.prog fn_automaton_Cursor_Scan #[.pointer none, .string s_0] h3 fun v h4 => ∃ t23a : Option Addr, ∃ t23n : Nat, ∃ t23c : Nat, v = .slice t23a t23n t23c ∧ if (((t23n : Nat) : Int) == 0) = true then (CallT Try.prog fn_automaton_Cursor_At #[.pointer none] h4 fun v h5 => ∃ t29 : Int, v = .int .i64 t29 ∧ if (t29 == 0) = true then (CallT Try.prog fn_law45_awake #[] h5 fun v h6 => ∃ t33 : Bool, v = .bool t33 ∧ Q (.bool t33) h6) else (Q (.bool false) h5)) else (Q (.bool false) h4)) else (Q (.bool false) h3)) else (Q (.bool false) h2)) else (Q (.bool false) h1)
set_option maxRecDepth 100000 in
theorem law45_AutomatonNone_s (s_0 : ByteArray) {Q : QT} {h : Heap} (hk : law45_AutomatonNone_v s_0 Q h) : CallT Try.prog fn_law45_AutomatonNone #[.string s_0] h Q :=
 callU follows Try.func6 (Try.call6 _) rfl rfl [] []
 trivial
 trivial (by as_aux_lemma => kernel_rfl) hk
/-! ### intrusion/intrusionlaw45.AutomatonPlain -/
def law45_AutomatonPlain_v (l_0a : Option Addr) (l_0n l_0c : Nat) (s_1 : ByteArray) (Q : QT) (h : Heap) : Prop :=
 if (decide (((l_0n : Nat) : Int) > 60)) = true then (CallT Try.prog fn_law45_awake #[] h fun v h1 => ∃ t17 : Bool, v = .bool t17 ∧ Q (.bool t17) h1) else (CallT Try.prog fn_law45_large #[.slice l_0a l_0n l_0c] h fun v h2 => ∃ t10 : Bool, v = .bool t10 ∧ if t10 = true then (CallT Try.prog fn_law45_awake #[] h2 fun v h3 => ∃ t17 : Bool, v = .bool t17 ∧ Q (.bool t17) h3) else (if (decide (((s_1.size : Nat) : Int) > 600)) = true then (CallT Try.prog fn_law45_awake #[] h2 fun v h4 => ∃ t17 : Bool, v = .bool t17 ∧ Q (.bool t17) h4) else (CallT Try.prog fn_automaton_Plain #[.slice l_0a l_0n l_0c, .string s_1] h2 fun v h5 => ∃ t20a : Option Addr, ∃ t20n : Nat, ∃ t20c : Nat, v = .slice t20a t20n t20c ∧ CallT Try.prog fn_ref45_Plain #[.slice l_0a l_0n l_0c, .string s_1] h5 fun v h6 => ∃ t23a : Option Addr, ∃ t23n : Nat, ∃ t23c : Nat, v = .slice t23a t23n t23c ∧ CallT Try.prog fn_law45_same #[.slice t20a t20n t20c, .slice t23a t23n t23c] h6 fun v h7 => ∃ t24 : Bool, v = .bool t24 ∧ if t24 = true then (CallT Try.prog fn_law45_awake #[] h7 fun v h8 => ∃ t26 : Bool, v = .bool t26 ∧ Q (.bool t26) h8) else (Q (.bool false) h7))))
set_option maxRecDepth 100000 in
theorem law45_AutomatonPlain_s (l_0a : Option Addr) (l_0n l_0c : Nat) (s_1 : ByteArray) {Q : QT} {h : Heap} (hk : law45_AutomatonPlain_v l_0a l_0n l_0c s_1 Q h) : CallT Try.prog fn_law45_AutomatonPlain #[.slice l_0a l_0n l_0c, .string s_1] h Q :=
 callU follows Try.func7 (Try.call7 _) rfl rfl [] []
 trivial
 trivial (by as_aux_lemma => kernel_rfl) hk
/-! ### intrusion/intrusionlaw45.large -/
def law45_large_b2 (l_0a : Option Addr) (l_0n l_0c : Nat) (Q : QT) (h : Heap) : Prop :=
 Q (.bool (decide (((l_0n : Nat) : Int) > 600))) h
def law45_large_l1 (l_0a : Option Addr) (l_0n l_0c : Nat) (Q : QT) (i_3 : Int) (h : Heap) (Kn1 : Int → Heap → Prop) : Prop :=
 if (decide (i_3 < ((l_0n : Nat) : Int))) = true then (if (decide (i_3 < 600)) = true then (idxA i_3 l_0n (nn l_0a fun t16 => ldS h (Addr.add t16 ((i_3).toNat * 2)) fun t18 => if (decide (((t18.size : Nat) : Int) > 300)) = true then (Q (.bool true) h) else (Kn1 (wrap .i64 (i_3 + 1)) h))) else (law45_large_b2 l_0a l_0n l_0c Q h)) else (law45_large_b2 l_0a l_0n l_0c Q h)
def law45_large_v (l_0a : Option Addr) (l_0n l_0c : Nat) (Q : QT) (h : Heap) : Prop :=
 LoopV (fun (s : Int) h Kn => law45_large_l1 l_0a l_0n l_0c Q s h Kn) 0 h
set_option maxRecDepth 100000 in
theorem law45_large_s (l_0a : Option Addr) (l_0n l_0c : Nat) {Q : QT} {h : Heap} (hk : law45_large_v l_0a l_0n l_0c Q h) : CallT Try.prog fn_law45_large #[.slice l_0a l_0n l_0c] h Q :=
 callU follows Try.func8 (Try.call8 _) rfl rfl [(14, fun e h => dL (e 0) fun l_0a l_0n l_0c => law45_large_b2 l_0a l_0n l_0c Q h)] [(6, fun e h => dL (e 0) fun l_0a l_0n l_0c => dI .i64 (e 3) fun i_3 => LoopV (fun (s : Int) h Kn => law45_large_l1 l_0a l_0n l_0c Q s h Kn) i_3 h)]
 ⟨fun e h _ hk => by
 have F := Ag.nil (e := e)
 have ⟨l_0a, l_0n, l_0c, F, hk⟩ := eL F hk
 exact cutU F (by as_aux_lemma => kernel_rfl) hk, trivial⟩
 ⟨⟨by kernel_rfl, fun e h he hk => by
 have F := Ag.nil (e := e)
 have ⟨l_0a, l_0n, l_0c, F, hk⟩ := eL F hk
 have ⟨i_3, F, hk⟩ := eI F hk
 exact loopU (s0 := i_3) follows (fun _ h => by cases h) he F (fun s => [(3, .int .i64 s)]) (by kernel_rfl) (F.take 1) hk (fun Kn1 e h => dI .i64 (e 3) fun i_3 => Kn1 i_3 h) (fun Kn1 e h hk => by
  have F := Ag.nil (e := e)
  have ⟨i_3, F, hk⟩ := eI F hk
  exact ⟨i_3, F, hk⟩)
  (fun Kn1 => []) (fun Kn1 => [])
  (fun Kn1 => trivial)
  (fun Kn1 => trivial) (fun e s h Kn1 => by as_aux_lemma => kernel_rfl)⟩, trivial⟩ (by as_aux_lemma => kernel_rfl) hk
/-! ### intrusion/intrusionlaw45.awake -/
def law45_awake_v (Q : QT) (h : Heap) : Prop :=
 alV h (.cells #[.string (⟨#[104, 101]⟩ : ByteArray), .bool false, .string (⟨#[115, 104, 101]⟩ : ByteArray), .bool false, .string (⟨#[104, 101, 114, 115]⟩ : ByteArray), .bool false] T_api_Pattern) fun t9 h1 => CallT Try.prog fn_automaton_Build #[.slice (some t9) 3 3] h1 fun v h2 => ∃ t10_0 : Option Addr, ∃ t10_1 : Int, v = .tuple #[.pointer t10_0, .int .i64 t10_1] ∧ alV h2 (.cells #[.string (⟨#[97, 97]⟩ : ByteArray), .bool false] T_api_Pattern) fun t15 h3 => CallT Try.prog fn_automaton_Build #[.slice (some t15) 1 1] h3 fun v h4 => ∃ t16_0 : Option Addr, ∃ t16_1 : Int, v = .tuple #[.pointer t16_0, .int .i64 t16_1] ∧ if (Option.isNone t10_0) = true then (Q (.bool false) h4) else (if (Option.isNone t16_0) = true then (Q (.bool false) h4) else (if (t10_1 != 0) = true then (Q (.bool false) h4) else (if (t16_1 != 0) = true then (Q (.bool false) h4) else (CallT Try.prog fn_automaton_Automaton_States #[.pointer t10_0] h4 fun v h5 => ∃ t34 : Int, v = .int .i64 t34 ∧ if (t34 == 8) = true then (CallT Try.prog fn_automaton_Automaton_All #[.pointer t10_0, .string (⟨#[117, 115, 104, 101, 114, 115]⟩ : ByteArray)] h5 fun v h6 => ∃ t38a : Option Addr, ∃ t38n : Nat, ∃ t38c : Nat, v = .slice t38a t38n t38c ∧ alV h6 (.cells #[.int .i64 0, .int .i64 4, .int .i64 1, .int .i64 4, .int .i64 2, .int .i64 6] T_api_Hit) fun t42 h7 => CallT Try.prog fn_law45_same #[.slice t38a t38n t38c, .slice (some t42) 3 3] h7 fun v h8 => ∃ t43 : Bool, v = .bool t43 ∧ if t43 = true then (CallT Try.prog fn_automaton_Automaton_All #[.pointer t16_0, .string (⟨#[97, 97, 97]⟩ : ByteArray)] h8 fun v h9 => ∃ t47a : Option Addr, ∃ t47n : Nat, ∃ t47c : Nat, v = .slice t47a t47n t47c ∧ alV h9 (.cells #[.int .i64 0, .int .i64 2, .int .i64 0, .int .i64 3] T_api_Hit) fun t50 h10 => CallT Try.prog fn_law45_same #[.slice t47a t47n t47c, .slice (some t50) 2 2] h10 fun v h11 => ∃ t51 : Bool, v = .bool t51 ∧ Q (.bool t51) h11) else (Q (.bool false) h8)) else (Q (.bool false) h5)))))
set_option maxRecDepth 100000 in
theorem law45_awake_s {Q : QT} {h : Heap} (hk : law45_awake_v Q h) : CallT Try.prog fn_law45_awake #[] h Q :=
 callU follows Try.func9 (Try.call9 _) rfl rfl [] []
 trivial
 trivial (by as_aux_lemma => kernel_rfl) hk
/-! ### intrusion/automaton.Build -/
def automaton_Build_b4 (a_6 : Addr) (Q : QT) (h : Heap) : Prop :=
 CallT Try.prog fn_automaton_Automaton_link #[.pointer (some a_6)] h fun v h12 => v = .tuple #[] ∧ Q (.tuple #[.pointer (some a_6), .int .i64 0]) h12
def automaton_Build_l3 (a_6 : Addr) (t33a : Option Addr) (t33n t33c : Nat) (t34 : Int) (Q : QT) (t35 : Int) (h : Heap) (Kn3 : Int → Heap → Prop) : Prop :=
 if (decide (t35 < t34)) = true then (idxA t35 t33n (nn t33a fun t38 => ldS h (Addr.add t38 ((t35).toNat * 2)) fun t39_0 => ldB h (Addr.add (Addr.add t38 ((t35).toNat * 2)) 1) fun t39_1 => alV h (.cells #[.string (⟨#[]⟩ : ByteArray), .bool false] T_api_Pattern) fun t8 h6 => stN h6 t8 [.string t39_0, .bool t39_1] 0 fun h7 => ldS h7 t8 fun t43 => CallT Try.prog fn_automaton_Automaton_add #[.pointer (some a_6), .int .i64 t35, .string t43] h7 fun v h8 => v = .tuple #[] ∧ Kn3 (wrap .i64 (t35 + 1)) h8)) else (automaton_Build_b4 a_6 Q h)
def automaton_Build_b2 (l_0a : Option Addr) (l_0n l_0c : Nat) (Q : QT) (h : Heap) : Prop :=
 (mkSlV Try.prog T_sl_automaton_state (.int .i64 1) (.int .i64 1) h fun v h3 => ∃ t28a : Option Addr, ∃ t28n : Nat, ∃ t28c : Nat, v = .slice t28a t28n t28c ∧ CallT Try.prog fn_slices_Clone_api_Pattern_api_Pattern #[.slice l_0a l_0n l_0c] h3 fun v h4 => ∃ t30a : Option Addr, ∃ t30n : Nat, ∃ t30c : Nat, v = .slice t30a t30n t30c ∧ alV h4 (.cells #[.slice t28a t28n t28c, .slice t30a t30n t30c] T_automaton_Automaton) fun t32 h5 => LoopV (fun (s : Int) h Kn => automaton_Build_l3 t32 l_0a l_0n l_0c ((l_0n : Nat) : Int) Q s h Kn) 0 h5) ∧ (CallT Try.prog fn_slices_Clone_api_Pattern_api_Pattern #[.slice l_0a l_0n l_0c] h fun v h9 => ∃ t30a : Option Addr, ∃ t30n : Nat, ∃ t30c : Nat, v = .slice t30a t30n t30c ∧ mkSlV Try.prog T_sl_automaton_state (.int .i64 1) (.int .i64 1) h9 fun v h10 => ∃ t28a : Option Addr, ∃ t28n : Nat, ∃ t28c : Nat, v = .slice t28a t28n t28c ∧ alV h10 (.cells #[.slice t28a t28n t28c, .slice t30a t30n t30c] T_automaton_Automaton) fun t32 h11 => LoopV (fun (s : Int) h Kn => automaton_Build_l3 t32 l_0a l_0n l_0c ((l_0n : Nat) : Int) Q s h Kn) 0 h11)
def automaton_Build_l1 (l_0a : Option Addr) (l_0n l_0c : Nat) (t12a : Option Addr) (t12n t12c : Nat) (t13 : Int) (Q : QT) (t14 : Int) (h : Heap) (Kn1 : Int → Heap → Prop) : Prop :=
 if (decide (t14 < t13)) = true then (idxA t14 t12n (nn t12a fun t16 => ldS h (Addr.add t16 ((t14).toNat * 2)) fun t17_0 => ldB h (Addr.add (Addr.add t16 ((t14).toNat * 2)) 1) fun t17_1 => alV h (.cells #[.string (⟨#[]⟩ : ByteArray), .bool false] T_api_Pattern) fun t5 h1 => stN h1 t5 [.string t17_0, .bool t17_1] 0 fun h2 => ldS h2 t5 fun t20 => if (t20.toList == (⟨#[]⟩ : ByteArray).toList) = true then (Q (.tuple #[.pointer none, .int .i64 2]) h2) else (ldS h2 t5 fun t24 => if (decide (((t24.size : Nat) : Int) > 64)) = true then (Q (.tuple #[.pointer none, .int .i64 3]) h2) else (Kn1 (wrap .i64 (t14 + 1)) h2)))) else (automaton_Build_b2 l_0a l_0n l_0c Q h)
def automaton_Build_v (l_0a : Option Addr) (l_0n l_0c : Nat) (Q : QT) (h : Heap) : Prop :=
 if (decide (((l_0n : Nat) : Int) > 512)) = true then (Q (.tuple #[.pointer none, .int .i64 3]) h) else (LoopV (fun (s : Int) h Kn => automaton_Build_l1 l_0a l_0n l_0c l_0a l_0n l_0c ((l_0n : Nat) : Int) Q s h Kn) 0 h)
set_option maxRecDepth 100000 in
theorem automaton_Build_s (l_0a : Option Addr) (l_0n l_0c : Nat) {Q : QT} {h : Heap} (hk : automaton_Build_v l_0a l_0n l_0c Q h) : CallT Try.prog fn_automaton_Build #[.slice l_0a l_0n l_0c] h Q :=
 callU follows Try.func10 (Try.call10 _) rfl rfl [(24, fun e h => dL (e 0) fun l_0a l_0n l_0c => automaton_Build_b2 l_0a l_0n l_0c Q h), (36, fun e h => dA (e 6) fun a_6 => automaton_Build_b4 a_6 Q h)] [(10, fun e h => dL (e 0) fun l_0a l_0n l_0c => dL (e 12) fun t12a t12n t12c => dI .i64 (e 13) fun t13 => dI .i64 (e 14) fun t14 => LoopV (fun (s : Int) h Kn => automaton_Build_l1 l_0a l_0n l_0c t12a t12n t12c t13 Q s h Kn) t14 h), (28, fun e h => dA (e 6) fun a_6 => dL (e 33) fun t33a t33n t33c => dI .i64 (e 34) fun t34 => dI .i64 (e 35) fun t35 => LoopV (fun (s : Int) h Kn => automaton_Build_l3 a_6 t33a t33n t33c t34 Q s h Kn) t35 h)]
 ⟨fun e h _ hk => by
 have F := Ag.nil (e := e)
 have ⟨l_0a, l_0n, l_0c, F, hk⟩ := eL F hk
 exact cutU F (by as_aux_lemma => kernel_rfl) hk, fun e h _ hk => by
 have F := Ag.nil (e := e)
 have ⟨a_6, F, hk⟩ := eA F hk
 exact cutU F (by as_aux_lemma => kernel_rfl) hk, trivial⟩
 ⟨⟨by kernel_rfl, fun e h he hk => by
 have F := Ag.nil (e := e)
 have ⟨l_0a, l_0n, l_0c, F, hk⟩ := eL F hk
 have ⟨t12a, t12n, t12c, F, hk⟩ := eL F hk
 have ⟨t13, F, hk⟩ := eI F hk
 have ⟨t14, F, hk⟩ := eI F hk
 exact loopU (s0 := t14) follows (fun _ h => by cases h) he F (fun s => [(14, .int .i64 s)]) (by kernel_rfl) (F.take 1) hk (fun Kn1 e h => dI .i64 (e 14) fun t14 => Kn1 t14 h) (fun Kn1 e h hk => by
  have F := Ag.nil (e := e)
  have ⟨t14, F, hk⟩ := eI F hk
  exact ⟨t14, F, hk⟩)
  (fun Kn1 => []) (fun Kn1 => [])
  (fun Kn1 => trivial)
  (fun Kn1 => trivial) (fun e s h Kn1 => by as_aux_lemma => kernel_rfl)⟩, ⟨by kernel_rfl, fun e h he hk => by
 have F := Ag.nil (e := e)
 have ⟨a_6, F, hk⟩ := eA F hk
 have ⟨t33a, t33n, t33c, F, hk⟩ := eL F hk
 have ⟨t34, F, hk⟩ := eI F hk
 have ⟨t35, F, hk⟩ := eI F hk
 exact loopU (s0 := t35) follows (fun _ h => by cases h) he F (fun s => [(35, .int .i64 s)]) (by kernel_rfl) (F.take 1) hk (fun Kn3 e h => dI .i64 (e 35) fun t35 => Kn3 t35 h) (fun Kn3 e h hk => by
  have F := Ag.nil (e := e)
  have ⟨t35, F, hk⟩ := eI F hk
  exact ⟨t35, F, hk⟩)
  (fun Kn3 => []) (fun Kn3 => [])
  (fun Kn3 => trivial)
  (fun Kn3 => trivial) (fun e s h Kn3 => by as_aux_lemma => kernel_rfl)⟩, trivial⟩ (by as_aux_lemma => kernel_rfl) hk
/-! ### intrusion/intrusionref45.Build -/
def ref45_Build_b2 (l_0a : Option Addr) (l_0n l_0c : Nat) (Q : QT) (h : Heap) : Prop :=
 alV h (.cells #[] T_api_Pattern) fun t27 h1 => bltV Try.prog .append #[T_sl_api_Pattern, T_sl_api_Pattern] T_sl_api_Pattern #[false, false] #[.slice (some t27) 0 0, .slice l_0a l_0n l_0c] h1 fun v h2 => ∃ t29a : Option Addr, ∃ t29n : Nat, ∃ t29c : Nat, v = .slice t29a t29n t29c ∧ alV h2 (.cells #[.slice t29a t29n t29c] T_intrusionref45_Automaton) fun t31 h3 => Q (.tuple #[.pointer (some t31), .int .i64 0]) h3
def ref45_Build_l1 (l_0a : Option Addr) (l_0n l_0c : Nat) (Q : QT) (i_4 : Int) (h : Heap) (Kn1 : Int → Heap → Prop) : Prop :=
 if (decide (i_4 < ((l_0n : Nat) : Int))) = true then (idxA i_4 l_0n (nn l_0a fun t16 => ldS h (Addr.add t16 ((i_4).toNat * 2)) fun t18 => if (t18.toList == (⟨#[]⟩ : ByteArray).toList) = true then (Q (.tuple #[.pointer none, .int .i64 2]) h) else (idxA i_4 l_0n (nn l_0a fun t22 => ldS h (Addr.add t22 ((i_4).toNat * 2)) fun t24 => if (decide (((t24.size : Nat) : Int) > 64)) = true then (Q (.tuple #[.pointer none, .int .i64 3]) h) else (Kn1 (wrap .i64 (i_4 + 1)) h))))) else (ref45_Build_b2 l_0a l_0n l_0c Q h)
def ref45_Build_v (l_0a : Option Addr) (l_0n l_0c : Nat) (Q : QT) (h : Heap) : Prop :=
 if (decide (((l_0n : Nat) : Int) > 512)) = true then (Q (.tuple #[.pointer none, .int .i64 3]) h) else (LoopV (fun (s : Int) h Kn => ref45_Build_l1 l_0a l_0n l_0c Q s h Kn) 0 h)
set_option maxRecDepth 100000 in
theorem ref45_Build_s (l_0a : Option Addr) (l_0n l_0c : Nat) {Q : QT} {h : Heap} (hk : ref45_Build_v l_0a l_0n l_0c Q h) : CallT Try.prog fn_ref45_Build #[.slice l_0a l_0n l_0c] h Q :=
 callU follows Try.func11 (Try.call11 _) rfl rfl [(22, fun e h => dL (e 0) fun l_0a l_0n l_0c => ref45_Build_b2 l_0a l_0n l_0c Q h)] [(10, fun e h => dL (e 0) fun l_0a l_0n l_0c => dI .i64 (e 4) fun i_4 => LoopV (fun (s : Int) h Kn => ref45_Build_l1 l_0a l_0n l_0c Q s h Kn) i_4 h)]
 ⟨fun e h _ hk => by
 have F := Ag.nil (e := e)
 have ⟨l_0a, l_0n, l_0c, F, hk⟩ := eL F hk
 exact cutU F (by as_aux_lemma => kernel_rfl) hk, trivial⟩
 ⟨⟨by kernel_rfl, fun e h he hk => by
 have F := Ag.nil (e := e)
 have ⟨l_0a, l_0n, l_0c, F, hk⟩ := eL F hk
 have ⟨i_4, F, hk⟩ := eI F hk
 exact loopU (s0 := i_4) follows (fun _ h => by cases h) he F (fun s => [(4, .int .i64 s)]) (by kernel_rfl) (F.take 1) hk (fun Kn1 e h => dI .i64 (e 4) fun i_4 => Kn1 i_4 h) (fun Kn1 e h hk => by
  have F := Ag.nil (e := e)
  have ⟨i_4, F, hk⟩ := eI F hk
  exact ⟨i_4, F, hk⟩)
  (fun Kn1 => []) (fun Kn1 => [])
  (fun Kn1 => trivial)
  (fun Kn1 => trivial) (fun e s h Kn1 => by as_aux_lemma => kernel_rfl)⟩, trivial⟩ (by as_aux_lemma => kernel_rfl) hk
/-! ### (*intrusion/automaton.Automaton).States -/
def automaton_Automaton_States_v (a_0 : Option Addr) (Q : QT) (h : Heap) : Prop :=
 if (Option.isNone a_0) = true then (Q (.int .i64 0) h) else (nn a_0 fun t6 => ldL h t6 fun t8a t8n t8c => Q (.int .i64 ((t8n : Nat) : Int)) h)
set_option maxRecDepth 100000 in
theorem automaton_Automaton_States_s (a_0 : Option Addr) {Q : QT} {h : Heap} (hk : automaton_Automaton_States_v a_0 Q h) : CallT Try.prog fn_automaton_Automaton_States #[.pointer a_0] h Q :=
 callU follows Try.func12 (Try.call12 _) rfl rfl [] []
 trivial
 trivial (by as_aux_lemma => kernel_rfl) hk
/-! ### (*intrusion/intrusionref45.Automaton).States -/
def ref45_Automaton_States_l2 (a_0 : Option Addr) (seen_3 : Option Nat) (i_4 : Int) (t_5 : ByteArray) (Q : QT) (Kn1 : Int → Heap → Prop) (n_6 : Int) (h : Heap) (Kn2 : Int → Heap → Prop) : Prop :=
 if (decide (n_6 ≤ ((t_5.size : Nat) : Int))) = true then (sliceStr t_5 none (some n_6) fun t38 => mapUpdV Try.prog T_map_string_bool (.map seen_3) (.string t38) (.bool true) h fun h4 => Kn2 (wrap .i64 (n_6 + 1)) h4) else (Kn1 (wrap .i64 (i_4 + 1)) h)
def ref45_Automaton_States_b3 (seen_3 : Option Nat) (Q : QT) (h : Heap) : Prop :=
 bltV Try.prog .len #[T_map_string_bool] T_int #[false] #[.map seen_3] h fun v h5 => ∃ t40 : Int, v = .int .i64 t40 ∧ Q (.int .i64 t40) h5
def ref45_Automaton_States_l1 (a_0 : Option Addr) (seen_3 : Option Nat) (Q : QT) (i_4 : Int) (h : Heap) (Kn1 : Int → Heap → Prop) : Prop :=
 nn a_0 fun t13 => ldL h t13 fun t15a t15n t15c => if (decide (i_4 < ((t15n : Nat) : Int))) = true then (nn a_0 fun t21 => ldL h t21 fun t23a t23n t23c => idxA i_4 t23n (nn t23a fun t25 => ldS h (Addr.add t25 ((i_4).toNat * 2)) fun t27 => CallT Try.prog fn_ref45_small #[.string t27] h fun v h3 => ∃ t28 : ByteArray, v = .string t28 ∧ LoopV (fun (s : Int) h Kn => ref45_Automaton_States_l2 a_0 seen_3 i_4 t28 Q Kn1 s h Kn) 1 h3)) else (ref45_Automaton_States_b3 seen_3 Q h)
def ref45_Automaton_States_v (a_0 : Option Addr) (Q : QT) (h : Heap) : Prop :=
 if (Option.isNone a_0) = true then (Q (.int .i64 0) h) else (mkMapV h fun t9 h1 => mapUpdV Try.prog T_map_string_bool (.map (some t9)) (.string (⟨#[]⟩ : ByteArray)) (.bool true) h1 fun h2 => LoopV (fun (s : Int) h Kn => ref45_Automaton_States_l1 a_0 (some t9) Q s h Kn) 0 h2)
set_option maxRecDepth 100000 in
theorem ref45_Automaton_States_s (a_0 : Option Addr) {Q : QT} {h : Heap} (hk : ref45_Automaton_States_v a_0 Q h) : CallT Try.prog fn_ref45_Automaton_States #[.pointer a_0] h Q :=
 callU follows Try.func13 (Try.call13 _) rfl rfl [(26, fun e h => dM (e 3) fun seen_3 => ref45_Automaton_States_b3 seen_3 Q h)] [(12, fun e h => dP (e 0) fun a_0 => dM (e 3) fun seen_3 => dI .i64 (e 4) fun i_4 => LoopV (fun (s : Int) h Kn => ref45_Automaton_States_l1 a_0 seen_3 Q s h Kn) i_4 h)]
 ⟨fun e h _ hk => by
 have F := Ag.nil (e := e)
 have ⟨seen_3, F, hk⟩ := eM F hk
 exact cutU F (by as_aux_lemma => kernel_rfl) hk, trivial⟩
 ⟨⟨by kernel_rfl, fun e h he hk => by
 have F := Ag.nil (e := e)
 have ⟨a_0, F, hk⟩ := eP F hk
 have ⟨seen_3, F, hk⟩ := eM F hk
 have ⟨i_4, F, hk⟩ := eI F hk
 exact loopU (s0 := i_4) follows (fun _ h => by cases h) he F (fun s => [(4, .int .i64 s)]) (by kernel_rfl) (F.take 1) hk (fun Kn1 e h => dI .i64 (e 4) fun i_4 => Kn1 i_4 h) (fun Kn1 e h hk => by
  have F := Ag.nil (e := e)
  have ⟨i_4, F, hk⟩ := eI F hk
  exact ⟨i_4, F, hk⟩)
  (fun Kn1 => []) (fun Kn1 => [(20, fun e h => dP (e 0) fun a_0 => dM (e 3) fun seen_3 => dI .i64 (e 4) fun i_4 => dS (e 5) fun t_5 => dI .i64 (e 6) fun n_6 => LoopV (fun (s : Int) h Kn => ref45_Automaton_States_l2 a_0 seen_3 i_4 t_5 Q Kn1 s h Kn) n_6 h)])
  (fun Kn1 => trivial)
  (fun Kn1 => ⟨⟨by kernel_rfl, fun e h he hk => by
 have F := Ag.nil (e := e)
 have ⟨a_0, F, hk⟩ := eP F hk
 have ⟨seen_3, F, hk⟩ := eM F hk
 have ⟨i_4, F, hk⟩ := eI F hk
 have ⟨t_5, F, hk⟩ := eS F hk
 have ⟨n_6, F, hk⟩ := eI F hk
 exact loopU (s0 := n_6) follows (keep_sub (by kernel_rfl)) he F (fun s => [(6, .int .i64 s)]) (by kernel_rfl) (F.take 1) hk (fun Kn2 e h => dI .i64 (e 6) fun n_6 => Kn2 n_6 h) (fun Kn2 e h hk => by
  have F := Ag.nil (e := e)
  have ⟨n_6, F, hk⟩ := eI F hk
  exact ⟨n_6, F, hk⟩)
  (fun Kn2 => []) (fun Kn2 => [])
  (fun Kn2 => trivial)
  (fun Kn2 => trivial) (fun e s h Kn2 => by as_aux_lemma => kernel_rfl)⟩, trivial⟩) (fun e s h Kn1 => by as_aux_lemma => kernel_rfl)⟩, trivial⟩ (by as_aux_lemma => kernel_rfl) hk
/-! ### (*intrusion/automaton.Automaton).Begin -/
def automaton_Automaton_Begin_v (a_0 : Option Addr) (Q : QT) (h : Heap) : Prop :=
 if (Option.isNone a_0) = true then (Q (.pointer none) h) else (alV h (.cells #[.pointer a_0, .int .u16 0, .int .i64 0, .slice none 0 0] T_automaton_Cursor) fun t7 h1 => Q (.pointer (some t7)) h1)
set_option maxRecDepth 100000 in
theorem automaton_Automaton_Begin_s (a_0 : Option Addr) {Q : QT} {h : Heap} (hk : automaton_Automaton_Begin_v a_0 Q h) : CallT Try.prog fn_automaton_Automaton_Begin #[.pointer a_0] h Q :=
 callU follows Try.func14 (Try.call14 _) rfl rfl [] []
 trivial
 trivial (by as_aux_lemma => kernel_rfl) hk
/-! ### (*intrusion/intrusionref45.Automaton).Begin -/
def ref45_Automaton_Begin_v (a_0 : Option Addr) (Q : QT) (h : Heap) : Prop :=
 if (Option.isNone a_0) = true then (Q (.pointer none) h) else (alV h (.cells #[.pointer a_0, .string (⟨#[]⟩ : ByteArray)] T_intrusionref45_Cursor) fun t7 h1 => Q (.pointer (some t7)) h1)
set_option maxRecDepth 100000 in
theorem ref45_Automaton_Begin_s (a_0 : Option Addr) {Q : QT} {h : Heap} (hk : ref45_Automaton_Begin_v a_0 Q h) : CallT Try.prog fn_ref45_Automaton_Begin #[.pointer a_0] h Q :=
 callU follows Try.func15 (Try.call15 _) rfl rfl [] []
 trivial
 trivial (by as_aux_lemma => kernel_rfl) hk
/-! ### intrusion/intrusionlaw45.same -/
def law45_same_l1 (a_0a : Option Addr) (a_0n a_0c : Nat) (b_1a : Option Addr) (b_1n b_1c : Nat) (t12 : Int) (Q : QT) (t13 : Int) (h : Heap) (Kn1 : Int → Heap → Prop) : Prop :=
 if (decide (t13 < t12)) = true then (idxA t13 a_0n (nn a_0a fun t18 => ldI h (Addr.add t18 ((t13).toNat * 2)) .i64 fun t19_0 => ldI h (Addr.add (Addr.add t18 ((t13).toNat * 2)) 1) .i64 fun t19_1 => idxA t13 b_1n (nn b_1a fun t22 => ldI h (Addr.add t22 ((t13).toNat * 2)) .i64 fun t23_0 => ldI h (Addr.add (Addr.add t22 ((t13).toNat * 2)) 1) .i64 fun t23_1 => if (!((t19_0 == t23_0) && ((t19_1 == t23_1) && true))) = true then (Q (.bool false) h) else (Kn1 (wrap .i64 (t13 + 1)) h)))) else (Q (.bool true) h)
def law45_same_v (a_0a : Option Addr) (a_0n a_0c : Nat) (b_1a : Option Addr) (b_1n b_1c : Nat) (Q : QT) (h : Heap) : Prop :=
 if (((a_0n : Nat) : Int) != ((b_1n : Nat) : Int)) = true then (Q (.bool false) h) else (LoopV (fun (s : Int) h Kn => law45_same_l1 a_0a a_0n a_0c b_1a b_1n b_1c ((a_0n : Nat) : Int) Q s h Kn) 0 h)
set_option maxRecDepth 100000 in
theorem law45_same_s (a_0a : Option Addr) (a_0n a_0c : Nat) (b_1a : Option Addr) (b_1n b_1c : Nat) {Q : QT} {h : Heap} (hk : law45_same_v a_0a a_0n a_0c b_1a b_1n b_1c Q h) : CallT Try.prog fn_law45_same #[.slice a_0a a_0n a_0c, .slice b_1a b_1n b_1c] h Q :=
 callU follows Try.func16 (Try.call16 _) rfl rfl [] [(10, fun e h => dL (e 0) fun a_0a a_0n a_0c => dL (e 1) fun b_1a b_1n b_1c => dI .i64 (e 12) fun t12 => dI .i64 (e 13) fun t13 => LoopV (fun (s : Int) h Kn => law45_same_l1 a_0a a_0n a_0c b_1a b_1n b_1c t12 Q s h Kn) t13 h)]
 trivial
 ⟨⟨by kernel_rfl, fun e h he hk => by
 have F := Ag.nil (e := e)
 have ⟨a_0a, a_0n, a_0c, F, hk⟩ := eL F hk
 have ⟨b_1a, b_1n, b_1c, F, hk⟩ := eL F hk
 have ⟨t12, F, hk⟩ := eI F hk
 have ⟨t13, F, hk⟩ := eI F hk
 exact loopU (s0 := t13) follows (fun _ h => by cases h) he F (fun s => [(13, .int .i64 s)]) (by kernel_rfl) (F.take 1) hk (fun Kn1 e h => dI .i64 (e 13) fun t13 => Kn1 t13 h) (fun Kn1 e h hk => by
  have F := Ag.nil (e := e)
  have ⟨t13, F, hk⟩ := eI F hk
  exact ⟨t13, F, hk⟩)
  (fun Kn1 => []) (fun Kn1 => [])
  (fun Kn1 => trivial)
  (fun Kn1 => trivial) (fun e s h Kn1 => by as_aux_lemma => kernel_rfl)⟩, trivial⟩ (by as_aux_lemma => kernel_rfl) hk
/-! ### (*intrusion/automaton.Cursor).Scan -/
def automaton_Cursor_Scan_l2 (c_0 : Option Addr) (s_1 : ByteArray) (t12 t13 : Int) (t20a : Option Addr) (t20n t20c : Nat) (t21 : Int) (Q : QT) (Kn1 : (Option Addr) × Nat × Nat × Int → Heap → Prop) (out_5a : Option Addr) (out_5n out_5c : Nat) (t22 : Int) (h : Heap) (Kn2 : (Option Addr) × Nat × Nat × Int → Heap → Prop) : Prop :=
 if (decide (t22 < t21)) = true then (idxA t22 t20n (nn t20a fun t24 => ldI h (Addr.add t24 ((t22).toNat * 1)) .i64 fun t25 => nn c_0 fun t29 => ldI h (Addr.add t29 2) .i64 fun t31 => alV h (.cells #[.int .i64 t25, .int .i64 t31] T_api_Hit) fun t33 h2 => bltV Try.prog .append #[T_sl_api_Hit, T_sl_api_Hit] T_sl_api_Hit #[false, false] #[.slice out_5a out_5n out_5c, .slice (some t33) 1 1] h2 fun v h3 => ∃ t34a : Option Addr, ∃ t34n : Nat, ∃ t34c : Nat, v = .slice t34a t34n t34c ∧ Kn2 (t34a, t34n, t34c, wrap .i64 (t22 + 1)) h3)) else (Kn1 (out_5a, out_5n, out_5c, wrap .i64 (t13 + 1)) h)
def automaton_Cursor_Scan_l1 (c_0 : Option Addr) (s_1 : ByteArray) (t12 : Int) (Q : QT) (out_5a : Option Addr) (out_5n out_5c : Nat) (t13 : Int) (h : Heap) (Kn1 : (Option Addr) × Nat × Nat × Int → Heap → Prop) : Prop :=
 if (decide (t13 < t12)) = true then (idxS s_1 t13 fun t19 => CallT Try.prog fn_automaton_Cursor_step #[.pointer c_0, .int .u8 t19] h fun v h1 => ∃ t20a : Option Addr, ∃ t20n : Nat, ∃ t20c : Nat, v = .slice t20a t20n t20c ∧ LoopV (fun (s : (Option Addr) × Nat × Nat × Int) h Kn => automaton_Cursor_Scan_l2 c_0 s_1 t12 t13 t20a t20n t20c ((t20n : Nat) : Int) Q Kn1 s.1 s.2.1 s.2.2.1 s.2.2.2 h Kn) (out_5a, out_5n, out_5c, 0) h1) else (Q (.slice out_5a out_5n out_5c) h)
def automaton_Cursor_Scan_v (c_0 : Option Addr) (s_1 : ByteArray) (Q : QT) (h : Heap) : Prop :=
 if (Option.isNone c_0) = true then (Q (.slice none 0 0) h) else (LoopV (fun (s : (Option Addr) × Nat × Nat × Int) h Kn => automaton_Cursor_Scan_l1 c_0 s_1 ((s_1.size : Nat) : Int) Q s.1 s.2.1 s.2.2.1 s.2.2.2 h Kn) (none, 0, 0, 0) h)
set_option maxRecDepth 100000 in
theorem automaton_Cursor_Scan_s (c_0 : Option Addr) (s_1 : ByteArray) {Q : QT} {h : Heap} (hk : automaton_Cursor_Scan_v c_0 s_1 Q h) : CallT Try.prog fn_automaton_Cursor_Scan #[.pointer c_0, .string s_1] h Q :=
 callU follows Try.func17 (Try.call17 _) rfl rfl [] [(12, fun e h => dP (e 0) fun c_0 => dS (e 1) fun s_1 => dI .i64 (e 12) fun t12 => dL (e 5) fun out_5a out_5n out_5c => dI .i64 (e 13) fun t13 => LoopV (fun (s : (Option Addr) × Nat × Nat × Int) h Kn => automaton_Cursor_Scan_l1 c_0 s_1 t12 Q s.1 s.2.1 s.2.2.1 s.2.2.2 h Kn) (out_5a, out_5n, out_5c, t13) h)]
 trivial
 ⟨⟨by kernel_rfl, fun e h he hk => by
 have F := Ag.nil (e := e)
 have ⟨c_0, F, hk⟩ := eP F hk
 have ⟨s_1, F, hk⟩ := eS F hk
 have ⟨t12, F, hk⟩ := eI F hk
 have ⟨out_5a, out_5n, out_5c, F, hk⟩ := eL F hk
 have ⟨t13, F, hk⟩ := eI F hk
 exact loopU (s0 := (out_5a, out_5n, out_5c, t13)) follows (fun _ h => by cases h) he F (fun s => [(13, .int .i64 s.2.2.2), (5, .slice s.1 s.2.1 s.2.2.1)]) (by kernel_rfl) (F.take 2) hk (fun Kn1 e h => dL (e 5) fun out_5a out_5n out_5c => dI .i64 (e 13) fun t13 => Kn1 (out_5a, out_5n, out_5c, t13) h) (fun Kn1 e h hk => by
  have F := Ag.nil (e := e)
  have ⟨out_5a, out_5n, out_5c, F, hk⟩ := eL F hk
  have ⟨t13, F, hk⟩ := eI F hk
  exact ⟨(out_5a, out_5n, out_5c, t13), F, hk⟩)
  (fun Kn1 => []) (fun Kn1 => [(18, fun e h => dP (e 0) fun c_0 => dS (e 1) fun s_1 => dI .i64 (e 12) fun t12 => dI .i64 (e 13) fun t13 => dL (e 20) fun t20a t20n t20c => dI .i64 (e 21) fun t21 => dL (e 5) fun out_5a out_5n out_5c => dI .i64 (e 22) fun t22 => LoopV (fun (s : (Option Addr) × Nat × Nat × Int) h Kn => automaton_Cursor_Scan_l2 c_0 s_1 t12 t13 t20a t20n t20c t21 Q Kn1 s.1 s.2.1 s.2.2.1 s.2.2.2 h Kn) (out_5a, out_5n, out_5c, t22) h)])
  (fun Kn1 => trivial)
  (fun Kn1 => ⟨⟨by kernel_rfl, fun e h he hk => by
 have F := Ag.nil (e := e)
 have ⟨c_0, F, hk⟩ := eP F hk
 have ⟨s_1, F, hk⟩ := eS F hk
 have ⟨t12, F, hk⟩ := eI F hk
 have ⟨t13, F, hk⟩ := eI F hk
 have ⟨t20a, t20n, t20c, F, hk⟩ := eL F hk
 have ⟨t21, F, hk⟩ := eI F hk
 have ⟨out_5a, out_5n, out_5c, F, hk⟩ := eL F hk
 have ⟨t22, F, hk⟩ := eI F hk
 exact loopU (s0 := (out_5a, out_5n, out_5c, t22)) follows (keep_sub (by kernel_rfl)) he F (fun s => [(22, .int .i64 s.2.2.2), (5, .slice s.1 s.2.1 s.2.2.1)]) (by kernel_rfl) (F.take 2) hk (fun Kn2 e h => dL (e 5) fun out_5a out_5n out_5c => dI .i64 (e 22) fun t22 => Kn2 (out_5a, out_5n, out_5c, t22) h) (fun Kn2 e h hk => by
  have F := Ag.nil (e := e)
  have ⟨out_5a, out_5n, out_5c, F, hk⟩ := eL F hk
  have ⟨t22, F, hk⟩ := eI F hk
  exact ⟨(out_5a, out_5n, out_5c, t22), F, hk⟩)
  (fun Kn2 => []) (fun Kn2 => [])
  (fun Kn2 => trivial)
  (fun Kn2 => trivial) (fun e s h Kn2 => by as_aux_lemma => kernel_rfl)⟩, trivial⟩) (fun e s h Kn1 => by as_aux_lemma => kernel_rfl)⟩, trivial⟩ (by as_aux_lemma => kernel_rfl) hk
/-! ### (*intrusion/intrusionref45.Cursor).Scan -/
def ref45_Cursor_Scan_v (c_0 : Option Addr) (s_1 : ByteArray) (Q : QT) (h : Heap) : Prop :=
 if (Option.isNone c_0) = true then (Q (.slice none 0 0) h) else (nn c_0 fun t9 => ldS h (Addr.add t9 1) fun t11 => nn c_0 fun t15 => ldS h (Addr.add t15 1) fun t17 => ((t17.size + s_1.size : Nat) : Int) ≤ IntKind.max .i64 ∧ nn c_0 fun t20 => st1 h (Addr.add t20 1) (.string (t17 ++ s_1)) fun h1 => nn c_0 fun t23 => ldP h1 t23 fun t25 => nn t25 fun t26 => ldL h1 t26 fun t28a t28n t28c => nn c_0 fun t30 => ldS h1 (Addr.add t30 1) fun t32 => CallT Try.prog fn_ref45_after #[.slice t28a t28n t28c, .string t32, .int .i64 ((t11.size : Nat) : Int)] h1 fun v h2 => ∃ t34a : Option Addr, ∃ t34n : Nat, ∃ t34c : Nat, v = .slice t34a t34n t34c ∧ Q (.slice t34a t34n t34c) h2)
set_option maxRecDepth 100000 in
theorem ref45_Cursor_Scan_s (c_0 : Option Addr) (s_1 : ByteArray) {Q : QT} {h : Heap} (hk : ref45_Cursor_Scan_v c_0 s_1 Q h) : CallT Try.prog fn_ref45_Cursor_Scan #[.pointer c_0, .string s_1] h Q :=
 callU follows Try.func18 (Try.call18 _) rfl rfl [] []
 trivial
 trivial (by as_aux_lemma => kernel_rfl) hk
/-! ### (*intrusion/automaton.Cursor).At -/
def automaton_Cursor_At_v (c_0 : Option Addr) (Q : QT) (h : Heap) : Prop :=
 if (Option.isNone c_0) = true then (Q (.int .i64 0) h) else (nn c_0 fun t6 => ldI h (Addr.add t6 2) .i64 fun t8 => Q (.int .i64 t8) h)
set_option maxRecDepth 100000 in
theorem automaton_Cursor_At_s (c_0 : Option Addr) {Q : QT} {h : Heap} (hk : automaton_Cursor_At_v c_0 Q h) : CallT Try.prog fn_automaton_Cursor_At #[.pointer c_0] h Q :=
 callU follows Try.func19 (Try.call19 _) rfl rfl [] []
 trivial
 trivial (by as_aux_lemma => kernel_rfl) hk
/-! ### (*intrusion/intrusionref45.Cursor).At -/
def ref45_Cursor_At_v (c_0 : Option Addr) (Q : QT) (h : Heap) : Prop :=
 if (Option.isNone c_0) = true then (Q (.int .i64 0) h) else (nn c_0 fun t6 => ldS h (Addr.add t6 1) fun t8 => Q (.int .i64 ((t8.size : Nat) : Int)) h)
set_option maxRecDepth 100000 in
theorem ref45_Cursor_At_s (c_0 : Option Addr) {Q : QT} {h : Heap} (hk : ref45_Cursor_At_v c_0 Q h) : CallT Try.prog fn_ref45_Cursor_At #[.pointer c_0] h Q :=
 callU follows Try.func20 (Try.call20 _) rfl rfl [] []
 trivial
 trivial (by as_aux_lemma => kernel_rfl) hk
/-! ### (*intrusion/automaton.Automaton).All -/
def automaton_Automaton_All_v (a_0 : Option Addr) (s_1 : ByteArray) (Q : QT) (h : Heap) : Prop :=
 CallT Try.prog fn_automaton_Automaton_Begin #[.pointer a_0] h fun v h1 => ∃ t6 : Option Addr, v = .pointer t6 ∧ CallT Try.prog fn_automaton_Cursor_Scan #[.pointer t6, .string s_1] h1 fun v h2 => ∃ t8a : Option Addr, ∃ t8n : Nat, ∃ t8c : Nat, v = .slice t8a t8n t8c ∧ Q (.slice t8a t8n t8c) h2
set_option maxRecDepth 100000 in
theorem automaton_Automaton_All_s (a_0 : Option Addr) (s_1 : ByteArray) {Q : QT} {h : Heap} (hk : automaton_Automaton_All_v a_0 s_1 Q h) : CallT Try.prog fn_automaton_Automaton_All #[.pointer a_0, .string s_1] h Q :=
 callU follows Try.func21 (Try.call21 _) rfl rfl [] []
 trivial
 trivial (by as_aux_lemma => kernel_rfl) hk
/-! ### intrusion/automaton.Plain -/
def automaton_Plain_b3 (l_0a : Option Addr) (l_0n l_0c : Nat) (s_1 : ByteArray) (out_5a : Option Addr) (out_5n out_5c : Nat) (low_6 : ByteArray) (end_7 i_8 : Int) (text_10 pattern_11 : ByteArray) (t20a : Option Addr) (t20n t20c : Nat) (t21 t22 : Int) (Q : QT) (Kn1 : (Option Addr) × Nat × Nat × Int → Heap → Prop) (Kn2 : (Option Addr) × Nat × Nat × Int → Heap → Prop) (h : Heap) : Prop :=
 if (!(pattern_11.toList == (⟨#[]⟩ : ByteArray).toList)) = true then (CallT Try.prog fn_strings_HasSuffix #[.string text_10, .string pattern_11] h fun v h5 => ∃ t44 : Bool, v = .bool t44 ∧ if t44 = true then (alV h5 (.cells #[.int .i64 i_8, .int .i64 end_7] T_api_Hit) fun t50 h6 => bltV Try.prog .append #[T_sl_api_Hit, T_sl_api_Hit] T_sl_api_Hit #[false, false] #[.slice out_5a out_5n out_5c, .slice (some t50) 1 1] h6 fun v h7 => ∃ t51a : Option Addr, ∃ t51n : Nat, ∃ t51c : Nat, v = .slice t51a t51n t51c ∧ Kn2 (t51a, t51n, t51c, wrap .i64 (t22 + 1)) h7) else (Kn2 (out_5a, out_5n, out_5c, wrap .i64 (t22 + 1)) h5)) else (Kn2 (out_5a, out_5n, out_5c, wrap .i64 (t22 + 1)) h)
def automaton_Plain_l2 (l_0a : Option Addr) (l_0n l_0c : Nat) (s_1 low_6 : ByteArray) (end_7 : Int) (t20a : Option Addr) (t20n t20c : Nat) (t21 : Int) (Q : QT) (Kn1 : (Option Addr) × Nat × Nat × Int → Heap → Prop) (out_5a : Option Addr) (out_5n out_5c : Nat) (t22 : Int) (h : Heap) (Kn2 : (Option Addr) × Nat × Nat × Int → Heap → Prop) : Prop :=
 if (decide (t22 < t21)) = true then (idxA t22 t20n (nn t20a fun t25 => ldS h (Addr.add t25 ((t22).toNat * 2)) fun t26_0 => ldB h (Addr.add (Addr.add t25 ((t22).toNat * 2)) 1) fun t26_1 => alV h (.cells #[.string (⟨#[]⟩ : ByteArray), .bool false] T_api_Pattern) fun t9 h2 => stN h2 t9 [.string t26_0, .bool t26_1] 0 fun h3 => sliceStr s_1 none (some end_7) fun t29 => ldS h3 t9 fun t31 => ldB h3 (Addr.add t9 1) fun t33 => if t33 = true then (sliceStr low_6 none (some end_7) fun t36 => CallT Try.prog fn_automaton_lower #[.string t31] h3 fun v h4 => ∃ t38 : ByteArray, v = .string t38 ∧ automaton_Plain_b3 l_0a l_0n l_0c s_1 out_5a out_5n out_5c low_6 end_7 t22 t36 t38 t20a t20n t20c t21 t22 Q Kn1 Kn2 h4) else (automaton_Plain_b3 l_0a l_0n l_0c s_1 out_5a out_5n out_5c low_6 end_7 t22 t29 t31 t20a t20n t20c t21 t22 Q Kn1 Kn2 h3))) else (Kn1 (out_5a, out_5n, out_5c, wrap .i64 (end_7 + 1)) h)
def automaton_Plain_l1 (l_0a : Option Addr) (l_0n l_0c : Nat) (s_1 low_6 : ByteArray) (Q : QT) (out_5a : Option Addr) (out_5n out_5c : Nat) (end_7 : Int) (h : Heap) (Kn1 : (Option Addr) × Nat × Nat × Int → Heap → Prop) : Prop :=
 if (decide (end_7 ≤ ((s_1.size : Nat) : Int))) = true then (LoopV (fun (s : (Option Addr) × Nat × Nat × Int) h Kn => automaton_Plain_l2 l_0a l_0n l_0c s_1 low_6 end_7 l_0a l_0n l_0c ((l_0n : Nat) : Int) Q Kn1 s.1 s.2.1 s.2.2.1 s.2.2.2 h Kn) (out_5a, out_5n, out_5c, 0) h) else (Q (.slice out_5a out_5n out_5c) h)
def automaton_Plain_v (l_0a : Option Addr) (l_0n l_0c : Nat) (s_1 : ByteArray) (Q : QT) (h : Heap) : Prop :=
 CallT Try.prog fn_automaton_lower #[.string s_1] h fun v h1 => ∃ t13 : ByteArray, v = .string t13 ∧ LoopV (fun (s : (Option Addr) × Nat × Nat × Int) h Kn => automaton_Plain_l1 l_0a l_0n l_0c s_1 t13 Q s.1 s.2.1 s.2.2.1 s.2.2.2 h Kn) (none, 0, 0, 1) h1
set_option maxRecDepth 100000 in
theorem automaton_Plain_s (l_0a : Option Addr) (l_0n l_0c : Nat) (s_1 : ByteArray) {Q : QT} {h : Heap} (hk : automaton_Plain_v l_0a l_0n l_0c s_1 Q h) : CallT Try.prog fn_automaton_Plain #[.slice l_0a l_0n l_0c, .string s_1] h Q :=
 callU follows Try.func22 (Try.call22 _) rfl rfl [] [(10, fun e h => dL (e 0) fun l_0a l_0n l_0c => dS (e 1) fun s_1 => dS (e 6) fun low_6 => dL (e 5) fun out_5a out_5n out_5c => dI .i64 (e 7) fun end_7 => LoopV (fun (s : (Option Addr) × Nat × Nat × Int) h Kn => automaton_Plain_l1 l_0a l_0n l_0c s_1 low_6 Q s.1 s.2.1 s.2.2.1 s.2.2.2 h Kn) (out_5a, out_5n, out_5c, end_7) h)]
 trivial
 ⟨⟨by kernel_rfl, fun e h he hk => by
 have F := Ag.nil (e := e)
 have ⟨l_0a, l_0n, l_0c, F, hk⟩ := eL F hk
 have ⟨s_1, F, hk⟩ := eS F hk
 have ⟨low_6, F, hk⟩ := eS F hk
 have ⟨out_5a, out_5n, out_5c, F, hk⟩ := eL F hk
 have ⟨end_7, F, hk⟩ := eI F hk
 exact loopU (s0 := (out_5a, out_5n, out_5c, end_7)) follows (fun _ h => by cases h) he F (fun s => [(7, .int .i64 s.2.2.2), (5, .slice s.1 s.2.1 s.2.2.1)]) (by kernel_rfl) (F.take 2) hk (fun Kn1 e h => dL (e 5) fun out_5a out_5n out_5c => dI .i64 (e 7) fun end_7 => Kn1 (out_5a, out_5n, out_5c, end_7) h) (fun Kn1 e h hk => by
  have F := Ag.nil (e := e)
  have ⟨out_5a, out_5n, out_5c, F, hk⟩ := eL F hk
  have ⟨end_7, F, hk⟩ := eI F hk
  exact ⟨(out_5a, out_5n, out_5c, end_7), F, hk⟩)
  (fun Kn1 => []) (fun Kn1 => [(16, fun e h => dL (e 0) fun l_0a l_0n l_0c => dS (e 1) fun s_1 => dS (e 6) fun low_6 => dI .i64 (e 7) fun end_7 => dL (e 20) fun t20a t20n t20c => dI .i64 (e 21) fun t21 => dL (e 5) fun out_5a out_5n out_5c => dI .i64 (e 22) fun t22 => LoopV (fun (s : (Option Addr) × Nat × Nat × Int) h Kn => automaton_Plain_l2 l_0a l_0n l_0c s_1 low_6 end_7 t20a t20n t20c t21 Q Kn1 s.1 s.2.1 s.2.2.1 s.2.2.2 h Kn) (out_5a, out_5n, out_5c, t22) h)])
  (fun Kn1 => trivial)
  (fun Kn1 => ⟨⟨by kernel_rfl, fun e h he hk => by
 have F := Ag.nil (e := e)
 have ⟨l_0a, l_0n, l_0c, F, hk⟩ := eL F hk
 have ⟨s_1, F, hk⟩ := eS F hk
 have ⟨low_6, F, hk⟩ := eS F hk
 have ⟨end_7, F, hk⟩ := eI F hk
 have ⟨t20a, t20n, t20c, F, hk⟩ := eL F hk
 have ⟨t21, F, hk⟩ := eI F hk
 have ⟨out_5a, out_5n, out_5c, F, hk⟩ := eL F hk
 have ⟨t22, F, hk⟩ := eI F hk
 exact loopU (s0 := (out_5a, out_5n, out_5c, t22)) follows (keep_sub (by kernel_rfl)) he F (fun s => [(22, .int .i64 s.2.2.2), (5, .slice s.1 s.2.1 s.2.2.1)]) (by kernel_rfl) (F.take 2) hk (fun Kn2 e h => dL (e 5) fun out_5a out_5n out_5c => dI .i64 (e 22) fun t22 => Kn2 (out_5a, out_5n, out_5c, t22) h) (fun Kn2 e h hk => by
  have F := Ag.nil (e := e)
  have ⟨out_5a, out_5n, out_5c, F, hk⟩ := eL F hk
  have ⟨t22, F, hk⟩ := eI F hk
  exact ⟨(out_5a, out_5n, out_5c, t22), F, hk⟩)
  (fun Kn2 => [(26, fun e h => dL (e 0) fun l_0a l_0n l_0c => dS (e 1) fun s_1 => dL (e 5) fun out_5a out_5n out_5c => dS (e 6) fun low_6 => dI .i64 (e 7) fun end_7 => dI .i64 (e 8) fun i_8 => dS (e 10) fun text_10 => dS (e 11) fun pattern_11 => dL (e 20) fun t20a t20n t20c => dI .i64 (e 21) fun t21 => dI .i64 (e 22) fun t22 => automaton_Plain_b3 l_0a l_0n l_0c s_1 out_5a out_5n out_5c low_6 end_7 i_8 text_10 pattern_11 t20a t20n t20c t21 t22 Q Kn1 Kn2 h)]) (fun Kn2 => [])
  (fun Kn2 => ⟨fun e h _ hk => by
 have F := Ag.nil (e := e)
 have ⟨l_0a, l_0n, l_0c, F, hk⟩ := eL F hk
 have ⟨s_1, F, hk⟩ := eS F hk
 have ⟨out_5a, out_5n, out_5c, F, hk⟩ := eL F hk
 have ⟨low_6, F, hk⟩ := eS F hk
 have ⟨end_7, F, hk⟩ := eI F hk
 have ⟨i_8, F, hk⟩ := eI F hk
 have ⟨text_10, F, hk⟩ := eS F hk
 have ⟨pattern_11, F, hk⟩ := eS F hk
 have ⟨t20a, t20n, t20c, F, hk⟩ := eL F hk
 have ⟨t21, F, hk⟩ := eI F hk
 have ⟨t22, F, hk⟩ := eI F hk
 exact cutU F (by as_aux_lemma => kernel_rfl) hk, trivial⟩)
  (fun Kn2 => trivial) (fun e s h Kn2 => by as_aux_lemma => kernel_rfl)⟩, trivial⟩) (fun e s h Kn1 => by as_aux_lemma => kernel_rfl)⟩, trivial⟩ (by as_aux_lemma => kernel_rfl) hk
/-! ### intrusion/intrusionref45.Plain -/
def ref45_Plain_v (l_0a : Option Addr) (l_0n l_0c : Nat) (s_1 : ByteArray) (Q : QT) (h : Heap) : Prop :=
 CallT Try.prog fn_ref45_after #[.slice l_0a l_0n l_0c, .string s_1, .int .i64 0] h fun v h1 => ∃ t7a : Option Addr, ∃ t7n : Nat, ∃ t7c : Nat, v = .slice t7a t7n t7c ∧ Q (.slice t7a t7n t7c) h1
set_option maxRecDepth 100000 in
theorem ref45_Plain_s (l_0a : Option Addr) (l_0n l_0c : Nat) (s_1 : ByteArray) {Q : QT} {h : Heap} (hk : ref45_Plain_v l_0a l_0n l_0c s_1 Q h) : CallT Try.prog fn_ref45_Plain #[.slice l_0a l_0n l_0c, .string s_1] h Q :=
 callU follows Try.func23 (Try.call23 _) rfl rfl [] []
 trivial
 trivial (by as_aux_lemma => kernel_rfl) hk
/-! ### slices.Clone[[]intrusion/api.Pattern,intrusion/api.Pattern] -/
def slices_Clone_api_Pattern_api_Pattern_v (s_0a : Option Addr) (s_0n s_0c : Nat) (Q : QT) (h : Heap) : Prop :=
 if (Option.isNone s_0a) = true then (Q (.slice none 0 0) h) else (alV h (.cells #[] T_api_Pattern) fun t5 h1 => bltV Try.prog .append #[T_sl_api_Pattern, T_sl_api_Pattern] T_sl_api_Pattern #[false, false] #[.slice (some t5) 0 0, .slice s_0a s_0n s_0c] h1 fun v h2 => ∃ t7a : Option Addr, ∃ t7n : Nat, ∃ t7c : Nat, v = .slice t7a t7n t7c ∧ Q (.slice t7a t7n t7c) h2)
set_option maxRecDepth 100000 in
theorem slices_Clone_api_Pattern_api_Pattern_s (s_0a : Option Addr) (s_0n s_0c : Nat) {Q : QT} {h : Heap} (hk : slices_Clone_api_Pattern_api_Pattern_v s_0a s_0n s_0c Q h) : CallT Try.prog fn_slices_Clone_api_Pattern_api_Pattern #[.slice s_0a s_0n s_0c] h Q :=
 callU follows Try.func24 (Try.call24 _) rfl rfl [] []
 trivial
 trivial (by as_aux_lemma => kernel_rfl) hk
/-! ### (*intrusion/automaton.Automaton).add -/
def automaton_Automaton_add_b2 (a_0 : Option Addr) (index_1 now_6 : Int) (Q : QT) (h : Heap) : Prop :=
 nn a_0 fun t61 => ldL h t61 fun t63a t63n t63c => nn a_0 fun t66 => ldL h t66 fun t68a t68n t68c => idxA now_6 t68n (nn t68a fun t70 => ldL h (Addr.add (Addr.add t70 ((now_6).toNat * 259)) 258) fun t72a t72n t72c => alV h (.cells #[.int .i64 index_1] T_int) fun t74 h6 => (ldL h6 t61 fun t963a t963n t963c => (.slice t963a t963n t963c : Value) = .slice t63a t63n t63c) ∧ (ldL h6 t66 fun t968a t968n t968c => (.slice t968a t968n t968c : Value) = .slice t68a t68n t68c) ∧ (ldL h6 (Addr.add (Addr.add t70 ((now_6).toNat * 259)) 258) fun t972a t972n t972c => (.slice t972a t972n t972c : Value) = .slice t72a t72n t72c) ∧ bltV Try.prog .append #[T_sl_int, T_sl_int] T_sl_int #[false, false] #[.slice t72a t72n t72c, .slice (some t74) 1 1] h6 fun v h7 => ∃ t75a : Option Addr, ∃ t75n : Nat, ∃ t75c : Nat, v = .slice t75a t75n t75c ∧ (ldL h7 t61 fun t963a t963n t963c => (.slice t963a t963n t963c : Value) = .slice t63a t63n t63c) ∧ idxA now_6 t63n (nn t63a fun t76 => st1 h7 (Addr.add (Addr.add t76 ((now_6).toNat * 259)) 258) (.slice t75a t75n t75c) fun h8 => Q (.tuple #[]) h8))
def automaton_Automaton_add_l1 (a_0 : Option Addr) (index_1 : Int) (s_2 : ByteArray) (t11 : Int) (Q : QT) (now_6 t12 : Int) (h : Heap) (Kn1 : Int × Int → Heap → Prop) : Prop :=
 if (decide (t12 < t11)) = true then (idxS s_2 t12 fun t17 => CallT Try.prog fn_automaton_small #[.int .u8 t17] h fun v h1 => ∃ t18 : Int, v = .int .u8 t18 ∧ nn a_0 fun t20 => ldL h1 t20 fun t22a t22n t22c => idxA now_6 t22n (nn t22a fun t25 => idxA t18 256 (ldI h1 (Addr.add (Addr.add t25 ((now_6).toNat * 259)) ((t18).toNat * 1)) .u16 fun t28 => if ((wrap .i64 t28) == 0) = true then (nn a_0 fun t33 => ldL h1 t33 fun t35a t35n t35c => nn a_0 fun t39 => ldL h1 t39 fun t41a t41n t41c => alV h1 (.cells #[.int .u16 0, .int .u16 0, .int .u16 0, .int .u16 0, .int .u16 0, .int .u16 0, .int .u16 0, .int .u16 0, .int .u16 0, .int .u16 0, .int .u16 0, .int .u16 0, .int .u16 0, .int .u16 0, .int .u16 0, .int .u16 0, .int .u16 0, .int .u16 0, .int .u16 0, .int .u16 0, .int .u16 0, .int .u16 0, .int .u16 0, .int .u16 0, .int .u16 0, .int .u16 0, .int .u16 0, .int .u16 0, .int .u16 0, .int .u16 0, .int .u16 0, .int .u16 0, .int .u16 0, .int .u16 0, .int .u16 0, .int .u16 0, .int .u16 0, .int .u16 0, .int .u16 0, .int .u16 0, .int .u16 0, .int .u16 0, .int .u16 0, .int .u16 0, .int .u16 0, .int .u16 0, .int .u16 0, .int .u16 0, .int .u16 0, .int .u16 0, .int .u16 0, .int .u16 0, .int .u16 0, .int .u16 0, .int .u16 0, .int .u16 0, .int .u16 0, .int .u16 0, .int .u16 0, .int .u16 0, .int .u16 0, .int .u16 0, .int .u16 0, .int .u16 0, .int .u16 0, .int .u16 0, .int .u16 0, .int .u16 0, .int .u16 0, .int .u16 0, .int .u16 0, .int .u16 0, .int .u16 0, .int .u16 0, .int .u16 0, .int .u16 0, .int .u16 0, .int .u16 0, .int .u16 0, .int .u16 0, .int .u16 0, .int .u16 0, .int .u16 0, .int .u16 0, .int .u16 0, .int .u16 0, .int .u16 0, .int .u16 0, .int .u16 0, .int .u16 0, .int .u16 0, .int .u16 0, .int .u16 0, .int .u16 0, .int .u16 0, .int .u16 0, .int .u16 0, .int .u16 0, .int .u16 0, .int .u16 0, .int .u16 0, .int .u16 0, .int .u16 0, .int .u16 0, .int .u16 0, .int .u16 0, .int .u16 0, .int .u16 0, .int .u16 0, .int .u16 0, .int .u16 0, .int .u16 0, .int .u16 0, .int .u16 0, .int .u16 0, .int .u16 0, .int .u16 0, .int .u16 0, .int .u16 0, .int .u16 0, .int .u16 0, .int .u16 0, .int .u16 0, .int .u16 0, .int .u16 0, .int .u16 0, .int .u16 0, .int .u16 0, .int .u16 0, .int .u16 0, .int .u16 0, .int .u16 0, .int .u16 0, .int .u16 0, .int .u16 0, .int .u16 0, .int .u16 0, .int .u16 0, .int .u16 0, .int .u16 0, .int .u16 0, .int .u16 0, .int .u16 0, .int .u16 0, .int .u16 0, .int .u16 0, .int .u16 0, .int .u16 0, .int .u16 0, .int .u16 0, .int .u16 0, .int .u16 0, .int .u16 0, .int .u16 0, .int .u16 0, .int .u16 0, .int .u16 0, .int .u16 0, .int .u16 0, .int .u16 0, .int .u16 0, .int .u16 0, .int .u16 0, .int .u16 0, .int .u16 0, .int .u16 0, .int .u16 0, .int .u16 0, .int .u16 0, .int .u16 0, .int .u16 0, .int .u16 0, .int .u16 0, .int .u16 0, .int .u16 0, .int .u16 0, .int .u16 0, .int .u16 0, .int .u16 0, .int .u16 0, .int .u16 0, .int .u16 0, .int .u16 0, .int .u16 0, .int .u16 0, .int .u16 0, .int .u16 0, .int .u16 0, .int .u16 0, .int .u16 0, .int .u16 0, .int .u16 0, .int .u16 0, .int .u16 0, .int .u16 0, .int .u16 0, .int .u16 0, .int .u16 0, .int .u16 0, .int .u16 0, .int .u16 0, .int .u16 0, .int .u16 0, .int .u16 0, .int .u16 0, .int .u16 0, .int .u16 0, .int .u16 0, .int .u16 0, .int .u16 0, .int .u16 0, .int .u16 0, .int .u16 0, .int .u16 0, .int .u16 0, .int .u16 0, .int .u16 0, .int .u16 0, .int .u16 0, .int .u16 0, .int .u16 0, .int .u16 0, .int .u16 0, .int .u16 0, .int .u16 0, .int .u16 0, .int .u16 0, .int .u16 0, .int .u16 0, .int .u16 0, .int .u16 0, .int .u16 0, .int .u16 0, .int .u16 0, .int .u16 0, .int .u16 0, .int .u16 0, .int .u16 0, .int .u16 0, .int .u16 0, .int .u16 0, .int .u16 0, .int .u16 0, .int .u16 0, .int .u16 0, .int .u16 0, .int .u16 0, .int .u16 0, .int .u16 0, .int .u16 0, .int .u16 0, .int .u16 0, .int .u16 0, .int .u16 0, .int .u16 0, .int .u16 0, .int .u16 0, .int .u16 0, .slice none 0 0] T_automaton_state) fun t43 h2 => bltV Try.prog .append #[T_sl_automaton_state, T_sl_automaton_state] T_sl_automaton_state #[false, false] #[.slice t41a t41n t41c, .slice (some t43) 1 1] h2 fun v h3 => ∃ t44a : Option Addr, ∃ t44n : Nat, ∃ t44c : Nat, v = .slice t44a t44n t44c ∧ nn a_0 fun t45 => st1 h3 t45 (.slice t44a t44n t44c) fun h4 => nn a_0 fun t48 => ldL h4 t48 fun t50a t50n t50c => idxA now_6 t50n (nn t50a fun t55 => idxA t18 256 (st1 h4 (Addr.add (Addr.add t55 ((now_6).toNat * 259)) ((t18).toNat * 1)) (.int .u16 (wrap .u16 ((t35n : Nat) : Int))) fun h5 => Kn1 (((t35n : Nat) : Int), wrap .i64 (t12 + 1)) h5))) else (Kn1 (wrap .i64 t28, wrap .i64 (t12 + 1)) h1)))) else (automaton_Automaton_add_b2 a_0 index_1 now_6 Q h)
def automaton_Automaton_add_v (a_0 : Option Addr) (index_1 : Int) (s_2 : ByteArray) (Q : QT) (h : Heap) : Prop :=
 LoopV (fun (s : Int × Int) h Kn => automaton_Automaton_add_l1 a_0 index_1 s_2 ((s_2.size : Nat) : Int) Q s.1 s.2 h Kn) (0, 0) h
set_option maxRecDepth 100000 in
theorem automaton_Automaton_add_s (a_0 : Option Addr) (index_1 : Int) (s_2 : ByteArray) {Q : QT} {h : Heap} (hk : automaton_Automaton_add_v a_0 index_1 s_2 Q h) : CallT Try.prog fn_automaton_Automaton_add #[.pointer a_0, .int .i64 index_1, .string s_2] h Q :=
 callU follows Try.func25 (Try.call25 _) rfl rfl [(26, fun e h => dP (e 0) fun a_0 => dI .i64 (e 1) fun index_1 => dI .i64 (e 6) fun now_6 => automaton_Automaton_add_b2 a_0 index_1 now_6 Q h)] [(6, fun e h => dP (e 0) fun a_0 => dI .i64 (e 1) fun index_1 => dS (e 2) fun s_2 => dI .i64 (e 11) fun t11 => dI .i64 (e 6) fun now_6 => dI .i64 (e 12) fun t12 => LoopV (fun (s : Int × Int) h Kn => automaton_Automaton_add_l1 a_0 index_1 s_2 t11 Q s.1 s.2 h Kn) (now_6, t12) h)]
 ⟨fun e h _ hk => by
 have F := Ag.nil (e := e)
 have ⟨a_0, F, hk⟩ := eP F hk
 have ⟨index_1, F, hk⟩ := eI F hk
 have ⟨now_6, F, hk⟩ := eI F hk
 exact cutU F (by as_aux_lemma => kernel_rfl) hk, trivial⟩
 ⟨⟨by kernel_rfl, fun e h he hk => by
 have F := Ag.nil (e := e)
 have ⟨a_0, F, hk⟩ := eP F hk
 have ⟨index_1, F, hk⟩ := eI F hk
 have ⟨s_2, F, hk⟩ := eS F hk
 have ⟨t11, F, hk⟩ := eI F hk
 have ⟨now_6, F, hk⟩ := eI F hk
 have ⟨t12, F, hk⟩ := eI F hk
 exact loopU (s0 := (now_6, t12)) follows (fun _ h => by cases h) he F (fun s => [(12, .int .i64 s.2), (6, .int .i64 s.1)]) (by kernel_rfl) (F.take 2) hk (fun Kn1 e h => dI .i64 (e 6) fun now_6 => dI .i64 (e 12) fun t12 => Kn1 (now_6, t12) h) (fun Kn1 e h hk => by
  have F := Ag.nil (e := e)
  have ⟨now_6, F, hk⟩ := eI F hk
  have ⟨t12, F, hk⟩ := eI F hk
  exact ⟨(now_6, t12), F, hk⟩)
  (fun Kn1 => []) (fun Kn1 => [])
  (fun Kn1 => trivial)
  (fun Kn1 => trivial) (fun e s h Kn1 => by as_aux_lemma => kernel_rfl)⟩, trivial⟩ (by as_aux_lemma => kernel_rfl) hk
/-! ### (*intrusion/automaton.Automaton).link -/
def automaton_Automaton_link_l5 (a_0 : Option Addr) (s_6 back_7 : Addr) (t73 : List Value) (Q : QT) (Kn3 : (Option Addr) × Nat × Nat → Heap → Prop) (queue_2a : Option Addr) (queue_2n queue_2c : Nat) (t74 : Int) (h : Heap) (Kn5 : (Option Addr) × Nat × Nat × Int → Heap → Prop) : Prop :=
 if (decide (t74 < 256)) = true then (idxA t74 256 (∃ v : Value, t73.toArray[(t74).toNat]? = some v ∧ ∃ t77 : Int, v = .int .u16 t77 ∧ if (t77 == 0) = true then (idxA t74 256 (ldI h (Addr.add back_7 ((t74).toNat * 1)) .u16 fun t87 => idxA t74 256 (st1 h (Addr.add s_6 ((t74).toNat * 1)) (.int .u16 t87) fun h5 => Kn5 (queue_2a, queue_2n, queue_2c, wrap .i64 (t74 + 1)) h5))) else (nn a_0 fun t92 => ldL h t92 fun t94a t94n t94c => idxA t74 256 (ldI h (Addr.add back_7 ((t74).toNat * 1)) .u16 fun t101 => idxA t77 t94n (nn t94a fun t102 => st1 h (Addr.add (Addr.add t102 ((t77).toNat * 259)) 256) (.int .u16 t101) fun h6 => alV h6 (.cells #[.int .u16 t77] T_uint16) fun t106 h7 => bltV Try.prog .append #[T_sl_uint16, T_sl_uint16] T_sl_uint16 #[false, false] #[.slice queue_2a queue_2n queue_2c, .slice (some t106) 1 1] h7 fun v h8 => ∃ t107a : Option Addr, ∃ t107n : Nat, ∃ t107c : Nat, v = .slice t107a t107n t107c ∧ Kn5 (t107a, t107n, t107c, wrap .i64 (t74 + 1)) h8))))) else (Kn3 (queue_2a, queue_2n, queue_2c) h)
def automaton_Automaton_link_b4 (a_0 queue_2a : Option Addr) (queue_2n queue_2c : Nat) (s_6 back_7 : Addr) (Q : QT) (Kn3 : (Option Addr) × Nat × Nat → Heap → Prop) (h : Heap) : Prop :=
 ldN h s_6 (kinds Try.prog 20 70) 0 fun t73 => LoopV (fun (s : (Option Addr) × Nat × Nat × Int) h Kn => automaton_Automaton_link_l5 a_0 s_6 back_7 t73 Q Kn3 s.1 s.2.1 s.2.2.1 s.2.2.2 h Kn) (queue_2a, queue_2n, queue_2c, 0) h
def automaton_Automaton_link_l3 (a_0 : Option Addr) (Q : QT) (queue_2a : Option Addr) (queue_2n queue_2c : Nat) (h : Heap) (Kn3 : (Option Addr) × Nat × Nat → Heap → Prop) : Prop :=
 if (decide (((queue_2n : Nat) : Int) > 0)) = true then (idxA (0 : Int) queue_2n (nn queue_2a fun t31 => ldI h (Addr.add t31 (((0 : Int)).toNat * 1)) .u16 fun t32 => sliceSl 1 queue_2a queue_2n queue_2c (some (1 : Int)) none none fun t34a t34n t34c => nn a_0 fun t36 => ldL h t36 fun t38a t38n t38c => idxA t32 t38n (nn t38a fun t40 => nn a_0 fun t42 => ldL h t42 fun t44a t44n t44c => ldI h (Addr.add (Addr.add t40 ((t32).toNat * 259)) 256) .u16 fun t48 => idxA t48 t44n (nn t44a fun t49 => ldI h (Addr.add (Addr.add t40 ((t32).toNat * 259)) 256) .u16 fun t54 => st1 h (Addr.add (Addr.add t40 ((t32).toNat * 259)) 257) (.int .u16 t54) fun h3 => ldL h3 (Addr.add (Addr.add t49 ((t48).toNat * 259)) 258) fun t60a t60n t60c => if (((t60n : Nat) : Int) == 0) = true then (ldI h3 (Addr.add (Addr.add t49 ((t48).toNat * 259)) 257) .u16 fun t67 => st1 h3 (Addr.add (Addr.add t40 ((t32).toNat * 259)) 257) (.int .u16 t67) fun h4 => automaton_Automaton_link_b4 a_0 t34a t34n t34c (Addr.add t40 ((t32).toNat * 259)) (Addr.add t49 ((t48).toNat * 259)) Q Kn3 h4) else (automaton_Automaton_link_b4 a_0 t34a t34n t34c (Addr.add t40 ((t32).toNat * 259)) (Addr.add t49 ((t48).toNat * 259)) Q Kn3 h3))))) else (Q (.tuple #[]) h)
def automaton_Automaton_link_b2 (a_0 queue_2a : Option Addr) (queue_2n queue_2c : Nat) (Q : QT) (h : Heap) : Prop :=
 LoopV (fun (s : (Option Addr) × Nat × Nat) h Kn => automaton_Automaton_link_l3 a_0 Q s.1 s.2.1 s.2.2 h Kn) (queue_2a, queue_2n, queue_2c) h
def automaton_Automaton_link_l1 (a_0 : Option Addr) (t16 : List Value) (Q : QT) (queue_2a : Option Addr) (queue_2n queue_2c : Nat) (t17 : Int) (h : Heap) (Kn1 : (Option Addr) × Nat × Nat × Int → Heap → Prop) : Prop :=
 if (decide (t17 < 256)) = true then (idxA t17 256 (∃ v : Value, t16.toArray[(t17).toNat]? = some v ∧ ∃ t19 : Int, v = .int .u16 t19 ∧ if (t19 != 0) = true then (alV h (.cells #[.int .u16 t19] T_uint16) fun t24 h1 => bltV Try.prog .append #[T_sl_uint16, T_sl_uint16] T_sl_uint16 #[false, false] #[.slice queue_2a queue_2n queue_2c, .slice (some t24) 1 1] h1 fun v h2 => ∃ t25a : Option Addr, ∃ t25n : Nat, ∃ t25c : Nat, v = .slice t25a t25n t25c ∧ Kn1 (t25a, t25n, t25c, wrap .i64 (t17 + 1)) h2) else (Kn1 (queue_2a, queue_2n, queue_2c, wrap .i64 (t17 + 1)) h))) else (automaton_Automaton_link_b2 a_0 queue_2a queue_2n queue_2c Q h)
def automaton_Automaton_link_v (a_0 : Option Addr) (Q : QT) (h : Heap) : Prop :=
 nn a_0 fun t11 => ldL h t11 fun t13a t13n t13c => idxA (0 : Int) t13n (nn t13a fun t14 => ldN h (Addr.add t14 (((0 : Int)).toNat * 259)) (kinds Try.prog 20 70) 0 fun t16 => LoopV (fun (s : (Option Addr) × Nat × Nat × Int) h Kn => automaton_Automaton_link_l1 a_0 t16 Q s.1 s.2.1 s.2.2.1 s.2.2.2 h Kn) (none, 0, 0, 0) h)
set_option maxRecDepth 100000 in
theorem automaton_Automaton_link_s (a_0 : Option Addr) {Q : QT} {h : Heap} (hk : automaton_Automaton_link_v a_0 Q h) : CallT Try.prog fn_automaton_Automaton_link #[.pointer a_0] h Q :=
 callU follows Try.func26 (Try.call26 _) rfl rfl [(16, fun e h => dP (e 0) fun a_0 => dL (e 2) fun queue_2a queue_2n queue_2c => automaton_Automaton_link_b2 a_0 queue_2a queue_2n queue_2c Q h)] [(6, fun e h => dP (e 0) fun a_0 => dG (e 16) fun t16 => dL (e 2) fun queue_2a queue_2n queue_2c => dI .i64 (e 17) fun t17 => LoopV (fun (s : (Option Addr) × Nat × Nat × Int) h Kn => automaton_Automaton_link_l1 a_0 t16 Q s.1 s.2.1 s.2.2.1 s.2.2.2 h Kn) (queue_2a, queue_2n, queue_2c, t17) h), (16, fun e h => dP (e 0) fun a_0 => dL (e 2) fun queue_2a queue_2n queue_2c => LoopV (fun (s : (Option Addr) × Nat × Nat) h Kn => automaton_Automaton_link_l3 a_0 Q s.1 s.2.1 s.2.2 h Kn) (queue_2a, queue_2n, queue_2c) h)]
 ⟨fun e h _ hk => by
 have F := Ag.nil (e := e)
 have ⟨a_0, F, hk⟩ := eP F hk
 have ⟨queue_2a, queue_2n, queue_2c, F, hk⟩ := eL F hk
 exact cutU F (by as_aux_lemma => kernel_rfl) hk, trivial⟩
 ⟨⟨by kernel_rfl, fun e h he hk => by
 have F := Ag.nil (e := e)
 have ⟨a_0, F, hk⟩ := eP F hk
 have ⟨t16, F, hk⟩ := eG F hk
 have ⟨queue_2a, queue_2n, queue_2c, F, hk⟩ := eL F hk
 have ⟨t17, F, hk⟩ := eI F hk
 exact loopU (s0 := (queue_2a, queue_2n, queue_2c, t17)) follows (fun _ h => by cases h) he F (fun s => [(17, .int .i64 s.2.2.2), (2, .slice s.1 s.2.1 s.2.2.1)]) (by kernel_rfl) (F.take 2) hk (fun Kn1 e h => dL (e 2) fun queue_2a queue_2n queue_2c => dI .i64 (e 17) fun t17 => Kn1 (queue_2a, queue_2n, queue_2c, t17) h) (fun Kn1 e h hk => by
  have F := Ag.nil (e := e)
  have ⟨queue_2a, queue_2n, queue_2c, F, hk⟩ := eL F hk
  have ⟨t17, F, hk⟩ := eI F hk
  exact ⟨(queue_2a, queue_2n, queue_2c, t17), F, hk⟩)
  (fun Kn1 => []) (fun Kn1 => [])
  (fun Kn1 => trivial)
  (fun Kn1 => trivial) (fun e s h Kn1 => by as_aux_lemma => kernel_rfl)⟩, ⟨by kernel_rfl, fun e h he hk => by
 have F := Ag.nil (e := e)
 have ⟨a_0, F, hk⟩ := eP F hk
 have ⟨queue_2a, queue_2n, queue_2c, F, hk⟩ := eL F hk
 exact loopU (s0 := (queue_2a, queue_2n, queue_2c)) follows (fun _ h => by cases h) he F (fun s => [(2, .slice s.1 s.2.1 s.2.2)]) (by kernel_rfl) (F.take 1) hk (fun Kn3 e h => dL (e 2) fun queue_2a queue_2n queue_2c => Kn3 (queue_2a, queue_2n, queue_2c) h) (fun Kn3 e h hk => by
  have F := Ag.nil (e := e)
  have ⟨queue_2a, queue_2n, queue_2c, F, hk⟩ := eL F hk
  exact ⟨(queue_2a, queue_2n, queue_2c), F, hk⟩)
  (fun Kn3 => [(32, fun e h => dP (e 0) fun a_0 => dL (e 2) fun queue_2a queue_2n queue_2c => dA (e 6) fun s_6 => dA (e 7) fun back_7 => automaton_Automaton_link_b4 a_0 queue_2a queue_2n queue_2c s_6 back_7 Q Kn3 h)]) (fun Kn3 => [(34, fun e h => dP (e 0) fun a_0 => dA (e 6) fun s_6 => dA (e 7) fun back_7 => dG (e 73) fun t73 => dL (e 2) fun queue_2a queue_2n queue_2c => dI .i64 (e 74) fun t74 => LoopV (fun (s : (Option Addr) × Nat × Nat × Int) h Kn => automaton_Automaton_link_l5 a_0 s_6 back_7 t73 Q Kn3 s.1 s.2.1 s.2.2.1 s.2.2.2 h Kn) (queue_2a, queue_2n, queue_2c, t74) h)])
  (fun Kn3 => ⟨fun e h _ hk => by
 have F := Ag.nil (e := e)
 have ⟨a_0, F, hk⟩ := eP F hk
 have ⟨queue_2a, queue_2n, queue_2c, F, hk⟩ := eL F hk
 have ⟨s_6, F, hk⟩ := eA F hk
 have ⟨back_7, F, hk⟩ := eA F hk
 exact cutU F (by as_aux_lemma => kernel_rfl) hk, trivial⟩)
  (fun Kn3 => ⟨⟨by kernel_rfl, fun e h he hk => by
 have F := Ag.nil (e := e)
 have ⟨a_0, F, hk⟩ := eP F hk
 have ⟨s_6, F, hk⟩ := eA F hk
 have ⟨back_7, F, hk⟩ := eA F hk
 have ⟨t73, F, hk⟩ := eG F hk
 have ⟨queue_2a, queue_2n, queue_2c, F, hk⟩ := eL F hk
 have ⟨t74, F, hk⟩ := eI F hk
 exact loopU (s0 := (queue_2a, queue_2n, queue_2c, t74)) follows (keep_sub (by kernel_rfl)) he F (fun s => [(74, .int .i64 s.2.2.2), (2, .slice s.1 s.2.1 s.2.2.1)]) (by kernel_rfl) (F.take 2) hk (fun Kn5 e h => dL (e 2) fun queue_2a queue_2n queue_2c => dI .i64 (e 74) fun t74 => Kn5 (queue_2a, queue_2n, queue_2c, t74) h) (fun Kn5 e h hk => by
  have F := Ag.nil (e := e)
  have ⟨queue_2a, queue_2n, queue_2c, F, hk⟩ := eL F hk
  have ⟨t74, F, hk⟩ := eI F hk
  exact ⟨(queue_2a, queue_2n, queue_2c, t74), F, hk⟩)
  (fun Kn5 => []) (fun Kn5 => [])
  (fun Kn5 => trivial)
  (fun Kn5 => trivial) (fun e s h Kn5 => by as_aux_lemma => kernel_rfl)⟩, trivial⟩) (fun e s h Kn3 => by as_aux_lemma => kernel_rfl)⟩, trivial⟩ (by as_aux_lemma => kernel_rfl) hk
/-! ### intrusion/intrusionref45.small -/
def ref45_small_v (s_0 : ByteArray) (Q : QT) (h : Heap) : Prop :=
 CallT Try.prog fn_ref26_Apply #[.int .i64 1, .string s_0] h fun v h1 => ∃ t4 : ByteArray, v = .string t4 ∧ Q (.string t4) h1
set_option maxRecDepth 100000 in
theorem ref45_small_s (s_0 : ByteArray) {Q : QT} {h : Heap} (hk : ref45_small_v s_0 Q h) : CallT Try.prog fn_ref45_small #[.string s_0] h Q :=
 callU follows Try.func27 (Try.call27 _) rfl rfl [] []
 trivial
 trivial (by as_aux_lemma => kernel_rfl) hk
/-! ### (*intrusion/automaton.Cursor).step -/
def automaton_Cursor_step_b3 (found_5a : Option Addr) (found_5n found_5c : Nat) (Q : QT) (h : Heap) : Prop :=
 CallT Try.prog fn_slices_Sort_int_int #[.slice found_5a found_5n found_5c] h fun v h11 => v = .tuple #[] ∧ Q (.slice found_5a found_5n found_5c) h11
def automaton_Cursor_step_l2 (c_0 : Option Addr) (Q : QT) (found_5a : Option Addr) (found_5n found_5c : Nat) (now_6 : Int) (h : Heap) (Kn2 : (Option Addr) × Nat × Nat × Int → Heap → Prop) : Prop :=
 if (now_6 != 0) = true then (nn c_0 fun t83 => ldP h t83 fun t85 => nn t85 fun t86 => ldL h t86 fun t88a t88n t88c => idxA now_6 t88n (nn t88a fun t90 => ldL h (Addr.add (Addr.add t90 ((now_6).toNat * 259)) 258) fun t92a t92n t92c => CallT Try.prog fn_automaton_keep #[.slice t92a t92n t92c, .func (.func 35) #[.pointer c_0] #[]] h fun v h9 => ∃ t95a : Option Addr, ∃ t95n : Nat, ∃ t95c : Nat, v = .slice t95a t95n t95c ∧ bltV Try.prog .append #[T_sl_int, T_sl_int] T_sl_int #[false, false] #[.slice found_5a found_5n found_5c, .slice t95a t95n t95c] h9 fun v h10 => ∃ t96a : Option Addr, ∃ t96n : Nat, ∃ t96c : Nat, v = .slice t96a t96n t96c ∧ nn c_0 fun t71 => ldP h10 t71 fun t73 => nn t73 fun t74 => ldL h10 t74 fun t76a t76n t76c => idxA now_6 t76n (nn t76a fun t78 => ldI h10 (Addr.add (Addr.add t78 ((now_6).toNat * 259)) 257) .u16 fun t80 => Kn2 (t96a, t96n, t96c, t80) h10))) else (automaton_Cursor_step_b3 found_5a found_5n found_5c Q h)
def automaton_Cursor_step_b1 (c_0 : Option Addr) (b_1 : Int) (Q : QT) (h : Heap) : Prop :=
 nn c_0 fun t36 => ldL h (Addr.add t36 3) fun t38a t38n t38c => alV h (.cells #[.int .u8 b_1] T_uint8) fun t40 h4 => bltV Try.prog .append #[T_sl_uint8, T_sl_uint8] T_sl_uint8 #[false, false] #[.slice t38a t38n t38c, .slice (some t40) 1 1] h4 fun v h5 => ∃ t41a : Option Addr, ∃ t41n : Nat, ∃ t41c : Nat, v = .slice t41a t41n t41c ∧ nn c_0 fun t42 => st1 h5 (Addr.add t42 3) (.slice t41a t41n t41c) fun h6 => nn c_0 fun t46 => ldP h6 t46 fun t48 => nn t48 fun t49 => ldL h6 t49 fun t51a t51n t51c => nn c_0 fun t53 => ldI h6 (Addr.add t53 1) .u16 fun t55 => idxA t55 t51n (nn t51a fun t58 => CallT Try.prog fn_automaton_small #[.int .u8 b_1] h6 fun v h7 => ∃ t57 : Int, v = .int .u8 t57 ∧ (ldP h7 t46 fun t948 => (.pointer t948 : Value) = .pointer t48) ∧ (ldL h7 t49 fun t951a t951n t951c => (.slice t951a t951n t951c : Value) = .slice t51a t51n t51c) ∧ (ldI h7 (Addr.add t53 1) .u16 fun t955 => (.int .u16 t955 : Value) = .int .u16 t55) ∧ idxA t57 256 (ldI h7 (Addr.add (Addr.add t58 ((t55).toNat * 259)) ((t57).toNat * 1)) .u16 fun t61 => nn c_0 fun t62 => st1 h7 (Addr.add t62 1) (.int .u16 t61) fun h8 => nn c_0 fun t65 => ldI h8 (Addr.add t65 1) .u16 fun t67 => LoopV (fun (s : (Option Addr) × Nat × Nat × Int) h Kn => automaton_Cursor_step_l2 c_0 Q s.1 s.2.1 s.2.2.1 s.2.2.2 h Kn) (none, 0, 0, t67) h8))
def automaton_Cursor_step_v (c_0 : Option Addr) (b_1 : Int) (Q : QT) (h : Heap) : Prop :=
 nn c_0 fun t8 => ldI h (Addr.add t8 2) .i64 fun t10 => nn c_0 fun t12 => st1 h (Addr.add t12 2) (.int .i64 (wrap .i64 (t10 + 1))) fun h1 => nn c_0 fun t15 => ldL h1 (Addr.add t15 3) fun t17a t17n t17c => if (((t17n : Nat) : Int) == 64) = true then (nn c_0 fun t22 => ldL h1 (Addr.add t22 3) fun t24a t24n t24c => sliceSl 1 t24a t24n t24c none (some (0 : Int)) none fun t25a t25n t25c => nn c_0 fun t27 => ldL h1 (Addr.add t27 3) fun t29a t29n t29c => sliceSl 1 t29a t29n t29c (some (1 : Int)) none none fun t30a t30n t30c => bltV Try.prog .append #[T_sl_uint8, T_sl_uint8] T_sl_uint8 #[false, false] #[.slice t25a t25n t25c, .slice t30a t30n t30c] h1 fun v h2 => ∃ t31a : Option Addr, ∃ t31n : Nat, ∃ t31c : Nat, v = .slice t31a t31n t31c ∧ nn c_0 fun t32 => st1 h2 (Addr.add t32 3) (.slice t31a t31n t31c) fun h3 => automaton_Cursor_step_b1 c_0 b_1 Q h3) else (automaton_Cursor_step_b1 c_0 b_1 Q h1)
set_option maxRecDepth 100000 in
theorem automaton_Cursor_step_s (c_0 : Option Addr) (b_1 : Int) {Q : QT} {h : Heap} (hk : automaton_Cursor_step_v c_0 b_1 Q h) : CallT Try.prog fn_automaton_Cursor_step #[.pointer c_0, .int .u8 b_1] h Q :=
 callU follows Try.func28 (Try.call28 _) rfl rfl [(10, fun e h => dP (e 0) fun c_0 => dI .u8 (e 1) fun b_1 => automaton_Cursor_step_b1 c_0 b_1 Q h), (24, fun e h => dL (e 5) fun found_5a found_5n found_5c => automaton_Cursor_step_b3 found_5a found_5n found_5c Q h)] [(18, fun e h => dP (e 0) fun c_0 => dL (e 5) fun found_5a found_5n found_5c => dI .u16 (e 6) fun now_6 => LoopV (fun (s : (Option Addr) × Nat × Nat × Int) h Kn => automaton_Cursor_step_l2 c_0 Q s.1 s.2.1 s.2.2.1 s.2.2.2 h Kn) (found_5a, found_5n, found_5c, now_6) h)]
 ⟨fun e h _ hk => by
 have F := Ag.nil (e := e)
 have ⟨c_0, F, hk⟩ := eP F hk
 have ⟨b_1, F, hk⟩ := eI F hk
 exact cutU F (by as_aux_lemma => kernel_rfl) hk, fun e h _ hk => by
 have F := Ag.nil (e := e)
 have ⟨found_5a, found_5n, found_5c, F, hk⟩ := eL F hk
 exact cutU F (by as_aux_lemma => kernel_rfl) hk, trivial⟩
 ⟨⟨by kernel_rfl, fun e h he hk => by
 have F := Ag.nil (e := e)
 have ⟨c_0, F, hk⟩ := eP F hk
 have ⟨found_5a, found_5n, found_5c, F, hk⟩ := eL F hk
 have ⟨now_6, F, hk⟩ := eI F hk
 exact loopU (s0 := (found_5a, found_5n, found_5c, now_6)) follows (fun _ h => by cases h) he F (fun s => [(6, .int .u16 s.2.2.2), (5, .slice s.1 s.2.1 s.2.2.1)]) (by kernel_rfl) (F.take 2) hk (fun Kn2 e h => dL (e 5) fun found_5a found_5n found_5c => dI .u16 (e 6) fun now_6 => Kn2 (found_5a, found_5n, found_5c, now_6) h) (fun Kn2 e h hk => by
  have F := Ag.nil (e := e)
  have ⟨found_5a, found_5n, found_5c, F, hk⟩ := eL F hk
  have ⟨now_6, F, hk⟩ := eI F hk
  exact ⟨(found_5a, found_5n, found_5c, now_6), F, hk⟩)
  (fun Kn2 => []) (fun Kn2 => [])
  (fun Kn2 => trivial)
  (fun Kn2 => trivial) (fun e s h Kn2 => by as_aux_lemma => kernel_rfl)⟩, trivial⟩ (by as_aux_lemma => kernel_rfl) hk
/-! ### intrusion/intrusionref45.after -/
def ref45_after_l2 (l_0a : Option Addr) (l_0n l_0c : Nat) (s_1 : ByteArray) (n_8 : Int) (Q : QT) (Kn1 : (Option Addr) × Nat × Nat × Int → Heap → Prop) (out_7a : Option Addr) (out_7n out_7c : Nat) (i_9 : Int) (h : Heap) (Kn2 : (Option Addr) × Nat × Nat × Int → Heap → Prop) : Prop :=
 if (decide (i_9 < ((l_0n : Nat) : Int))) = true then (idxA i_9 l_0n (nn l_0a fun t27 => ldS h (Addr.add t27 ((i_9).toNat * 2)) fun t28_0 => ldB h (Addr.add (Addr.add t27 ((i_9).toNat * 2)) 1) fun t28_1 => CallT Try.prog fn_ref45_Occurs #[.agg #[.string t28_0, .bool t28_1], .string s_1, .int .i64 n_8] h fun v h2 => ∃ t31 : Bool, v = .bool t31 ∧ if t31 = true then (alV h2 (.cells #[.int .i64 i_9, .int .i64 n_8] T_api_Hit) fun t36 h3 => bltV Try.prog .append #[T_sl_api_Hit, T_sl_api_Hit] T_sl_api_Hit #[false, false] #[.slice out_7a out_7n out_7c, .slice (some t36) 1 1] h3 fun v h4 => ∃ t37a : Option Addr, ∃ t37n : Nat, ∃ t37c : Nat, v = .slice t37a t37n t37c ∧ Kn2 (t37a, t37n, t37c, wrap .i64 (i_9 + 1)) h4) else (Kn2 (out_7a, out_7n, out_7c, wrap .i64 (i_9 + 1)) h2))) else (Kn1 (out_7a, out_7n, out_7c, wrap .i64 (n_8 + 1)) h)
def ref45_after_l1 (l_0a : Option Addr) (l_0n l_0c : Nat) (s_1 : ByteArray) (Q : QT) (out_7a : Option Addr) (out_7n out_7c : Nat) (n_8 : Int) (h : Heap) (Kn1 : (Option Addr) × Nat × Nat × Int → Heap → Prop) : Prop :=
 if (decide (n_8 ≤ ((s_1.size : Nat) : Int))) = true then (LoopV (fun (s : (Option Addr) × Nat × Nat × Int) h Kn => ref45_after_l2 l_0a l_0n l_0c s_1 n_8 Q Kn1 s.1 s.2.1 s.2.2.1 s.2.2.2 h Kn) (out_7a, out_7n, out_7c, 0) h) else (Q (.slice out_7a out_7n out_7c) h)
def ref45_after_v (l_0a : Option Addr) (l_0n l_0c : Nat) (s_1 : ByteArray) (from_2 : Int) (Q : QT) (h : Heap) : Prop :=
 alV h (.cells #[] T_api_Hit) fun t10 h1 => LoopV (fun (s : (Option Addr) × Nat × Nat × Int) h Kn => ref45_after_l1 l_0a l_0n l_0c s_1 Q s.1 s.2.1 s.2.2.1 s.2.2.2 h Kn) (some t10, 0, 0, wrap .i64 (from_2 + 1)) h1
set_option maxRecDepth 100000 in
theorem ref45_after_s (l_0a : Option Addr) (l_0n l_0c : Nat) (s_1 : ByteArray) (from_2 : Int) {Q : QT} {h : Heap} (hk : ref45_after_v l_0a l_0n l_0c s_1 from_2 Q h) : CallT Try.prog fn_ref45_after #[.slice l_0a l_0n l_0c, .string s_1, .int .i64 from_2] h Q :=
 callU follows Try.func29 (Try.call29 _) rfl rfl [] [(8, fun e h => dL (e 0) fun l_0a l_0n l_0c => dS (e 1) fun s_1 => dL (e 7) fun out_7a out_7n out_7c => dI .i64 (e 8) fun n_8 => LoopV (fun (s : (Option Addr) × Nat × Nat × Int) h Kn => ref45_after_l1 l_0a l_0n l_0c s_1 Q s.1 s.2.1 s.2.2.1 s.2.2.2 h Kn) (out_7a, out_7n, out_7c, n_8) h)]
 trivial
 ⟨⟨by kernel_rfl, fun e h he hk => by
 have F := Ag.nil (e := e)
 have ⟨l_0a, l_0n, l_0c, F, hk⟩ := eL F hk
 have ⟨s_1, F, hk⟩ := eS F hk
 have ⟨out_7a, out_7n, out_7c, F, hk⟩ := eL F hk
 have ⟨n_8, F, hk⟩ := eI F hk
 exact loopU (s0 := (out_7a, out_7n, out_7c, n_8)) follows (fun _ h => by cases h) he F (fun s => [(8, .int .i64 s.2.2.2), (7, .slice s.1 s.2.1 s.2.2.1)]) (by kernel_rfl) (F.take 2) hk (fun Kn1 e h => dL (e 7) fun out_7a out_7n out_7c => dI .i64 (e 8) fun n_8 => Kn1 (out_7a, out_7n, out_7c, n_8) h) (fun Kn1 e h hk => by
  have F := Ag.nil (e := e)
  have ⟨out_7a, out_7n, out_7c, F, hk⟩ := eL F hk
  have ⟨n_8, F, hk⟩ := eI F hk
  exact ⟨(out_7a, out_7n, out_7c, n_8), F, hk⟩)
  (fun Kn1 => []) (fun Kn1 => [(14, fun e h => dL (e 0) fun l_0a l_0n l_0c => dS (e 1) fun s_1 => dI .i64 (e 8) fun n_8 => dL (e 7) fun out_7a out_7n out_7c => dI .i64 (e 9) fun i_9 => LoopV (fun (s : (Option Addr) × Nat × Nat × Int) h Kn => ref45_after_l2 l_0a l_0n l_0c s_1 n_8 Q Kn1 s.1 s.2.1 s.2.2.1 s.2.2.2 h Kn) (out_7a, out_7n, out_7c, i_9) h)])
  (fun Kn1 => trivial)
  (fun Kn1 => ⟨⟨by kernel_rfl, fun e h he hk => by
 have F := Ag.nil (e := e)
 have ⟨l_0a, l_0n, l_0c, F, hk⟩ := eL F hk
 have ⟨s_1, F, hk⟩ := eS F hk
 have ⟨n_8, F, hk⟩ := eI F hk
 have ⟨out_7a, out_7n, out_7c, F, hk⟩ := eL F hk
 have ⟨i_9, F, hk⟩ := eI F hk
 exact loopU (s0 := (out_7a, out_7n, out_7c, i_9)) follows (keep_sub (by kernel_rfl)) he F (fun s => [(9, .int .i64 s.2.2.2), (7, .slice s.1 s.2.1 s.2.2.1)]) (by kernel_rfl) (F.take 2) hk (fun Kn2 e h => dL (e 7) fun out_7a out_7n out_7c => dI .i64 (e 9) fun i_9 => Kn2 (out_7a, out_7n, out_7c, i_9) h) (fun Kn2 e h hk => by
  have F := Ag.nil (e := e)
  have ⟨out_7a, out_7n, out_7c, F, hk⟩ := eL F hk
  have ⟨i_9, F, hk⟩ := eI F hk
  exact ⟨(out_7a, out_7n, out_7c, i_9), F, hk⟩)
  (fun Kn2 => []) (fun Kn2 => [])
  (fun Kn2 => trivial)
  (fun Kn2 => trivial) (fun e s h Kn2 => by as_aux_lemma => kernel_rfl)⟩, trivial⟩) (fun e s h Kn1 => by as_aux_lemma => kernel_rfl)⟩, trivial⟩ (by as_aux_lemma => kernel_rfl) hk
/-! ### intrusion/automaton.lower -/
def automaton_lower_l1 (out_3a : Option Addr) (out_3n out_3c : Nat) (t8a : Option Addr) (t8n t8c : Nat) (t9 : Int) (Q : QT) (t10 : Int) (h : Heap) (Kn1 : Int → Heap → Prop) : Prop :=
 if (decide (t10 < t9)) = true then (idxA t10 t8n (nn t8a fun t13 => ldI h (Addr.add t13 ((t10).toNat * 1)) .u8 fun t14 => CallT Try.prog fn_automaton_small #[.int .u8 t14] h fun v h2 => ∃ t18 : Int, v = .int .u8 t18 ∧ idxA t10 out_3n (nn out_3a fun t19 => st1 h2 (Addr.add t19 ((t10).toNat * 1)) (.int .u8 t18) fun h3 => Kn1 (wrap .i64 (t10 + 1)) h3))) else (convV Try.prog T_sl_uint8 T_string (.slice out_3a out_3n out_3c) h fun v h4 => ∃ t22 : ByteArray, v = .string t22 ∧ Q (.string t22) h4)
def automaton_lower_v (s_0 : ByteArray) (Q : QT) (h : Heap) : Prop :=
 convV Try.prog T_string T_sl_uint8 (.string s_0) h fun v h1 => ∃ t7a : Option Addr, ∃ t7n : Nat, ∃ t7c : Nat, v = .slice t7a t7n t7c ∧ LoopV (fun (s : Int) h Kn => automaton_lower_l1 t7a t7n t7c t7a t7n t7c ((t7n : Nat) : Int) Q s h Kn) 0 h1
set_option maxRecDepth 100000 in
theorem automaton_lower_s (s_0 : ByteArray) {Q : QT} {h : Heap} (hk : automaton_lower_v s_0 Q h) : CallT Try.prog fn_automaton_lower #[.string s_0] h Q :=
 callU follows Try.func30 (Try.call30 _) rfl rfl [] [(8, fun e h => dL (e 3) fun out_3a out_3n out_3c => dL (e 8) fun t8a t8n t8c => dI .i64 (e 9) fun t9 => dI .i64 (e 10) fun t10 => LoopV (fun (s : Int) h Kn => automaton_lower_l1 out_3a out_3n out_3c t8a t8n t8c t9 Q s h Kn) t10 h)]
 trivial
 ⟨⟨by kernel_rfl, fun e h he hk => by
 have F := Ag.nil (e := e)
 have ⟨out_3a, out_3n, out_3c, F, hk⟩ := eL F hk
 have ⟨t8a, t8n, t8c, F, hk⟩ := eL F hk
 have ⟨t9, F, hk⟩ := eI F hk
 have ⟨t10, F, hk⟩ := eI F hk
 exact loopU (s0 := t10) follows (fun _ h => by cases h) he F (fun s => [(10, .int .i64 s)]) (by kernel_rfl) (F.take 1) hk (fun Kn1 e h => dI .i64 (e 10) fun t10 => Kn1 t10 h) (fun Kn1 e h hk => by
  have F := Ag.nil (e := e)
  have ⟨t10, F, hk⟩ := eI F hk
  exact ⟨t10, F, hk⟩)
  (fun Kn1 => []) (fun Kn1 => [])
  (fun Kn1 => trivial)
  (fun Kn1 => trivial) (fun e s h Kn1 => by as_aux_lemma => kernel_rfl)⟩, trivial⟩ (by as_aux_lemma => kernel_rfl) hk
/-! ### strings.HasSuffix -/
def strings_HasSuffix_v (s_0 suffix_1 : ByteArray) (Q : QT) (h : Heap) : Prop :=
 CallT Try.prog fn_internal_stringslite_HasSuffix #[.string s_0, .string suffix_1] h fun v h1 => ∃ t7 : Bool, v = .bool t7 ∧ Q (.bool t7) h1
set_option maxRecDepth 100000 in
theorem strings_HasSuffix_s (s_0 suffix_1 : ByteArray) {Q : QT} {h : Heap} (hk : strings_HasSuffix_v s_0 suffix_1 Q h) : CallT Try.prog fn_strings_HasSuffix #[.string s_0, .string suffix_1] h Q :=
 callU follows Try.func31 (Try.call31 _) rfl rfl [] []
 trivial
 trivial (by as_aux_lemma => kernel_rfl) hk
/-! ### intrusion/automaton.small -/
def automaton_small_v (c_0 : Int) (Q : QT) (h : Heap) : Prop :=
 if (decide (65 ≤ c_0)) = true then (if (decide (c_0 ≤ 90)) = true then (Q (.int .u8 (wrap .u8 ((wrap .u8 (c_0 + 97)) - 65))) h) else (Q (.int .u8 c_0) h)) else (Q (.int .u8 c_0) h)
set_option maxRecDepth 100000 in
theorem automaton_small_s (c_0 : Int) {Q : QT} {h : Heap} (hk : automaton_small_v c_0 Q h) : CallT Try.prog fn_automaton_small #[.int .u8 c_0] h Q :=
 callU follows Try.func32 (Try.call32 _) rfl rfl [] []
 trivial
 trivial (by as_aux_lemma => kernel_rfl) hk
/-! ### intrusion/intrusionref26.Apply -/
def ref26_Apply_v (kind_0 : Int) (s_1 : ByteArray) (Q : QT) (h : Heap) : Prop :=
 if (kind_0 == 1) = true then (CallT Try.prog fn_ref26_lower #[.string s_1] h fun v h1 => ∃ t9 : ByteArray, v = .string t9 ∧ Q (.string t9) h1) else (if (kind_0 == 2) = true then (CallT Try.prog fn_ref26_strip #[.string s_1] h fun v h2 => ∃ t13 : ByteArray, v = .string t13 ∧ Q (.string t13) h2) else (if (kind_0 == 3) = true then (CallT Try.prog fn_ref26_percent #[.string s_1] h fun v h3 => ∃ t17 : ByteArray, v = .string t17 ∧ Q (.string t17) h3) else (if (kind_0 == 4) = true then (CallT Try.prog fn_ref26_base64 #[.string s_1] h fun v h4 => ∃ t21 : ByteArray, v = .string t21 ∧ Q (.string t21) h4) else (if (kind_0 == 5) = true then (CallT Try.prog fn_ref26_path #[.string s_1] h fun v h5 => ∃ t25 : ByteArray, v = .string t25 ∧ Q (.string t25) h5) else (if (kind_0 == 6) = true then (CallT Try.prog fn_ref26_hex #[.string s_1] h fun v h6 => ∃ t29 : ByteArray, v = .string t29 ∧ Q (.string t29) h6) else (Q (.string s_1) h))))))
set_option maxRecDepth 100000 in
theorem ref26_Apply_s (kind_0 : Int) (s_1 : ByteArray) {Q : QT} {h : Heap} (hk : ref26_Apply_v kind_0 s_1 Q h) : CallT Try.prog fn_ref26_Apply #[.int .i64 kind_0, .string s_1] h Q :=
 callU follows Try.func33 (Try.call33 _) rfl rfl [] []
 trivial
 trivial (by as_aux_lemma => kernel_rfl) hk
/-! ### intrusion/automaton.keep -/
def automaton_keep_l1 (f_1 : Value) (t8a : Option Addr) (t8n t8c : Nat) (t9 : Int) (Q : QT) (out_5a : Option Addr) (out_5n out_5c : Nat) (t10 : Int) (h : Heap) (Kn1 : (Option Addr) × Nat × Nat × Int → Heap → Prop) : Prop :=
 if (decide (t10 < t9)) = true then (idxA t10 t8n (nn t8a fun t12 => ldI h (Addr.add t12 ((t10).toNat * 1)) .i64 fun t13 => CallV Try.prog f_1 #[.int .i64 t13] h fun v h1 => ∃ t16 : Bool, v = .bool t16 ∧ if t16 = true then (alV h1 (.cells #[.int .i64 t13] T_int) fun t19 h2 => bltV Try.prog .append #[T_sl_int, T_sl_int] T_sl_int #[false, false] #[.slice out_5a out_5n out_5c, .slice (some t19) 1 1] h2 fun v h3 => ∃ t20a : Option Addr, ∃ t20n : Nat, ∃ t20c : Nat, v = .slice t20a t20n t20c ∧ Kn1 (t20a, t20n, t20c, wrap .i64 (t10 + 1)) h3) else (Kn1 (out_5a, out_5n, out_5c, wrap .i64 (t10 + 1)) h1))) else (Q (.slice out_5a out_5n out_5c) h)
def automaton_keep_v (l_0a : Option Addr) (l_0n l_0c : Nat) (f_1 : Value) (Q : QT) (h : Heap) : Prop :=
 LoopV (fun (s : (Option Addr) × Nat × Nat × Int) h Kn => automaton_keep_l1 f_1 l_0a l_0n l_0c ((l_0n : Nat) : Int) Q s.1 s.2.1 s.2.2.1 s.2.2.2 h Kn) (none, 0, 0, 0) h
set_option maxRecDepth 100000 in
theorem automaton_keep_s (l_0a : Option Addr) (l_0n l_0c : Nat) (f_1 : Value) {Q : QT} {h : Heap} (hk : automaton_keep_v l_0a l_0n l_0c f_1 Q h) : CallT Try.prog fn_automaton_keep #[.slice l_0a l_0n l_0c, f_1] h Q :=
 callU follows Try.func34 (Try.call34 _) rfl rfl [] [(8, fun e h => dV (e 1) fun f_1 => dL (e 8) fun t8a t8n t8c => dI .i64 (e 9) fun t9 => dL (e 5) fun out_5a out_5n out_5c => dI .i64 (e 10) fun t10 => LoopV (fun (s : (Option Addr) × Nat × Nat × Int) h Kn => automaton_keep_l1 f_1 t8a t8n t8c t9 Q s.1 s.2.1 s.2.2.1 s.2.2.2 h Kn) (out_5a, out_5n, out_5c, t10) h)]
 trivial
 ⟨⟨by kernel_rfl, fun e h he hk => by
 have F := Ag.nil (e := e)
 have ⟨f_1, F, hk⟩ := eV F hk
 have ⟨t8a, t8n, t8c, F, hk⟩ := eL F hk
 have ⟨t9, F, hk⟩ := eI F hk
 have ⟨out_5a, out_5n, out_5c, F, hk⟩ := eL F hk
 have ⟨t10, F, hk⟩ := eI F hk
 exact loopU (s0 := (out_5a, out_5n, out_5c, t10)) follows (fun _ h => by cases h) he F (fun s => [(10, .int .i64 s.2.2.2), (5, .slice s.1 s.2.1 s.2.2.1)]) (by kernel_rfl) (F.take 2) hk (fun Kn1 e h => dL (e 5) fun out_5a out_5n out_5c => dI .i64 (e 10) fun t10 => Kn1 (out_5a, out_5n, out_5c, t10) h) (fun Kn1 e h hk => by
  have F := Ag.nil (e := e)
  have ⟨out_5a, out_5n, out_5c, F, hk⟩ := eL F hk
  have ⟨t10, F, hk⟩ := eI F hk
  exact ⟨(out_5a, out_5n, out_5c, t10), F, hk⟩)
  (fun Kn1 => []) (fun Kn1 => [])
  (fun Kn1 => trivial)
  (fun Kn1 => trivial) (fun e s h Kn1 => by as_aux_lemma => kernel_rfl)⟩, trivial⟩ (by as_aux_lemma => kernel_rfl) hk
/-! ### (*intrusion/automaton.Cursor).spelt -/
def automaton_Cursor_spelt_v (c_0 : Option Addr) (index_1 : Int) (Q : QT) (h : Heap) : Prop :=
 nn c_0 fun t7 => ldP h t7 fun t9 => nn t9 fun t10 => ldL h (Addr.add t10 1) fun t12a t12n t12c => idxA index_1 t12n (nn t12a fun t14 => ldS h (Addr.add t14 ((index_1).toNat * 2)) fun t15_0 => ldB h (Addr.add (Addr.add t14 ((index_1).toNat * 2)) 1) fun t15_1 => alV h (.cells #[.string (⟨#[]⟩ : ByteArray), .bool false] T_api_Pattern) fun t5 h1 => stN h1 t5 [.string t15_0, .bool t15_1] 0 fun h2 => ldB h2 (Addr.add t5 1) fun t17 => if t17 = true then (Q (.bool true) h2) else (nn c_0 fun t20 => ldL h2 (Addr.add t20 3) fun t22a t22n t22c => nn c_0 fun t24 => ldL h2 (Addr.add t24 3) fun t26a t26n t26c => ldS h2 t5 fun t29 => sliceSl 1 t22a t22n t22c (some (wrap .i64 (((t26n : Nat) : Int) - ((t29.size : Nat) : Int)))) none none fun t32a t32n t32c => ldS h2 t5 fun t35 => convV Try.prog T_sl_uint8 T_string (.slice t32a t32n t32c) h2 fun v h3 => ∃ t33 : ByteArray, v = .string t33 ∧ (ldS h3 t5 fun t935 => (.string t935 : Value) = .string t35) ∧ Q (.bool (t33.toList == t35.toList)) h3))
set_option maxRecDepth 100000 in
theorem automaton_Cursor_spelt_s (c_0 : Option Addr) (index_1 : Int) {Q : QT} {h : Heap} (hk : automaton_Cursor_spelt_v c_0 index_1 Q h) : CallT Try.prog fn_automaton_Cursor_spelt #[.pointer c_0, .int .i64 index_1] h Q :=
 callU follows Try.func35 (Try.call35 _) rfl rfl [] []
 trivial
 trivial (by as_aux_lemma => kernel_rfl) hk
/-! ### intrusion/intrusionref45.Occurs -/
def ref45_Occurs_v (p_0_0 : ByteArray) (p_0_1 : Bool) (s_1 : ByteArray) (n_2 : Int) (Q : QT) (h : Heap) : Prop :=
 alV h (.cells #[.string p_0_0, .bool p_0_1] T_api_Pattern) fun t3 h1 => ldS h1 t3 fun t10 => ldS h1 t3 fun t14 => if (t14.toList == (⟨#[]⟩ : ByteArray).toList) = true then (Q (.bool false) h1) else (if (decide ((wrap .i64 (n_2 - ((t10.size : Nat) : Int))) < 0)) = true then (Q (.bool false) h1) else (ldB h1 (Addr.add t3 1) fun t21 => if t21 = true then (sliceStr s_1 (some (wrap .i64 (n_2 - ((t10.size : Nat) : Int)))) (some n_2) fun t25 => ldS h1 t3 fun t28 => CallT Try.prog fn_ref45_small #[.string t25] h1 fun v h2 => ∃ t26 : ByteArray, v = .string t26 ∧ (ldS h2 t3 fun t928 => (.string t928 : Value) = .string t28) ∧ CallT Try.prog fn_ref45_small #[.string t28] h2 fun v h3 => ∃ t29 : ByteArray, v = .string t29 ∧ Q (.bool (t26.toList == t29.toList)) h3) else (sliceStr s_1 (some (wrap .i64 (n_2 - ((t10.size : Nat) : Int)))) (some n_2) fun t34 => ldS h1 t3 fun t36 => Q (.bool (t34.toList == t36.toList)) h1)))
set_option maxRecDepth 100000 in
theorem ref45_Occurs_s (p_0_0 : ByteArray) (p_0_1 : Bool) (s_1 : ByteArray) (n_2 : Int) {Q : QT} {h : Heap} (hk : ref45_Occurs_v p_0_0 p_0_1 s_1 n_2 Q h) : CallT Try.prog fn_ref45_Occurs #[.agg #[.string p_0_0, .bool p_0_1], .string s_1, .int .i64 n_2] h Q :=
 callU follows Try.func37 (Try.call37 _) rfl rfl [] []
 trivial
 trivial (by as_aux_lemma => kernel_rfl) hk
/-! ### internal/stringslite.HasSuffix -/
def internal_stringslite_HasSuffix_v (s_0 suffix_1 : ByteArray) (Q : QT) (h : Heap) : Prop :=
 if (decide (((s_0.size : Nat) : Int) ≥ ((suffix_1.size : Nat) : Int))) = true then (sliceStr s_0 (some (wrap .i64 (((s_0.size : Nat) : Int) - ((suffix_1.size : Nat) : Int)))) none fun t17 => Q (.bool (t17.toList == suffix_1.toList)) h) else (Q (.bool false) h)
set_option maxRecDepth 100000 in
theorem internal_stringslite_HasSuffix_s (s_0 suffix_1 : ByteArray) {Q : QT} {h : Heap} (hk : internal_stringslite_HasSuffix_v s_0 suffix_1 Q h) : CallT Try.prog fn_internal_stringslite_HasSuffix #[.string s_0, .string suffix_1] h Q :=
 callU follows Try.func38 (Try.call38 _) rfl rfl [] []
 trivial
 trivial (by as_aux_lemma => kernel_rfl) hk
/-! ### intrusion/intrusionref26.lower -/
def ref26_lower_b2 (s_0 : ByteArray) (out_3a : Option Addr) (out_3n out_3c : Nat) (i_4 c_5 : Int) (Q : QT) (Kn1 : (Option Addr) × Nat × Nat × Int → Heap → Prop) (h : Heap) : Prop :=
 alV h (.cells #[.int .u8 c_5] T_uint8) fun t26 h3 => bltV Try.prog .append #[T_sl_uint8, T_sl_uint8] T_sl_uint8 #[false, false] #[.slice out_3a out_3n out_3c, .slice (some t26) 1 1] h3 fun v h4 => ∃ t27a : Option Addr, ∃ t27n : Nat, ∃ t27c : Nat, v = .slice t27a t27n t27c ∧ Kn1 (t27a, t27n, t27c, wrap .i64 (i_4 + 1)) h4
def ref26_lower_l1 (s_0 : ByteArray) (Q : QT) (out_3a : Option Addr) (out_3n out_3c : Nat) (i_4 : Int) (h : Heap) (Kn1 : (Option Addr) × Nat × Nat × Int → Heap → Prop) : Prop :=
 if (decide (i_4 < ((s_0.size : Nat) : Int))) = true then (idxS s_0 i_4 fun t15 => if (decide (t15 ≥ 65)) = true then (if (decide (t15 ≤ 90)) = true then (ref26_lower_b2 s_0 out_3a out_3n out_3c i_4 (wrap .u8 (t15 + 32)) Q Kn1 h) else (ref26_lower_b2 s_0 out_3a out_3n out_3c i_4 t15 Q Kn1 h)) else (ref26_lower_b2 s_0 out_3a out_3n out_3c i_4 t15 Q Kn1 h)) else (convV Try.prog T_sl_uint8 T_string (.slice out_3a out_3n out_3c) h fun v h2 => ∃ t29 : ByteArray, v = .string t29 ∧ Q (.string t29) h2)
def ref26_lower_v (s_0 : ByteArray) (Q : QT) (h : Heap) : Prop :=
 alV h (.cells #[] T_uint8) fun t6 h1 => LoopV (fun (s : (Option Addr) × Nat × Nat × Int) h Kn => ref26_lower_l1 s_0 Q s.1 s.2.1 s.2.2.1 s.2.2.2 h Kn) (some t6, 0, 0, 0) h1
set_option maxRecDepth 100000 in
theorem ref26_lower_s (s_0 : ByteArray) {Q : QT} {h : Heap} (hk : ref26_lower_v s_0 Q h) : CallT Try.prog fn_ref26_lower #[.string s_0] h Q :=
 callU follows Try.func39 (Try.call39 _) rfl rfl [] [(8, fun e h => dS (e 0) fun s_0 => dL (e 3) fun out_3a out_3n out_3c => dI .i64 (e 4) fun i_4 => LoopV (fun (s : (Option Addr) × Nat × Nat × Int) h Kn => ref26_lower_l1 s_0 Q s.1 s.2.1 s.2.2.1 s.2.2.2 h Kn) (out_3a, out_3n, out_3c, i_4) h)]
 trivial
 ⟨⟨by kernel_rfl, fun e h he hk => by
 have F := Ag.nil (e := e)
 have ⟨s_0, F, hk⟩ := eS F hk
 have ⟨out_3a, out_3n, out_3c, F, hk⟩ := eL F hk
 have ⟨i_4, F, hk⟩ := eI F hk
 exact loopU (s0 := (out_3a, out_3n, out_3c, i_4)) follows (fun _ h => by cases h) he F (fun s => [(4, .int .i64 s.2.2.2), (3, .slice s.1 s.2.1 s.2.2.1)]) (by kernel_rfl) (F.take 2) hk (fun Kn1 e h => dL (e 3) fun out_3a out_3n out_3c => dI .i64 (e 4) fun i_4 => Kn1 (out_3a, out_3n, out_3c, i_4) h) (fun Kn1 e h hk => by
  have F := Ag.nil (e := e)
  have ⟨out_3a, out_3n, out_3c, F, hk⟩ := eL F hk
  have ⟨i_4, F, hk⟩ := eI F hk
  exact ⟨(out_3a, out_3n, out_3c, i_4), F, hk⟩)
  (fun Kn1 => [(18, fun e h => dS (e 0) fun s_0 => dL (e 3) fun out_3a out_3n out_3c => dI .i64 (e 4) fun i_4 => dI .u8 (e 5) fun c_5 => ref26_lower_b2 s_0 out_3a out_3n out_3c i_4 c_5 Q Kn1 h)]) (fun Kn1 => [])
  (fun Kn1 => ⟨fun e h _ hk => by
 have F := Ag.nil (e := e)
 have ⟨s_0, F, hk⟩ := eS F hk
 have ⟨out_3a, out_3n, out_3c, F, hk⟩ := eL F hk
 have ⟨i_4, F, hk⟩ := eI F hk
 have ⟨c_5, F, hk⟩ := eI F hk
 exact cutU F (by as_aux_lemma => kernel_rfl) hk, trivial⟩)
  (fun Kn1 => trivial) (fun e s h Kn1 => by as_aux_lemma => kernel_rfl)⟩, trivial⟩ (by as_aux_lemma => kernel_rfl) hk
/-! ### intrusion/intrusionref26.strip -/
def ref26_strip_l1 (s_0 : ByteArray) (Q : QT) (out_3a : Option Addr) (out_3n out_3c : Nat) (i_4 : Int) (h : Heap) (Kn1 : (Option Addr) × Nat × Nat × Int → Heap → Prop) : Prop :=
 if (decide (i_4 < ((s_0.size : Nat) : Int))) = true then (idxS s_0 i_4 fun t14 => if (t14 != 9) = true then (idxS s_0 i_4 fun t19 => if (t19 != 10) = true then (idxS s_0 i_4 fun t25 => if (t25 != 13) = true then (idxS s_0 i_4 fun t31 => if (t31 != 32) = true then (idxS s_0 i_4 fun t37 => alV h (.cells #[.int .u8 t37] T_uint8) fun t38 h2 => bltV Try.prog .append #[T_sl_uint8, T_sl_uint8] T_sl_uint8 #[false, false] #[.slice out_3a out_3n out_3c, .slice (some t38) 1 1] h2 fun v h3 => ∃ t39a : Option Addr, ∃ t39n : Nat, ∃ t39c : Nat, v = .slice t39a t39n t39c ∧ Kn1 (t39a, t39n, t39c, wrap .i64 (i_4 + 1)) h3) else (Kn1 (out_3a, out_3n, out_3c, wrap .i64 (i_4 + 1)) h)) else (Kn1 (out_3a, out_3n, out_3c, wrap .i64 (i_4 + 1)) h)) else (Kn1 (out_3a, out_3n, out_3c, wrap .i64 (i_4 + 1)) h)) else (Kn1 (out_3a, out_3n, out_3c, wrap .i64 (i_4 + 1)) h)) else (convV Try.prog T_sl_uint8 T_string (.slice out_3a out_3n out_3c) h fun v h4 => ∃ t41 : ByteArray, v = .string t41 ∧ Q (.string t41) h4)
def ref26_strip_v (s_0 : ByteArray) (Q : QT) (h : Heap) : Prop :=
 alV h (.cells #[] T_uint8) fun t5 h1 => LoopV (fun (s : (Option Addr) × Nat × Nat × Int) h Kn => ref26_strip_l1 s_0 Q s.1 s.2.1 s.2.2.1 s.2.2.2 h Kn) (some t5, 0, 0, 0) h1
set_option maxRecDepth 100000 in
theorem ref26_strip_s (s_0 : ByteArray) {Q : QT} {h : Heap} (hk : ref26_strip_v s_0 Q h) : CallT Try.prog fn_ref26_strip #[.string s_0] h Q :=
 callU follows Try.func40 (Try.call40 _) rfl rfl [] [(8, fun e h => dS (e 0) fun s_0 => dL (e 3) fun out_3a out_3n out_3c => dI .i64 (e 4) fun i_4 => LoopV (fun (s : (Option Addr) × Nat × Nat × Int) h Kn => ref26_strip_l1 s_0 Q s.1 s.2.1 s.2.2.1 s.2.2.2 h Kn) (out_3a, out_3n, out_3c, i_4) h)]
 trivial
 ⟨⟨by kernel_rfl, fun e h he hk => by
 have F := Ag.nil (e := e)
 have ⟨s_0, F, hk⟩ := eS F hk
 have ⟨out_3a, out_3n, out_3c, F, hk⟩ := eL F hk
 have ⟨i_4, F, hk⟩ := eI F hk
 exact loopU (s0 := (out_3a, out_3n, out_3c, i_4)) follows (fun _ h => by cases h) he F (fun s => [(4, .int .i64 s.2.2.2), (3, .slice s.1 s.2.1 s.2.2.1)]) (by kernel_rfl) (F.take 2) hk (fun Kn1 e h => dL (e 3) fun out_3a out_3n out_3c => dI .i64 (e 4) fun i_4 => Kn1 (out_3a, out_3n, out_3c, i_4) h) (fun Kn1 e h hk => by
  have F := Ag.nil (e := e)
  have ⟨out_3a, out_3n, out_3c, F, hk⟩ := eL F hk
  have ⟨i_4, F, hk⟩ := eI F hk
  exact ⟨(out_3a, out_3n, out_3c, i_4), F, hk⟩)
  (fun Kn1 => []) (fun Kn1 => [])
  (fun Kn1 => trivial)
  (fun Kn1 => trivial) (fun e s h Kn1 => by as_aux_lemma => kernel_rfl)⟩, trivial⟩ (by as_aux_lemma => kernel_rfl) hk
/-! ### intrusion/intrusionref26.percent -/
def ref26_percent_b2 (s_0 : ByteArray) (out_3a : Option Addr) (out_3n out_3c : Nat) (i_4 : Int) (Q : QT) (Kn1 : (Option Addr) × Nat × Nat × Int → Heap → Prop) (h : Heap) : Prop :=
 idxS s_0 i_4 fun t60 => alV h (.cells #[.int .u8 t60] T_uint8) fun t61 h9 => bltV Try.prog .append #[T_sl_uint8, T_sl_uint8] T_sl_uint8 #[false, false] #[.slice out_3a out_3n out_3c, .slice (some t61) 1 1] h9 fun v h10 => ∃ t62a : Option Addr, ∃ t62n : Nat, ∃ t62c : Nat, v = .slice t62a t62n t62c ∧ Kn1 (t62a, t62n, t62c, wrap .i64 (i_4 + 1)) h10
def ref26_percent_l1 (s_0 : ByteArray) (Q : QT) (out_3a : Option Addr) (out_3n out_3c : Nat) (i_4 : Int) (h : Heap) (Kn1 : (Option Addr) × Nat × Nat × Int → Heap → Prop) : Prop :=
 if (decide (i_4 < ((s_0.size : Nat) : Int))) = true then (idxS s_0 i_4 fun t14 => if (t14 == 37) = true then (if (decide ((wrap .i64 (i_4 + 2)) < ((s_0.size : Nat) : Int))) = true then (idxS s_0 (wrap .i64 (i_4 + 1)) fun t27 => CallT Try.prog fn_ref26_digit #[.int .u8 t27] h fun v h2 => ∃ t28 : Int, v = .int .i64 t28 ∧ if (decide (t28 ≥ 0)) = true then (idxS s_0 (wrap .i64 (i_4 + 2)) fun t35 => CallT Try.prog fn_ref26_digit #[.int .u8 t35] h2 fun v h3 => ∃ t36 : Int, v = .int .i64 t36 ∧ if (decide (t36 ≥ 0)) = true then (idxS s_0 (wrap .i64 (i_4 + 1)) fun t43 => idxS s_0 (wrap .i64 (i_4 + 2)) fun t49 => CallT Try.prog fn_ref26_digit #[.int .u8 t43] h3 fun v h4 => ∃ t44 : Int, v = .int .i64 t44 ∧ CallT Try.prog fn_ref26_digit #[.int .u8 t49] h4 fun v h5 => ∃ t50 : Int, v = .int .i64 t50 ∧ alV h5 (.cells #[.int .u8 (wrap .u8 (wrap .i64 ((wrap .i64 (t44 * 16)) + t50)))] T_uint8) fun t53 h6 => bltV Try.prog .append #[T_sl_uint8, T_sl_uint8] T_sl_uint8 #[false, false] #[.slice out_3a out_3n out_3c, .slice (some t53) 1 1] h6 fun v h7 => ∃ t54a : Option Addr, ∃ t54n : Nat, ∃ t54c : Nat, v = .slice t54a t54n t54c ∧ Kn1 (t54a, t54n, t54c, wrap .i64 ((wrap .i64 (i_4 + 2)) + 1)) h7) else (ref26_percent_b2 s_0 out_3a out_3n out_3c i_4 Q Kn1 h3)) else (ref26_percent_b2 s_0 out_3a out_3n out_3c i_4 Q Kn1 h2)) else (ref26_percent_b2 s_0 out_3a out_3n out_3c i_4 Q Kn1 h)) else (ref26_percent_b2 s_0 out_3a out_3n out_3c i_4 Q Kn1 h)) else (convV Try.prog T_sl_uint8 T_string (.slice out_3a out_3n out_3c) h fun v h8 => ∃ t64 : ByteArray, v = .string t64 ∧ Q (.string t64) h8)
def ref26_percent_v (s_0 : ByteArray) (Q : QT) (h : Heap) : Prop :=
 alV h (.cells #[] T_uint8) fun t5 h1 => LoopV (fun (s : (Option Addr) × Nat × Nat × Int) h Kn => ref26_percent_l1 s_0 Q s.1 s.2.1 s.2.2.1 s.2.2.2 h Kn) (some t5, 0, 0, 0) h1
set_option maxRecDepth 100000 in
theorem ref26_percent_s (s_0 : ByteArray) {Q : QT} {h : Heap} (hk : ref26_percent_v s_0 Q h) : CallT Try.prog fn_ref26_percent #[.string s_0] h Q :=
 callU follows Try.func41 (Try.call41 _) rfl rfl [] [(8, fun e h => dS (e 0) fun s_0 => dL (e 3) fun out_3a out_3n out_3c => dI .i64 (e 4) fun i_4 => LoopV (fun (s : (Option Addr) × Nat × Nat × Int) h Kn => ref26_percent_l1 s_0 Q s.1 s.2.1 s.2.2.1 s.2.2.2 h Kn) (out_3a, out_3n, out_3c, i_4) h)]
 trivial
 ⟨⟨by kernel_rfl, fun e h he hk => by
 have F := Ag.nil (e := e)
 have ⟨s_0, F, hk⟩ := eS F hk
 have ⟨out_3a, out_3n, out_3c, F, hk⟩ := eL F hk
 have ⟨i_4, F, hk⟩ := eI F hk
 exact loopU (s0 := (out_3a, out_3n, out_3c, i_4)) follows (fun _ h => by cases h) he F (fun s => [(4, .int .i64 s.2.2.2), (3, .slice s.1 s.2.1 s.2.2.1)]) (by kernel_rfl) (F.take 2) hk (fun Kn1 e h => dL (e 3) fun out_3a out_3n out_3c => dI .i64 (e 4) fun i_4 => Kn1 (out_3a, out_3n, out_3c, i_4) h) (fun Kn1 e h hk => by
  have F := Ag.nil (e := e)
  have ⟨out_3a, out_3n, out_3c, F, hk⟩ := eL F hk
  have ⟨i_4, F, hk⟩ := eI F hk
  exact ⟨(out_3a, out_3n, out_3c, i_4), F, hk⟩)
  (fun Kn1 => [(18, fun e h => dS (e 0) fun s_0 => dL (e 3) fun out_3a out_3n out_3c => dI .i64 (e 4) fun i_4 => ref26_percent_b2 s_0 out_3a out_3n out_3c i_4 Q Kn1 h)]) (fun Kn1 => [])
  (fun Kn1 => ⟨fun e h _ hk => by
 have F := Ag.nil (e := e)
 have ⟨s_0, F, hk⟩ := eS F hk
 have ⟨out_3a, out_3n, out_3c, F, hk⟩ := eL F hk
 have ⟨i_4, F, hk⟩ := eI F hk
 exact cutU F (by as_aux_lemma => kernel_rfl) hk, trivial⟩)
  (fun Kn1 => trivial) (fun e s h Kn1 => by as_aux_lemma => kernel_rfl)⟩, trivial⟩ (by as_aux_lemma => kernel_rfl) hk
/-! ### intrusion/intrusionref26.base64 -/
def ref26_base64_b3 (s_0 : ByteArray) (out_3a : Option Addr) (out_3n out_3c : Nat) (bits_4 n_5 i_6 v_7 : Int) (Q : QT) (Kn1 : (Option Addr) × Nat × Nat × Int × Int × Int → Heap → Prop) (h : Heap) : Prop :=
 if (decide (v_7 < 0)) = true then (Kn1 (out_3a, out_3n, out_3c, bits_4, n_5, wrap .i64 (i_6 + 1)) h) else (if (decide ((wrap .i64 (n_5 + 6)) ≥ 8)) = true then (0 ≤ (wrap .i64 ((wrap .i64 (n_5 + 6)) - 8)) ∧ alV h (.cells #[.int .u8 (wrap .u8 (Int.fdiv (wrap .i64 ((wrap .i64 (bits_4 * 64)) + v_7)) (2 ^ (min (Int.toNat (wrap .i64 ((wrap .i64 (n_5 + 6)) - 8))) (IntKind.bits .i64)))))] T_uint8) fun t50 h4 => bltV Try.prog .append #[T_sl_uint8, T_sl_uint8] T_sl_uint8 #[false, false] #[.slice out_3a out_3n out_3c, .slice (some t50) 1 1] h4 fun v h5 => ∃ t51a : Option Addr, ∃ t51n : Nat, ∃ t51c : Nat, v = .slice t51a t51n t51c ∧ 0 ≤ (wrap .i64 ((wrap .i64 (n_5 + 6)) - 8)) ∧ (wrap .i64 (1 * 2 ^ (min (Int.toNat (wrap .i64 ((wrap .i64 (n_5 + 6)) - 8))) (IntKind.bits .i64)))) ≠ 0 ∧ Kn1 (t51a, t51n, t51c, Int.tmod (wrap .i64 ((wrap .i64 (bits_4 * 64)) + v_7)) (wrap .i64 (1 * 2 ^ (min (Int.toNat (wrap .i64 ((wrap .i64 (n_5 + 6)) - 8))) (IntKind.bits .i64)))), wrap .i64 ((wrap .i64 (n_5 + 6)) - 8), wrap .i64 (i_6 + 1)) h5) else (Kn1 (out_3a, out_3n, out_3c, wrap .i64 ((wrap .i64 (bits_4 * 64)) + v_7), wrap .i64 (n_5 + 6), wrap .i64 (i_6 + 1)) h))
def ref26_base64_l2 (s_0 : ByteArray) (out_3a : Option Addr) (out_3n out_3c : Nat) (bits_4 n_5 i_6 : Int) (Q : QT) (Kn1 : (Option Addr) × Nat × Nat × Int × Int × Int → Heap → Prop) (v_7 k_8 : Int) (h : Heap) (Kn2 : Int × Int → Heap → Prop) : Prop :=
 if (decide (k_8 < 64)) = true then (idxS (⟨#[65, 66, 67, 68, 69, 70, 71, 72, 73, 74, 75, 76, 77, 78, 79, 80, 81, 82, 83, 84, 85, 86, 87, 88, 89, 90, 97, 98, 99, 100, 101, 102, 103, 104, 105, 106, 107, 108, 109, 110, 111, 112, 113, 114, 115, 116, 117, 118, 119, 120, 121, 122, 48, 49, 50, 51, 52, 53, 54, 55, 56, 57, 43, 47]⟩ : ByteArray) k_8 fun t27 => idxS s_0 i_6 fun t30 => if (t27 == t30) = true then (Kn2 (k_8, wrap .i64 (k_8 + 1)) h) else (Kn2 (v_7, wrap .i64 (k_8 + 1)) h)) else (ref26_base64_b3 s_0 out_3a out_3n out_3c bits_4 n_5 i_6 v_7 Q Kn1 h)
def ref26_base64_l1 (s_0 : ByteArray) (Q : QT) (out_3a : Option Addr) (out_3n out_3c : Nat) (bits_4 n_5 i_6 : Int) (h : Heap) (Kn1 : (Option Addr) × Nat × Nat × Int × Int × Int → Heap → Prop) : Prop :=
 if (decide (i_6 < ((s_0.size : Nat) : Int))) = true then (idxS s_0 i_6 fun t17 => if (t17 != 61) = true then (LoopV (fun (s : Int × Int) h Kn => ref26_base64_l2 s_0 out_3a out_3n out_3c bits_4 n_5 i_6 Q Kn1 s.1 s.2 h Kn) ((-1), 0) h) else (convV Try.prog T_sl_uint8 T_string (.slice out_3a out_3n out_3c) h fun v h2 => ∃ t57 : ByteArray, v = .string t57 ∧ Q (.string t57) h2)) else (convV Try.prog T_sl_uint8 T_string (.slice out_3a out_3n out_3c) h fun v h3 => ∃ t57 : ByteArray, v = .string t57 ∧ Q (.string t57) h3)
def ref26_base64_v (s_0 : ByteArray) (Q : QT) (h : Heap) : Prop :=
 alV h (.cells #[] T_uint8) fun t9 h1 => LoopV (fun (s : (Option Addr) × Nat × Nat × Int × Int × Int) h Kn => ref26_base64_l1 s_0 Q s.1 s.2.1 s.2.2.1 s.2.2.2.1 s.2.2.2.2.1 s.2.2.2.2.2 h Kn) (some t9, 0, 0, 0, 0, 0) h1
set_option maxRecDepth 100000 in
theorem ref26_base64_s (s_0 : ByteArray) {Q : QT} {h : Heap} (hk : ref26_base64_v s_0 Q h) : CallT Try.prog fn_ref26_base64 #[.string s_0] h Q :=
 callU follows Try.func42 (Try.call42 _) rfl rfl [] [(10, fun e h => dS (e 0) fun s_0 => dL (e 3) fun out_3a out_3n out_3c => dI .i64 (e 4) fun bits_4 => dI .i64 (e 5) fun n_5 => dI .i64 (e 6) fun i_6 => LoopV (fun (s : (Option Addr) × Nat × Nat × Int × Int × Int) h Kn => ref26_base64_l1 s_0 Q s.1 s.2.1 s.2.2.1 s.2.2.2.1 s.2.2.2.2.1 s.2.2.2.2.2 h Kn) (out_3a, out_3n, out_3c, bits_4, n_5, i_6) h)]
 trivial
 ⟨⟨by kernel_rfl, fun e h he hk => by
 have F := Ag.nil (e := e)
 have ⟨s_0, F, hk⟩ := eS F hk
 have ⟨out_3a, out_3n, out_3c, F, hk⟩ := eL F hk
 have ⟨bits_4, F, hk⟩ := eI F hk
 have ⟨n_5, F, hk⟩ := eI F hk
 have ⟨i_6, F, hk⟩ := eI F hk
 exact loopU (s0 := (out_3a, out_3n, out_3c, bits_4, n_5, i_6)) follows (fun _ h => by cases h) he F (fun s => [(6, .int .i64 s.2.2.2.2.2), (5, .int .i64 s.2.2.2.2.1), (4, .int .i64 s.2.2.2.1), (3, .slice s.1 s.2.1 s.2.2.1)]) (by kernel_rfl) (F.take 4) hk (fun Kn1 e h => dL (e 3) fun out_3a out_3n out_3c => dI .i64 (e 4) fun bits_4 => dI .i64 (e 5) fun n_5 => dI .i64 (e 6) fun i_6 => Kn1 (out_3a, out_3n, out_3c, bits_4, n_5, i_6) h) (fun Kn1 e h hk => by
  have F := Ag.nil (e := e)
  have ⟨out_3a, out_3n, out_3c, F, hk⟩ := eL F hk
  have ⟨bits_4, F, hk⟩ := eI F hk
  have ⟨n_5, F, hk⟩ := eI F hk
  have ⟨i_6, F, hk⟩ := eI F hk
  exact ⟨(out_3a, out_3n, out_3c, bits_4, n_5, i_6), F, hk⟩)
  (fun Kn1 => [(26, fun e h => dS (e 0) fun s_0 => dL (e 3) fun out_3a out_3n out_3c => dI .i64 (e 4) fun bits_4 => dI .i64 (e 5) fun n_5 => dI .i64 (e 6) fun i_6 => dI .i64 (e 7) fun v_7 => ref26_base64_b3 s_0 out_3a out_3n out_3c bits_4 n_5 i_6 v_7 Q Kn1 h)]) (fun Kn1 => [(18, fun e h => dS (e 0) fun s_0 => dL (e 3) fun out_3a out_3n out_3c => dI .i64 (e 4) fun bits_4 => dI .i64 (e 5) fun n_5 => dI .i64 (e 6) fun i_6 => dI .i64 (e 7) fun v_7 => dI .i64 (e 8) fun k_8 => LoopV (fun (s : Int × Int) h Kn => ref26_base64_l2 s_0 out_3a out_3n out_3c bits_4 n_5 i_6 Q Kn1 s.1 s.2 h Kn) (v_7, k_8) h)])
  (fun Kn1 => ⟨fun e h _ hk => by
 have F := Ag.nil (e := e)
 have ⟨s_0, F, hk⟩ := eS F hk
 have ⟨out_3a, out_3n, out_3c, F, hk⟩ := eL F hk
 have ⟨bits_4, F, hk⟩ := eI F hk
 have ⟨n_5, F, hk⟩ := eI F hk
 have ⟨i_6, F, hk⟩ := eI F hk
 have ⟨v_7, F, hk⟩ := eI F hk
 exact cutU F (by as_aux_lemma => kernel_rfl) hk, trivial⟩)
  (fun Kn1 => ⟨⟨by kernel_rfl, fun e h he hk => by
 have F := Ag.nil (e := e)
 have ⟨s_0, F, hk⟩ := eS F hk
 have ⟨out_3a, out_3n, out_3c, F, hk⟩ := eL F hk
 have ⟨bits_4, F, hk⟩ := eI F hk
 have ⟨n_5, F, hk⟩ := eI F hk
 have ⟨i_6, F, hk⟩ := eI F hk
 have ⟨v_7, F, hk⟩ := eI F hk
 have ⟨k_8, F, hk⟩ := eI F hk
 exact loopU (s0 := (v_7, k_8)) follows (keep_sub (by kernel_rfl)) he F (fun s => [(8, .int .i64 s.2), (7, .int .i64 s.1)]) (by kernel_rfl) (F.take 2) hk (fun Kn2 e h => dI .i64 (e 7) fun v_7 => dI .i64 (e 8) fun k_8 => Kn2 (v_7, k_8) h) (fun Kn2 e h hk => by
  have F := Ag.nil (e := e)
  have ⟨v_7, F, hk⟩ := eI F hk
  have ⟨k_8, F, hk⟩ := eI F hk
  exact ⟨(v_7, k_8), F, hk⟩)
  (fun Kn2 => []) (fun Kn2 => [])
  (fun Kn2 => trivial)
  (fun Kn2 => trivial) (fun e s h Kn2 => by as_aux_lemma => kernel_rfl)⟩, trivial⟩) (fun e s h Kn1 => by as_aux_lemma => kernel_rfl)⟩, trivial⟩ (by as_aux_lemma => kernel_rfl) hk
/-! ### intrusion/intrusionref26.path -/
def ref26_path_b4 (s_0 : ByteArray) (end_3 : Int) (l_5a : Option Addr) (l_5n l_5c : Nat) (kept_6a : Option Addr) (kept_6n kept_6c : Nat) (i_7 : Int) (Q : QT) (Kn3 : (Option Addr) × Nat × Nat × Int → Heap → Prop) (h : Heap) : Prop :=
 idxA i_7 l_5n (nn l_5a fun t53 => ldS h (Addr.add t53 ((i_7).toNat * 1)) fun t54 => if (!(t54.toList == (⟨#[]⟩ : ByteArray).toList)) = true then (idxA i_7 l_5n (nn l_5a fun t59 => ldS h (Addr.add t59 ((i_7).toNat * 1)) fun t60 => if (!(t60.toList == (⟨#[46]⟩ : ByteArray).toList)) = true then (idxA i_7 l_5n (nn l_5a fun t66 => ldS h (Addr.add t66 ((i_7).toNat * 1)) fun t67 => if (!(t67.toList == (⟨#[46, 46]⟩ : ByteArray).toList)) = true then (idxA i_7 l_5n (nn l_5a fun t73 => ldS h (Addr.add t73 ((i_7).toNat * 1)) fun t74 => alV h (.cells #[.string t74] T_string) fun t75 h3 => bltV Try.prog .append #[T_sl_string, T_sl_string] T_sl_string #[false, false] #[.slice kept_6a kept_6n kept_6c, .slice (some t75) 1 1] h3 fun v h4 => ∃ t76a : Option Addr, ∃ t76n : Nat, ∃ t76c : Nat, v = .slice t76a t76n t76c ∧ Kn3 (t76a, t76n, t76c, wrap .i64 (i_7 + 1)) h4)) else (Kn3 (kept_6a, kept_6n, kept_6c, wrap .i64 (i_7 + 1)) h))) else (Kn3 (kept_6a, kept_6n, kept_6c, wrap .i64 (i_7 + 1)) h))) else (Kn3 (kept_6a, kept_6n, kept_6c, wrap .i64 (i_7 + 1)) h))
def ref26_path_b7 (s_0 : ByteArray) (end_3 : Int) (l_5a : Option Addr) (l_5n l_5c : Nat) (kept_6a : Option Addr) (kept_6n kept_6c : Nat) (t_8 : ByteArray) (i_9 : Int) (Q : QT) (Kn6 : ByteArray × Int → Heap → Prop) (h : Heap) : Prop :=
 idxA i_9 kept_6n (nn kept_6a fun t95 => ldS h (Addr.add t95 ((i_9).toNat * 1)) fun t96 => ((t_8.size + t96.size : Nat) : Int) ≤ IntKind.max .i64 ∧ Kn6 (t_8 ++ t96, wrap .i64 (i_9 + 1)) h)
def ref26_path_b9 (s_0 : ByteArray) (end_3 : Int) (t_8 : ByteArray) (Q : QT) (h : Heap) : Prop :=
 sliceStr s_0 (some end_3) none fun t123 => ((t_8.size + t123.size : Nat) : Int) ≤ IntKind.max .i64 ∧ Q (.string (t_8 ++ t123)) h
def ref26_path_b8 (s_0 : ByteArray) (end_3 : Int) (l_5a : Option Addr) (l_5n l_5c : Nat) (t_8 : ByteArray) (Q : QT) (h : Heap) : Prop :=
 idxA (wrap .i64 (((l_5n : Nat) : Int) - 1)) l_5n (nn l_5a fun t102 => ldS h (Addr.add t102 (((wrap .i64 (((l_5n : Nat) : Int) - 1))).toNat * 1)) fun t103 => if (t_8.toList == (⟨#[]⟩ : ByteArray).toList) = true then (((t_8.size + (⟨#[47]⟩ : ByteArray).size : Nat) : Int) ≤ IntKind.max .i64 ∧ ref26_path_b9 s_0 end_3 (t_8 ++ (⟨#[47]⟩ : ByteArray)) Q h) else (if (t103.toList == (⟨#[]⟩ : ByteArray).toList) = true then (((t_8.size + (⟨#[47]⟩ : ByteArray).size : Nat) : Int) ≤ IntKind.max .i64 ∧ ref26_path_b9 s_0 end_3 (t_8 ++ (⟨#[47]⟩ : ByteArray)) Q h) else (if (t103.toList == (⟨#[46]⟩ : ByteArray).toList) = true then (((t_8.size + (⟨#[47]⟩ : ByteArray).size : Nat) : Int) ≤ IntKind.max .i64 ∧ ref26_path_b9 s_0 end_3 (t_8 ++ (⟨#[47]⟩ : ByteArray)) Q h) else (if (t103.toList == (⟨#[46, 46]⟩ : ByteArray).toList) = true then (((t_8.size + (⟨#[47]⟩ : ByteArray).size : Nat) : Int) ≤ IntKind.max .i64 ∧ ref26_path_b9 s_0 end_3 (t_8 ++ (⟨#[47]⟩ : ByteArray)) Q h) else (ref26_path_b9 s_0 end_3 t_8 Q h)))))
def ref26_path_l6 (s_0 : ByteArray) (end_3 : Int) (l_5a : Option Addr) (l_5n l_5c : Nat) (kept_6a : Option Addr) (kept_6n kept_6c : Nat) (Q : QT) (t_8 : ByteArray) (i_9 : Int) (h : Heap) (Kn6 : ByteArray × Int → Heap → Prop) : Prop :=
 if (decide (i_9 < ((kept_6n : Nat) : Int))) = true then (if (decide (i_9 > 0)) = true then (((t_8.size + (⟨#[47]⟩ : ByteArray).size : Nat) : Int) ≤ IntKind.max .i64 ∧ ref26_path_b7 s_0 end_3 l_5a l_5n l_5c kept_6a kept_6n kept_6c (t_8 ++ (⟨#[47]⟩ : ByteArray)) i_9 Q Kn6 h) else (idxS s_0 (0 : Int) fun t87 => if (t87 == 47) = true then (((t_8.size + (⟨#[47]⟩ : ByteArray).size : Nat) : Int) ≤ IntKind.max .i64 ∧ ref26_path_b7 s_0 end_3 l_5a l_5n l_5c kept_6a kept_6n kept_6c (t_8 ++ (⟨#[47]⟩ : ByteArray)) i_9 Q Kn6 h) else (ref26_path_b7 s_0 end_3 l_5a l_5n l_5c kept_6a kept_6n kept_6c t_8 i_9 Q Kn6 h))) else (ref26_path_b8 s_0 end_3 l_5a l_5n l_5c t_8 Q h)
def ref26_path_b5 (s_0 : ByteArray) (end_3 : Int) (l_5a : Option Addr) (l_5n l_5c : Nat) (kept_6a : Option Addr) (kept_6n kept_6c : Nat) (Q : QT) (h : Heap) : Prop :=
 LoopV (fun (s : ByteArray × Int) h Kn => ref26_path_l6 s_0 end_3 l_5a l_5n l_5c kept_6a kept_6n kept_6c Q s.1 s.2 h Kn) ((⟨#[]⟩ : ByteArray), 0) h
def ref26_path_l3 (s_0 : ByteArray) (end_3 : Int) (l_5a : Option Addr) (l_5n l_5c : Nat) (Q : QT) (kept_6a : Option Addr) (kept_6n kept_6c : Nat) (i_7 : Int) (h : Heap) (Kn3 : (Option Addr) × Nat × Nat × Int → Heap → Prop) : Prop :=
 if (decide (i_7 < ((l_5n : Nat) : Int))) = true then (idxA i_7 l_5n (nn l_5a fun t38 => ldS h (Addr.add t38 ((i_7).toNat * 1)) fun t39 => if (t39.toList == (⟨#[46, 46]⟩ : ByteArray).toList) = true then (if (decide (((kept_6n : Nat) : Int) > 0)) = true then (sliceSl 1 kept_6a kept_6n kept_6c none (some (wrap .i64 (((kept_6n : Nat) : Int) - 1))) none fun t50a t50n t50c => ref26_path_b4 s_0 end_3 l_5a l_5n l_5c t50a t50n t50c i_7 Q Kn3 h) else (ref26_path_b4 s_0 end_3 l_5a l_5n l_5c kept_6a kept_6n kept_6c i_7 Q Kn3 h)) else (ref26_path_b4 s_0 end_3 l_5a l_5n l_5c kept_6a kept_6n kept_6c i_7 Q Kn3 h))) else (ref26_path_b5 s_0 end_3 l_5a l_5n l_5c kept_6a kept_6n kept_6c Q h)
def ref26_path_b2 (s_0 : ByteArray) (end_3 : Int) (Q : QT) (h : Heap) : Prop :=
 sliceStr s_0 none (some end_3) fun t27 => CallT Try.prog fn_ref26_segments #[.string t27] h fun v h1 => ∃ t28a : Option Addr, ∃ t28n : Nat, ∃ t28c : Nat, v = .slice t28a t28n t28c ∧ alV h1 (.cells #[] T_string) fun t29 h2 => LoopV (fun (s : (Option Addr) × Nat × Nat × Int) h Kn => ref26_path_l3 s_0 end_3 t28a t28n t28c Q s.1 s.2.1 s.2.2.1 s.2.2.2 h Kn) (some t29, 0, 0, 0) h2
def ref26_path_l1 (s_0 : ByteArray) (Q : QT) (end_3 i_4 : Int) (h : Heap) (Kn1 : Int × Int → Heap → Prop) : Prop :=
 if (decide (i_4 ≥ 0)) = true then (idxS s_0 i_4 fun t22 => if (t22 == 63) = true then (Kn1 (i_4, wrap .i64 (i_4 - 1)) h) else (Kn1 (end_3, wrap .i64 (i_4 - 1)) h)) else (ref26_path_b2 s_0 end_3 Q h)
def ref26_path_v (s_0 : ByteArray) (Q : QT) (h : Heap) : Prop :=
 LoopV (fun (s : Int × Int) h Kn => ref26_path_l1 s_0 Q s.1 s.2 h Kn) (((s_0.size : Nat) : Int), wrap .i64 (((s_0.size : Nat) : Int) - 1)) h
set_option maxRecDepth 100000 in
theorem ref26_path_s (s_0 : ByteArray) {Q : QT} {h : Heap} (hk : ref26_path_v s_0 Q h) : CallT Try.prog fn_ref26_path #[.string s_0] h Q :=
 callU follows Try.func43 (Try.call43 _) rfl rfl [(16, fun e h => dS (e 0) fun s_0 => dI .i64 (e 3) fun end_3 => ref26_path_b2 s_0 end_3 Q h), (34, fun e h => dS (e 0) fun s_0 => dI .i64 (e 3) fun end_3 => dL (e 5) fun l_5a l_5n l_5c => dL (e 6) fun kept_6a kept_6n kept_6c => ref26_path_b5 s_0 end_3 l_5a l_5n l_5c kept_6a kept_6n kept_6c Q h), (48, fun e h => dS (e 0) fun s_0 => dI .i64 (e 3) fun end_3 => dL (e 5) fun l_5a l_5n l_5c => dS (e 8) fun t_8 => ref26_path_b8 s_0 end_3 l_5a l_5n l_5c t_8 Q h), (54, fun e h => dS (e 0) fun s_0 => dI .i64 (e 3) fun end_3 => dS (e 8) fun t_8 => ref26_path_b9 s_0 end_3 t_8 Q h)] [(8, fun e h => dS (e 0) fun s_0 => dI .i64 (e 3) fun end_3 => dI .i64 (e 4) fun i_4 => LoopV (fun (s : Int × Int) h Kn => ref26_path_l1 s_0 Q s.1 s.2 h Kn) (end_3, i_4) h), (22, fun e h => dS (e 0) fun s_0 => dI .i64 (e 3) fun end_3 => dL (e 5) fun l_5a l_5n l_5c => dL (e 6) fun kept_6a kept_6n kept_6c => dI .i64 (e 7) fun i_7 => LoopV (fun (s : (Option Addr) × Nat × Nat × Int) h Kn => ref26_path_l3 s_0 end_3 l_5a l_5n l_5c Q s.1 s.2.1 s.2.2.1 s.2.2.2 h Kn) (kept_6a, kept_6n, kept_6c, i_7) h), (38, fun e h => dS (e 0) fun s_0 => dI .i64 (e 3) fun end_3 => dL (e 5) fun l_5a l_5n l_5c => dL (e 6) fun kept_6a kept_6n kept_6c => dS (e 8) fun t_8 => dI .i64 (e 9) fun i_9 => LoopV (fun (s : ByteArray × Int) h Kn => ref26_path_l6 s_0 end_3 l_5a l_5n l_5c kept_6a kept_6n kept_6c Q s.1 s.2 h Kn) (t_8, i_9) h)]
 ⟨fun e h _ hk => by
 have F := Ag.nil (e := e)
 have ⟨s_0, F, hk⟩ := eS F hk
 have ⟨end_3, F, hk⟩ := eI F hk
 exact cutU F (by as_aux_lemma => kernel_rfl) hk, fun e h _ hk => by
 have F := Ag.nil (e := e)
 have ⟨s_0, F, hk⟩ := eS F hk
 have ⟨end_3, F, hk⟩ := eI F hk
 have ⟨l_5a, l_5n, l_5c, F, hk⟩ := eL F hk
 have ⟨kept_6a, kept_6n, kept_6c, F, hk⟩ := eL F hk
 exact cutU F (by as_aux_lemma => kernel_rfl) hk, fun e h _ hk => by
 have F := Ag.nil (e := e)
 have ⟨s_0, F, hk⟩ := eS F hk
 have ⟨end_3, F, hk⟩ := eI F hk
 have ⟨l_5a, l_5n, l_5c, F, hk⟩ := eL F hk
 have ⟨t_8, F, hk⟩ := eS F hk
 exact cutU F (by as_aux_lemma => kernel_rfl) hk, fun e h _ hk => by
 have F := Ag.nil (e := e)
 have ⟨s_0, F, hk⟩ := eS F hk
 have ⟨end_3, F, hk⟩ := eI F hk
 have ⟨t_8, F, hk⟩ := eS F hk
 exact cutU F (by as_aux_lemma => kernel_rfl) hk, trivial⟩
 ⟨⟨by kernel_rfl, fun e h he hk => by
 have F := Ag.nil (e := e)
 have ⟨s_0, F, hk⟩ := eS F hk
 have ⟨end_3, F, hk⟩ := eI F hk
 have ⟨i_4, F, hk⟩ := eI F hk
 exact loopU (s0 := (end_3, i_4)) follows (fun _ h => by cases h) he F (fun s => [(4, .int .i64 s.2), (3, .int .i64 s.1)]) (by kernel_rfl) (F.take 2) hk (fun Kn1 e h => dI .i64 (e 3) fun end_3 => dI .i64 (e 4) fun i_4 => Kn1 (end_3, i_4) h) (fun Kn1 e h hk => by
  have F := Ag.nil (e := e)
  have ⟨end_3, F, hk⟩ := eI F hk
  have ⟨i_4, F, hk⟩ := eI F hk
  exact ⟨(end_3, i_4), F, hk⟩)
  (fun Kn1 => []) (fun Kn1 => [])
  (fun Kn1 => trivial)
  (fun Kn1 => trivial) (fun e s h Kn1 => by as_aux_lemma => kernel_rfl)⟩, ⟨by kernel_rfl, fun e h he hk => by
 have F := Ag.nil (e := e)
 have ⟨s_0, F, hk⟩ := eS F hk
 have ⟨end_3, F, hk⟩ := eI F hk
 have ⟨l_5a, l_5n, l_5c, F, hk⟩ := eL F hk
 have ⟨kept_6a, kept_6n, kept_6c, F, hk⟩ := eL F hk
 have ⟨i_7, F, hk⟩ := eI F hk
 exact loopU (s0 := (kept_6a, kept_6n, kept_6c, i_7)) follows (fun _ h => by cases h) he F (fun s => [(7, .int .i64 s.2.2.2), (6, .slice s.1 s.2.1 s.2.2.1)]) (by kernel_rfl) (F.take 2) hk (fun Kn3 e h => dL (e 6) fun kept_6a kept_6n kept_6c => dI .i64 (e 7) fun i_7 => Kn3 (kept_6a, kept_6n, kept_6c, i_7) h) (fun Kn3 e h hk => by
  have F := Ag.nil (e := e)
  have ⟨kept_6a, kept_6n, kept_6c, F, hk⟩ := eL F hk
  have ⟨i_7, F, hk⟩ := eI F hk
  exact ⟨(kept_6a, kept_6n, kept_6c, i_7), F, hk⟩)
  (fun Kn3 => [(30, fun e h => dS (e 0) fun s_0 => dI .i64 (e 3) fun end_3 => dL (e 5) fun l_5a l_5n l_5c => dL (e 6) fun kept_6a kept_6n kept_6c => dI .i64 (e 7) fun i_7 => ref26_path_b4 s_0 end_3 l_5a l_5n l_5c kept_6a kept_6n kept_6c i_7 Q Kn3 h)]) (fun Kn3 => [])
  (fun Kn3 => ⟨fun e h _ hk => by
 have F := Ag.nil (e := e)
 have ⟨s_0, F, hk⟩ := eS F hk
 have ⟨end_3, F, hk⟩ := eI F hk
 have ⟨l_5a, l_5n, l_5c, F, hk⟩ := eL F hk
 have ⟨kept_6a, kept_6n, kept_6c, F, hk⟩ := eL F hk
 have ⟨i_7, F, hk⟩ := eI F hk
 exact cutU F (by as_aux_lemma => kernel_rfl) hk, trivial⟩)
  (fun Kn3 => trivial) (fun e s h Kn3 => by as_aux_lemma => kernel_rfl)⟩, ⟨by kernel_rfl, fun e h he hk => by
 have F := Ag.nil (e := e)
 have ⟨s_0, F, hk⟩ := eS F hk
 have ⟨end_3, F, hk⟩ := eI F hk
 have ⟨l_5a, l_5n, l_5c, F, hk⟩ := eL F hk
 have ⟨kept_6a, kept_6n, kept_6c, F, hk⟩ := eL F hk
 have ⟨t_8, F, hk⟩ := eS F hk
 have ⟨i_9, F, hk⟩ := eI F hk
 exact loopU (s0 := (t_8, i_9)) follows (fun _ h => by cases h) he F (fun s => [(9, .int .i64 s.2), (8, .string s.1)]) (by kernel_rfl) (F.take 2) hk (fun Kn6 e h => dS (e 8) fun t_8 => dI .i64 (e 9) fun i_9 => Kn6 (t_8, i_9) h) (fun Kn6 e h hk => by
  have F := Ag.nil (e := e)
  have ⟨t_8, F, hk⟩ := eS F hk
  have ⟨i_9, F, hk⟩ := eI F hk
  exact ⟨(t_8, i_9), F, hk⟩)
  (fun Kn6 => [(46, fun e h => dS (e 0) fun s_0 => dI .i64 (e 3) fun end_3 => dL (e 5) fun l_5a l_5n l_5c => dL (e 6) fun kept_6a kept_6n kept_6c => dS (e 8) fun t_8 => dI .i64 (e 9) fun i_9 => ref26_path_b7 s_0 end_3 l_5a l_5n l_5c kept_6a kept_6n kept_6c t_8 i_9 Q Kn6 h)]) (fun Kn6 => [])
  (fun Kn6 => ⟨fun e h _ hk => by
 have F := Ag.nil (e := e)
 have ⟨s_0, F, hk⟩ := eS F hk
 have ⟨end_3, F, hk⟩ := eI F hk
 have ⟨l_5a, l_5n, l_5c, F, hk⟩ := eL F hk
 have ⟨kept_6a, kept_6n, kept_6c, F, hk⟩ := eL F hk
 have ⟨t_8, F, hk⟩ := eS F hk
 have ⟨i_9, F, hk⟩ := eI F hk
 exact cutU F (by as_aux_lemma => kernel_rfl) hk, trivial⟩)
  (fun Kn6 => trivial) (fun e s h Kn6 => by as_aux_lemma => kernel_rfl)⟩, trivial⟩ (by as_aux_lemma => kernel_rfl) hk
/-! ### intrusion/intrusionref26.hex -/
def ref26_hex_l1 (s_0 : ByteArray) (Q : QT) (out_3a : Option Addr) (out_3n out_3c : Nat) (high_4 i_5 : Int) (h : Heap) (Kn1 : (Option Addr) × Nat × Nat × Int × Int → Heap → Prop) : Prop :=
 if (decide (i_5 < ((s_0.size : Nat) : Int))) = true then (idxS s_0 i_5 fun t16 => CallT Try.prog fn_ref26_digit #[.int .u8 t16] h fun v h2 => ∃ t17 : Int, v = .int .i64 t17 ∧ if (decide (t17 < 0)) = true then (Kn1 (out_3a, out_3n, out_3c, high_4, wrap .i64 (i_5 + 1)) h2) else (if (decide (high_4 < 0)) = true then (Kn1 (out_3a, out_3n, out_3c, t17, wrap .i64 (i_5 + 1)) h2) else (alV h2 (.cells #[.int .u8 (wrap .u8 (wrap .i64 ((wrap .i64 (high_4 * 16)) + t17)))] T_uint8) fun t29 h3 => bltV Try.prog .append #[T_sl_uint8, T_sl_uint8] T_sl_uint8 #[false, false] #[.slice out_3a out_3n out_3c, .slice (some t29) 1 1] h3 fun v h4 => ∃ t30a : Option Addr, ∃ t30n : Nat, ∃ t30c : Nat, v = .slice t30a t30n t30c ∧ Kn1 (t30a, t30n, t30c, (-1), wrap .i64 (i_5 + 1)) h4))) else (convV Try.prog T_sl_uint8 T_string (.slice out_3a out_3n out_3c) h fun v h5 => ∃ t32 : ByteArray, v = .string t32 ∧ Q (.string t32) h5)
def ref26_hex_v (s_0 : ByteArray) (Q : QT) (h : Heap) : Prop :=
 alV h (.cells #[] T_uint8) fun t7 h1 => LoopV (fun (s : (Option Addr) × Nat × Nat × Int × Int) h Kn => ref26_hex_l1 s_0 Q s.1 s.2.1 s.2.2.1 s.2.2.2.1 s.2.2.2.2 h Kn) (some t7, 0, 0, (-1), 0) h1
set_option maxRecDepth 100000 in
theorem ref26_hex_s (s_0 : ByteArray) {Q : QT} {h : Heap} (hk : ref26_hex_v s_0 Q h) : CallT Try.prog fn_ref26_hex #[.string s_0] h Q :=
 callU follows Try.func44 (Try.call44 _) rfl rfl [] [(10, fun e h => dS (e 0) fun s_0 => dL (e 3) fun out_3a out_3n out_3c => dI .i64 (e 4) fun high_4 => dI .i64 (e 5) fun i_5 => LoopV (fun (s : (Option Addr) × Nat × Nat × Int × Int) h Kn => ref26_hex_l1 s_0 Q s.1 s.2.1 s.2.2.1 s.2.2.2.1 s.2.2.2.2 h Kn) (out_3a, out_3n, out_3c, high_4, i_5) h)]
 trivial
 ⟨⟨by kernel_rfl, fun e h he hk => by
 have F := Ag.nil (e := e)
 have ⟨s_0, F, hk⟩ := eS F hk
 have ⟨out_3a, out_3n, out_3c, F, hk⟩ := eL F hk
 have ⟨high_4, F, hk⟩ := eI F hk
 have ⟨i_5, F, hk⟩ := eI F hk
 exact loopU (s0 := (out_3a, out_3n, out_3c, high_4, i_5)) follows (fun _ h => by cases h) he F (fun s => [(5, .int .i64 s.2.2.2.2), (4, .int .i64 s.2.2.2.1), (3, .slice s.1 s.2.1 s.2.2.1)]) (by kernel_rfl) (F.take 3) hk (fun Kn1 e h => dL (e 3) fun out_3a out_3n out_3c => dI .i64 (e 4) fun high_4 => dI .i64 (e 5) fun i_5 => Kn1 (out_3a, out_3n, out_3c, high_4, i_5) h) (fun Kn1 e h hk => by
  have F := Ag.nil (e := e)
  have ⟨out_3a, out_3n, out_3c, F, hk⟩ := eL F hk
  have ⟨high_4, F, hk⟩ := eI F hk
  have ⟨i_5, F, hk⟩ := eI F hk
  exact ⟨(out_3a, out_3n, out_3c, high_4, i_5), F, hk⟩)
  (fun Kn1 => []) (fun Kn1 => [])
  (fun Kn1 => trivial)
  (fun Kn1 => trivial) (fun e s h Kn1 => by as_aux_lemma => kernel_rfl)⟩, trivial⟩ (by as_aux_lemma => kernel_rfl) hk
/-! ### intrusion/intrusionref26.digit -/
def ref26_digit_b1 (c_0 : Int) (Q : QT) (h : Heap) : Prop :=
 if (decide (c_0 ≥ 97)) = true then (if (decide (c_0 ≤ 102)) = true then (Q (.int .i64 (wrap .i64 ((wrap .i64 (wrap .u8 (c_0 - 97))) + 10))) h) else (if (decide (c_0 ≥ 65)) = true then (if (decide (c_0 ≤ 70)) = true then (Q (.int .i64 (wrap .i64 ((wrap .i64 (wrap .u8 (c_0 - 65))) + 10))) h) else (Q (.int .i64 (-1)) h)) else (Q (.int .i64 (-1)) h))) else (if (decide (c_0 ≥ 65)) = true then (if (decide (c_0 ≤ 70)) = true then (Q (.int .i64 (wrap .i64 ((wrap .i64 (wrap .u8 (c_0 - 65))) + 10))) h) else (Q (.int .i64 (-1)) h)) else (Q (.int .i64 (-1)) h))
def ref26_digit_v (c_0 : Int) (Q : QT) (h : Heap) : Prop :=
 if (decide (c_0 ≥ 48)) = true then (if (decide (c_0 ≤ 57)) = true then (Q (.int .i64 (wrap .i64 (wrap .u8 (c_0 - 48)))) h) else (ref26_digit_b1 c_0 Q h)) else (ref26_digit_b1 c_0 Q h)
set_option maxRecDepth 100000 in
theorem ref26_digit_s (c_0 : Int) {Q : QT} {h : Heap} (hk : ref26_digit_v c_0 Q h) : CallT Try.prog fn_ref26_digit #[.int .u8 c_0] h Q :=
 callU follows Try.func47 (Try.call47 _) rfl rfl [(9, fun e h => dI .u8 (e 0) fun c_0 => ref26_digit_b1 c_0 Q h)] []
 ⟨fun e h _ hk => by
 have F := Ag.nil (e := e)
 have ⟨c_0, F, hk⟩ := eI F hk
 exact cutU F (by as_aux_lemma => kernel_rfl) hk, trivial⟩
 trivial (by as_aux_lemma => kernel_rfl) hk
/-! ### intrusion/intrusionref26.segments -/
def ref26_segments_b2 (s_0 : ByteArray) (out_3a : Option Addr) (out_3n out_3c : Nat) (from_4 i_5 : Int) (Q : QT) (Kn1 : (Option Addr) × Nat × Nat × Int × Int → Heap → Prop) (h : Heap) : Prop :=
 sliceStr s_0 (some from_4) (some i_5) fun t27 => alV h (.cells #[.string t27] T_string) fun t28 h2 => bltV Try.prog .append #[T_sl_string, T_sl_string] T_sl_string #[false, false] #[.slice out_3a out_3n out_3c, .slice (some t28) 1 1] h2 fun v h3 => ∃ t29a : Option Addr, ∃ t29n : Nat, ∃ t29c : Nat, v = .slice t29a t29n t29c ∧ Kn1 (t29a, t29n, t29c, wrap .i64 (i_5 + 1), wrap .i64 (i_5 + 1)) h3
def ref26_segments_l1 (s_0 : ByteArray) (Q : QT) (out_3a : Option Addr) (out_3n out_3c : Nat) (from_4 i_5 : Int) (h : Heap) (Kn1 : (Option Addr) × Nat × Nat × Int × Int → Heap → Prop) : Prop :=
 if (decide (i_5 ≤ ((s_0.size : Nat) : Int))) = true then (if (i_5 == ((s_0.size : Nat) : Int)) = true then (ref26_segments_b2 s_0 out_3a out_3n out_3c from_4 i_5 Q Kn1 h) else (idxS s_0 i_5 fun t20 => if (t20 == 47) = true then (ref26_segments_b2 s_0 out_3a out_3n out_3c from_4 i_5 Q Kn1 h) else (Kn1 (out_3a, out_3n, out_3c, from_4, wrap .i64 (i_5 + 1)) h))) else (Q (.slice out_3a out_3n out_3c) h)
def ref26_segments_v (s_0 : ByteArray) (Q : QT) (h : Heap) : Prop :=
 alV h (.cells #[] T_string) fun t6 h1 => LoopV (fun (s : (Option Addr) × Nat × Nat × Int × Int) h Kn => ref26_segments_l1 s_0 Q s.1 s.2.1 s.2.2.1 s.2.2.2.1 s.2.2.2.2 h Kn) (some t6, 0, 0, 0, 0) h1
set_option maxRecDepth 100000 in
theorem ref26_segments_s (s_0 : ByteArray) {Q : QT} {h : Heap} (hk : ref26_segments_v s_0 Q h) : CallT Try.prog fn_ref26_segments #[.string s_0] h Q :=
 callU follows Try.func48 (Try.call48 _) rfl rfl [] [(10, fun e h => dS (e 0) fun s_0 => dL (e 3) fun out_3a out_3n out_3c => dI .i64 (e 4) fun from_4 => dI .i64 (e 5) fun i_5 => LoopV (fun (s : (Option Addr) × Nat × Nat × Int × Int) h Kn => ref26_segments_l1 s_0 Q s.1 s.2.1 s.2.2.1 s.2.2.2.1 s.2.2.2.2 h Kn) (out_3a, out_3n, out_3c, from_4, i_5) h)]
 trivial
 ⟨⟨by kernel_rfl, fun e h he hk => by
 have F := Ag.nil (e := e)
 have ⟨s_0, F, hk⟩ := eS F hk
 have ⟨out_3a, out_3n, out_3c, F, hk⟩ := eL F hk
 have ⟨from_4, F, hk⟩ := eI F hk
 have ⟨i_5, F, hk⟩ := eI F hk
 exact loopU (s0 := (out_3a, out_3n, out_3c, from_4, i_5)) follows (fun _ h => by cases h) he F (fun s => [(5, .int .i64 s.2.2.2.2), (4, .int .i64 s.2.2.2.1), (3, .slice s.1 s.2.1 s.2.2.1)]) (by kernel_rfl) (F.take 3) hk (fun Kn1 e h => dL (e 3) fun out_3a out_3n out_3c => dI .i64 (e 4) fun from_4 => dI .i64 (e 5) fun i_5 => Kn1 (out_3a, out_3n, out_3c, from_4, i_5) h) (fun Kn1 e h hk => by
  have F := Ag.nil (e := e)
  have ⟨out_3a, out_3n, out_3c, F, hk⟩ := eL F hk
  have ⟨from_4, F, hk⟩ := eI F hk
  have ⟨i_5, F, hk⟩ := eI F hk
  exact ⟨(out_3a, out_3n, out_3c, from_4, i_5), F, hk⟩)
  (fun Kn1 => [(17, fun e h => dS (e 0) fun s_0 => dL (e 3) fun out_3a out_3n out_3c => dI .i64 (e 4) fun from_4 => dI .i64 (e 5) fun i_5 => ref26_segments_b2 s_0 out_3a out_3n out_3c from_4 i_5 Q Kn1 h)]) (fun Kn1 => [])
  (fun Kn1 => ⟨fun e h _ hk => by
 have F := Ag.nil (e := e)
 have ⟨s_0, F, hk⟩ := eS F hk
 have ⟨out_3a, out_3n, out_3c, F, hk⟩ := eL F hk
 have ⟨from_4, F, hk⟩ := eI F hk
 have ⟨i_5, F, hk⟩ := eI F hk
 exact cutU F (by as_aux_lemma => kernel_rfl) hk, trivial⟩)
  (fun Kn1 => trivial) (fun e s h Kn1 => by as_aux_lemma => kernel_rfl)⟩, trivial⟩ (by as_aux_lemma => kernel_rfl) hk
end Go.Proofs.Ythnheldoklgceaa
