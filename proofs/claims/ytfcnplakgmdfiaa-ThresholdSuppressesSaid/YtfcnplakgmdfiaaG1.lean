/-
  Printed by wip/tool/gen2.py: verification conditions, and the proof that each suffices.
-/
import Derived.Test.YtfcnplakgmdfiaaProg
import Derived.Test.YtfcnplakgmdfiaaVcTree
namespace Go.Proofs.Ytfcnplakgmdfiaa
set_option linter.unusedSimpArgs false
set_option linter.unusedVariables false
set_option maxRecDepth 20000
open Go IntKind
abbrev fn_main_main : FuncId := 0
abbrev fn_gosem_cut : FuncId := 1
abbrev fn_gosem_cut_init : FuncId := 2
abbrev fn_law51_ThresholdFull : FuncId := 3
abbrev fn_law51_ThresholdCounts : FuncId := 4
abbrev fn_law51_ThresholdPlays : FuncId := 5
abbrev fn_law51_ThresholdSuppresses : FuncId := 6
abbrev fn_law51_awake : FuncId := 7
abbrev fn_threshold_New : FuncId := 8
abbrev fn_ref51_New : FuncId := 9
abbrev fn_threshold_Table_Filter : FuncId := 10
abbrev fn_law51_flow : FuncId := 11
abbrev fn_ref51_Table_Filter : FuncId := 12
abbrev fn_threshold_Table_Len : FuncId := 13
abbrev fn_ref51_Table_Len : FuncId := 14
abbrev fn_law51_fine : FuncId := 15
abbrev fn_threshold_Table_Keep : FuncId := 16
abbrev fn_ref51_Table_Keep : FuncId := 17
abbrev fn_threshold_Suppressed : FuncId := 18
abbrev fn_ref51_Suppressed : FuncId := 19
abbrev fn_threshold_counts : FuncId := 20
abbrev fn_threshold_keyOf : FuncId := 21
abbrev fn_threshold_Table_first : FuncId := 22
abbrev fn_ref51_Counts : FuncId := 23
abbrev fn_ref51_KeyOf : FuncId := 24
abbrev fn_ref51_less : FuncId := 25
abbrev fn_slices_ContainsFunc_api_Rule_api_Rule : FuncId := 26
abbrev fn_threshold_Table_Keep_1 : FuncId := 27
abbrev fn_address_ValidPrefix : FuncId := 28
abbrev fn_address_Contains : FuncId := 29
abbrev fn_ref51_inside : FuncId := 30
abbrev fn_threshold_by : FuncId := 31
abbrev fn_threshold_key_compare : FuncId := 32
abbrev fn_ref07_Before : FuncId := 33
abbrev fn_slices_IndexFunc_api_Rule_api_Rule : FuncId := 34
abbrev fn_address_Valid : FuncId := 35
abbrev fn_address_size : FuncId := 36
abbrev fn_address_mask : FuncId := 37
abbrev fn_ref07_Contains : FuncId := 38
abbrev fn_ref07_Of : FuncId := 39
abbrev fn_cmp_Or_int : FuncId := 40
abbrev fn_cmp_Compare_int : FuncId := 41
abbrev fn_address_Compare : FuncId := 42
abbrev fn_address_low : FuncId := 43
abbrev fn_ref07_Fine : FuncId := 44
abbrev fn_ref07_Some : FuncId := 45
abbrev fn_ref07_Right : FuncId := 46
abbrev fn_ref07_add : FuncId := 47
abbrev fn_ref07_Block : FuncId := 48
abbrev fn_cmp_isNaN_int : FuncId := 49
abbrev fn_ref07_Size : FuncId := 50
abbrev fn_ref07_Mask : FuncId := 51
abbrev fn_ref07_joined : FuncId := 52
abbrev fn_ref07_low : FuncId := 53
abbrev fn_ref07_Last : FuncId := 54
abbrev fn_ref07_After : FuncId := 55
abbrev fn_runtime_boundsError_Error : FuncId := 56
abbrev fn_runtime_boundsError_RuntimeError : FuncId := 57
abbrev fn_runtime_errorString_Error : FuncId := 58
abbrev fn_runtime_errorString_RuntimeError : FuncId := 59
abbrev fn_runtime_plainError_Error : FuncId := 60
abbrev fn_runtime_plainError_RuntimeError : FuncId := 61
abbrev fn_runtime_errorAddressString_Error : FuncId := 62
abbrev fn_runtime_errorAddressString_RuntimeError : FuncId := 63
abbrev fn_runtime_TypeAssertionError_Error : FuncId := 64
abbrev fn_runtime_TypeAssertionError_RuntimeError : FuncId := 65
abbrev fn_runtime_PanicNilError_Error : FuncId := 66
abbrev fn_runtime_PanicNilError_RuntimeError : FuncId := 67
abbrev fn_internal_abi_Type_Align : FuncId := 68
abbrev fn_internal_runtime_maps_unhashableTypeError_Error : FuncId := 69
abbrev fn_internal_runtime_maps_unhashableTypeError_RuntimeError : FuncId := 70
abbrev fn_internal_abi_Kind_String : FuncId := 71
abbrev T_t : TypeId := 0
abbrev T_func : TypeId := 1
abbrev T_int64 : TypeId := 2
abbrev T_int : TypeId := 3
abbrev T_bool : TypeId := 4
abbrev T_uint8 : TypeId := 5
abbrev T_abi_BoundsErrorCode : TypeId := 6
abbrev T_struct_x_int64_y_int_signed_bool_code_abi_BoundsErrorCode : TypeId := 7
abbrev T_runtime_boundsError : TypeId := 8
abbrev T_string : TypeId := 9
abbrev T_runtime_errorString : TypeId := 10
abbrev T_runtime_plainError : TypeId := 11
abbrev T_uintptr : TypeId := 12
abbrev T_struct_msg_string_addr_uintptr : TypeId := 13
abbrev T_runtime_errorAddressString : TypeId := 14
abbrev T_p_runtime_TypeAssertionError : TypeId := 15
abbrev T_p_runtime_PanicNilError : TypeId := 16
abbrev T_p_abi_Type : TypeId := 17
abbrev T_struct_typ_p_abi_Type : TypeId := 18
abbrev T_maps_unhashableTypeError : TypeId := 19
abbrev T_interface : TypeId := 20
abbrev T_int32 : TypeId := 21
abbrev T_uint16 : TypeId := 22
abbrev T_sl_uint16 : TypeId := 23
abbrev T_struct_Kind_int_By_int_Count_int_Seconds_int : TypeId := 24
abbrev T_api_Threshold : TypeId := 25
abbrev T_func_bool : TypeId := 26
abbrev T_p_threshold_Table : TypeId := 27
abbrev T_func_p_threshold_Table : TypeId := 28
abbrev T_p_intrusionref51_Table : TypeId := 29
abbrev T_func_p_intrusionref51_Table : TypeId := 30
abbrev T_func_int_int_api_Threshold_api_Flow_bool : TypeId := 31
abbrev T_uint64 : TypeId := 32
abbrev T_struct_V6_bool_Hi_uint64_Lo_uint64 : TypeId := 33
abbrev T_api_Addr : TypeId := 34
abbrev T_struct_Proto_int_Src_api_Addr_Dst_api_Addr_Sport_int_Dport : TypeId := 35
abbrev T_api_Flow : TypeId := 36
abbrev T_func_int_int_api_Flow : TypeId := 37
abbrev T_func_int : TypeId := 38
abbrev T_func_uint16_sl_uint16_api_Threshold_bool : TypeId := 39
abbrev T_sl_uint8 : TypeId := 40
abbrev T_func_api_Threshold_sl_uint8_bool : TypeId := 41
abbrev T_sl_intrusionlaw51_Call : TypeId := 42
abbrev T_sl_int : TypeId := 43
abbrev T_struct_Kind_int_At_int_Sid_int_H_api_Threshold_F_api_Flow_ : TypeId := 44
abbrev T_intrusionlaw51_Call : TypeId := 45
abbrev T_func_api_Flow_bool : TypeId := 46
abbrev T_sl_api_Rule : TypeId := 47
abbrev T_sl_api_AddrTerm : TypeId := 48
abbrev T_sl_api_PortTerm : TypeId := 49
abbrev T_sl_api_Content : TypeId := 50
abbrev T_sl_api_Test : TypeId := 51
abbrev T_sl_api_FlowOp : TypeId := 52
abbrev T_struct_Action_int_Proto_int_Src_sl_api_AddrTerm_Dst_sl_api : TypeId := 53
abbrev T_api_Rule : TypeId := 54
abbrev T_func_sl_api_Rule : TypeId := 55
abbrev T_func_sl_intrusionlaw51_Call_bool : TypeId := 56
abbrev T_sl_api_Suppress : TypeId := 57
abbrev T_func_sl_api_Suppress_int_api_Flow_bool : TypeId := 58
abbrev T_map_threshold_key_p_threshold_counter : TypeId := 59
abbrev T_struct_time_int_counters_map_threshold_key_p_threshold_cou : TypeId := 60
abbrev T_threshold_Table : TypeId := 61
abbrev T_sl_intrusionref51_Counter : TypeId := 62
abbrev T_struct_Time_int_L_sl_intrusionref51_Counter : TypeId := 63
abbrev T_intrusionref51_Table : TypeId := 64
abbrev T_func_api_Threshold_bool : TypeId := 65
abbrev T_struct_sid_int_threshold_api_Threshold_a_api_Addr_b_api_Ad : TypeId := 66
abbrev T_threshold_key : TypeId := 67
abbrev T_func_int_api_Threshold_api_Flow_threshold_key : TypeId := 68
abbrev T_p_threshold_counter : TypeId := 69
abbrev T_struct_began_int_n_int : TypeId := 70
abbrev T_threshold_counter : TypeId := 71
abbrev T_func_threshold_key : TypeId := 72
abbrev T_struct_Sid_int_H_api_Threshold_Src_api_Addr_Dst_api_Addr : TypeId := 73
abbrev T_intrusionref51_Key : TypeId := 74
abbrev T_func_int_api_Threshold_api_Flow_intrusionref51_Key : TypeId := 75
abbrev T_struct_K_intrusionref51_Key_Began_int_N_int : TypeId := 76
abbrev T_intrusionref51_Counter : TypeId := 77
abbrev T_func_intrusionref51_Key_intrusionref51_Key_bool : TypeId := 78
abbrev T_func_sl_api_Rule_func_api_Rule_bool_bool : TypeId := 79
abbrev T_func_api_Rule_bool : TypeId := 80
abbrev T_struct_Addr_api_Addr_Bits_int : TypeId := 81
abbrev T_api_Prefix : TypeId := 82
abbrev T_struct_Sid_int_By_int_Prefix_api_Prefix : TypeId := 83
abbrev T_api_Suppress : TypeId := 84
abbrev T_func_api_Prefix_bool : TypeId := 85
abbrev T_func_api_Prefix_api_Addr_bool : TypeId := 86
abbrev T_func_int_bool : TypeId := 87
abbrev T_func_threshold_key_int : TypeId := 88
abbrev T_func_api_Addr_api_Addr_bool : TypeId := 89
abbrev T_func_sl_api_Rule_func_api_Rule_bool_int : TypeId := 90
abbrev T_func_api_Addr_bool : TypeId := 91
abbrev T_func_api_Addr_int : TypeId := 92
abbrev T_uint64_uint64 : TypeId := 93
abbrev T_func_api_Addr_int_uint64_uint64 : TypeId := 94
abbrev T_func_sl_api_Range_api_Addr_bool : TypeId := 95
abbrev T_sl_api_Range : TypeId := 96
abbrev T_func_sl_api_Prefix_sl_api_Range : TypeId := 97
abbrev T_sl_api_Prefix : TypeId := 98
abbrev T_func_int_int : TypeId := 99
abbrev T_func_int_int_int : TypeId := 100
abbrev T_func_api_Addr_api_Addr_int : TypeId := 101
abbrev T_func_int_uint64 : TypeId := 102
abbrev T_func_api_Range_bool : TypeId := 103
abbrev T_struct_Lo_api_Addr_Hi_api_Addr : TypeId := 104
abbrev T_api_Range : TypeId := 105
abbrev T_func_sl_api_Range_api_Range_sl_api_Range : TypeId := 106
abbrev T_func_api_Prefix_api_Range : TypeId := 107
abbrev T_func_int_uint64_uint64 : TypeId := 108
abbrev T_func_api_Range_api_Range_bool : TypeId := 109
abbrev T_func_api_Addr_api_Addr : TypeId := 110
abbrev T_uint : TypeId := 111
abbrev T_func_string : TypeId := 112
abbrev T_struct__interface_p_abi_Type_concrete_p_abi_Type_asserted_ : TypeId := 113
abbrev T_runtime_TypeAssertionError : TypeId := 114
abbrev T_0_p_runtime_PanicNilError : TypeId := 115
abbrev T_struct___0_p_runtime_PanicNilError : TypeId := 116
abbrev T_runtime_PanicNilError : TypeId := 117
abbrev T_uint32 : TypeId := 118
abbrev T_abi_TFlag : TypeId := 119
abbrev T_abi_Kind : TypeId := 120
abbrev T_func_unsafe_Pointer_unsafe_Pointer_bool : TypeId := 121
abbrev T_p_uint8 : TypeId := 122
abbrev T_abi_NameOff : TypeId := 123
abbrev T_abi_TypeOff : TypeId := 124
abbrev T_struct_Size__uintptr_PtrBytes_uintptr_Hash_uint32_TFlag_ab : TypeId := 125
abbrev T_abi_Type : TypeId := 126
abbrev T_struct_Not_bool_Var_string_Prefix_api_Prefix : TypeId := 127
abbrev T_api_AddrTerm : TypeId := 128
abbrev T_struct_Not_bool_Var_string_Lo_int_Hi_int : TypeId := 129
abbrev T_api_PortTerm : TypeId := 130
abbrev T_struct_Pattern_string_Nocase_bool_Not_bool_Relative_bool_O : TypeId := 131
abbrev T_api_Content : TypeId := 132
abbrev T_struct_Op_int_Size_int_Value_int_Offset_int_Relative_bool_ : TypeId := 133
abbrev T_api_Test : TypeId := 134
abbrev T_struct_Op_int_Name_string : TypeId := 135
abbrev T_api_FlowOp : TypeId := 136
abbrev T_unsafe_Pointer : TypeId := 137
theorem follows : Try.prog.follows .mixedOrders = true := by kernel_rfl
variable [Gh]
/-! ### intrusion/intrusionlaw51.ThresholdFull -/
def law51_ThresholdFull_b4 (Q : QT) (h : Heap) : Prop :=
 CallT Try.prog fn_law51_awake #[] h fun v h17 => ∃ t88 : Bool, v = .bool t88 ∧ Q (.bool t88) h17
def law51_ThresholdFull_l3 (again_1a : Option Addr) (again_1n again_1c : Nat) (h_5 : Addr) (t_7 r_8 : Option Addr) (Q : QT) (i_10 : Int) (h : Heap) (Kn3 : Int → Heap → Prop) : Prop :=
 if (decide (i_10 < ((again_1n : Nat) : Int))) = true then (idxA i_10 again_1n (nn again_1a fun t57 => ldI h (Addr.add t57 ((i_10).toNat * 1)) .u16 fun t58 => (400 : Int) ≠ 0 ∧ ldI h h_5 .i64 fun t62_0 => ldI h (Addr.add h_5 1) .i64 fun t62_1 => ldI h (Addr.add h_5 2) .i64 fun t62_2 => ldI h (Addr.add h_5 3) .i64 fun t62_3 => ldI h h_5 .i64 fun t69_0 => ldI h (Addr.add h_5 1) .i64 fun t69_1 => ldI h (Addr.add h_5 2) .i64 fun t69_2 => ldI h (Addr.add h_5 3) .i64 fun t69_3 => CallT Try.prog fn_law51_flow #[.int .i64 (Int.tmod (wrap .i64 t58) 400), .int .i64 (wrap .i64 (1000 + (Int.tmod (wrap .i64 t58) 400)))] h fun v h10 => ∃ t66_0 : Int, ∃ t66_1 : Bool, ∃ t66_2 : Int, ∃ t66_3 : Int, ∃ t66_4 : Bool, ∃ t66_5 : Int, ∃ t66_6 : Int, ∃ t66_7 : Int, ∃ t66_8 : Int, v = .agg #[.int .i64 t66_0, .bool t66_1, .int .u64 t66_2, .int .u64 t66_3, .bool t66_4, .int .u64 t66_5, .int .u64 t66_6, .int .i64 t66_7, .int .i64 t66_8] ∧ (ldI h10 h_5 .i64 fun t962_0 => ldI h10 (Addr.add h_5 1) .i64 fun t962_1 => ldI h10 (Addr.add h_5 2) .i64 fun t962_2 => ldI h10 (Addr.add h_5 3) .i64 fun t962_3 => (.agg #[.int .i64 t962_0, .int .i64 t962_1, .int .i64 t962_2, .int .i64 t962_3] : Value) = .agg #[.int .i64 t62_0, .int .i64 t62_1, .int .i64 t62_2, .int .i64 t62_3]) ∧ (ldI h10 h_5 .i64 fun t969_0 => ldI h10 (Addr.add h_5 1) .i64 fun t969_1 => ldI h10 (Addr.add h_5 2) .i64 fun t969_2 => ldI h10 (Addr.add h_5 3) .i64 fun t969_3 => (.agg #[.int .i64 t969_0, .int .i64 t969_1, .int .i64 t969_2, .int .i64 t969_3] : Value) = .agg #[.int .i64 t69_0, .int .i64 t69_1, .int .i64 t69_2, .int .i64 t69_3]) ∧ CallT Try.prog fn_threshold_Table_Filter #[.pointer t_7, .int .i64 200, .int .i64 1, .agg #[.int .i64 t62_0, .int .i64 t62_1, .int .i64 t62_2, .int .i64 t62_3], .agg #[.int .i64 t66_0, .bool t66_1, .int .u64 t66_2, .int .u64 t66_3, .bool t66_4, .int .u64 t66_5, .int .u64 t66_6, .int .i64 t66_7, .int .i64 t66_8]] h10 fun v h11 => ∃ t67 : Bool, v = .bool t67 ∧ (ldI h11 h_5 .i64 fun t969_0 => ldI h11 (Addr.add h_5 1) .i64 fun t969_1 => ldI h11 (Addr.add h_5 2) .i64 fun t969_2 => ldI h11 (Addr.add h_5 3) .i64 fun t969_3 => (.agg #[.int .i64 t969_0, .int .i64 t969_1, .int .i64 t969_2, .int .i64 t969_3] : Value) = .agg #[.int .i64 t69_0, .int .i64 t69_1, .int .i64 t69_2, .int .i64 t69_3]) ∧ CallT Try.prog fn_law51_flow #[.int .i64 (Int.tmod (wrap .i64 t58) 400), .int .i64 (wrap .i64 (1000 + (Int.tmod (wrap .i64 t58) 400)))] h11 fun v h12 => ∃ t73_0 : Int, ∃ t73_1 : Bool, ∃ t73_2 : Int, ∃ t73_3 : Int, ∃ t73_4 : Bool, ∃ t73_5 : Int, ∃ t73_6 : Int, ∃ t73_7 : Int, ∃ t73_8 : Int, v = .agg #[.int .i64 t73_0, .bool t73_1, .int .u64 t73_2, .int .u64 t73_3, .bool t73_4, .int .u64 t73_5, .int .u64 t73_6, .int .i64 t73_7, .int .i64 t73_8] ∧ (ldI h12 h_5 .i64 fun t969_0 => ldI h12 (Addr.add h_5 1) .i64 fun t969_1 => ldI h12 (Addr.add h_5 2) .i64 fun t969_2 => ldI h12 (Addr.add h_5 3) .i64 fun t969_3 => (.agg #[.int .i64 t969_0, .int .i64 t969_1, .int .i64 t969_2, .int .i64 t969_3] : Value) = .agg #[.int .i64 t69_0, .int .i64 t69_1, .int .i64 t69_2, .int .i64 t69_3]) ∧ CallT Try.prog fn_ref51_Table_Filter #[.pointer r_8, .int .i64 200, .int .i64 1, .agg #[.int .i64 t69_0, .int .i64 t69_1, .int .i64 t69_2, .int .i64 t69_3], .agg #[.int .i64 t73_0, .bool t73_1, .int .u64 t73_2, .int .u64 t73_3, .bool t73_4, .int .u64 t73_5, .int .u64 t73_6, .int .i64 t73_7, .int .i64 t73_8]] h12 fun v h13 => ∃ t74 : Bool, v = .bool t74 ∧ if (!(t67 == t74)) = true then (Q (.bool false) h13) else (CallT Try.prog fn_threshold_Table_Len #[.pointer t_7] h13 fun v h14 => ∃ t78 : Int, v = .int .i64 t78 ∧ CallT Try.prog fn_ref51_Table_Len #[.pointer r_8] h14 fun v h15 => ∃ t80 : Int, v = .int .i64 t80 ∧ if (t78 != t80) = true then (Q (.bool false) h15) else (CallT Try.prog fn_threshold_Table_Len #[.pointer t_7] h15 fun v h16 => ∃ t85 : Int, v = .int .i64 t85 ∧ if (decide (t85 > 256)) = true then (Q (.bool false) h16) else (Kn3 (wrap .i64 (i_10 + 1)) h16))))) else (law51_ThresholdFull_b4 Q h)
def law51_ThresholdFull_b2 (again_1a : Option Addr) (again_1n again_1c : Nat) (h_5 : Addr) (t_7 r_8 : Option Addr) (Q : QT) (h : Heap) : Prop :=
 LoopV (fun (s : Int) h Kn => law51_ThresholdFull_l3 again_1a again_1n again_1c h_5 t_7 r_8 Q s h Kn) 0 h
def law51_ThresholdFull_l1 (n_0 : Int) (again_1a : Option Addr) (again_1n again_1c : Nat) (h_5 : Addr) (t_7 r_8 : Option Addr) (Q : QT) (i_9 : Int) (h : Heap) (Kn1 : Int → Heap → Prop) : Prop :=
 if (decide (i_9 < (wrap .i64 n_0))) = true then ((3 : Int) ≠ 0 ∧ ldI h h_5 .i64 fun t33_0 => ldI h (Addr.add h_5 1) .i64 fun t33_1 => ldI h (Addr.add h_5 2) .i64 fun t33_2 => ldI h (Addr.add h_5 3) .i64 fun t33_3 => (3 : Int) ≠ 0 ∧ ldI h h_5 .i64 fun t42_0 => ldI h (Addr.add h_5 1) .i64 fun t42_1 => ldI h (Addr.add h_5 2) .i64 fun t42_2 => ldI h (Addr.add h_5 3) .i64 fun t42_3 => CallT Try.prog fn_law51_flow #[.int .i64 i_9, .int .i64 (wrap .i64 (1000 + i_9))] h fun v h6 => ∃ t37_0 : Int, ∃ t37_1 : Bool, ∃ t37_2 : Int, ∃ t37_3 : Int, ∃ t37_4 : Bool, ∃ t37_5 : Int, ∃ t37_6 : Int, ∃ t37_7 : Int, ∃ t37_8 : Int, v = .agg #[.int .i64 t37_0, .bool t37_1, .int .u64 t37_2, .int .u64 t37_3, .bool t37_4, .int .u64 t37_5, .int .u64 t37_6, .int .i64 t37_7, .int .i64 t37_8] ∧ (ldI h6 h_5 .i64 fun t933_0 => ldI h6 (Addr.add h_5 1) .i64 fun t933_1 => ldI h6 (Addr.add h_5 2) .i64 fun t933_2 => ldI h6 (Addr.add h_5 3) .i64 fun t933_3 => (.agg #[.int .i64 t933_0, .int .i64 t933_1, .int .i64 t933_2, .int .i64 t933_3] : Value) = .agg #[.int .i64 t33_0, .int .i64 t33_1, .int .i64 t33_2, .int .i64 t33_3]) ∧ (ldI h6 h_5 .i64 fun t942_0 => ldI h6 (Addr.add h_5 1) .i64 fun t942_1 => ldI h6 (Addr.add h_5 2) .i64 fun t942_2 => ldI h6 (Addr.add h_5 3) .i64 fun t942_3 => (.agg #[.int .i64 t942_0, .int .i64 t942_1, .int .i64 t942_2, .int .i64 t942_3] : Value) = .agg #[.int .i64 t42_0, .int .i64 t42_1, .int .i64 t42_2, .int .i64 t42_3]) ∧ CallT Try.prog fn_threshold_Table_Filter #[.pointer t_7, .int .i64 (wrap .i64 (Int.tdiv i_9 3)), .int .i64 1, .agg #[.int .i64 t33_0, .int .i64 t33_1, .int .i64 t33_2, .int .i64 t33_3], .agg #[.int .i64 t37_0, .bool t37_1, .int .u64 t37_2, .int .u64 t37_3, .bool t37_4, .int .u64 t37_5, .int .u64 t37_6, .int .i64 t37_7, .int .i64 t37_8]] h6 fun v h7 => ∃ t38 : Bool, v = .bool t38 ∧ (ldI h7 h_5 .i64 fun t942_0 => ldI h7 (Addr.add h_5 1) .i64 fun t942_1 => ldI h7 (Addr.add h_5 2) .i64 fun t942_2 => ldI h7 (Addr.add h_5 3) .i64 fun t942_3 => (.agg #[.int .i64 t942_0, .int .i64 t942_1, .int .i64 t942_2, .int .i64 t942_3] : Value) = .agg #[.int .i64 t42_0, .int .i64 t42_1, .int .i64 t42_2, .int .i64 t42_3]) ∧ CallT Try.prog fn_law51_flow #[.int .i64 i_9, .int .i64 (wrap .i64 (1000 + i_9))] h7 fun v h8 => ∃ t46_0 : Int, ∃ t46_1 : Bool, ∃ t46_2 : Int, ∃ t46_3 : Int, ∃ t46_4 : Bool, ∃ t46_5 : Int, ∃ t46_6 : Int, ∃ t46_7 : Int, ∃ t46_8 : Int, v = .agg #[.int .i64 t46_0, .bool t46_1, .int .u64 t46_2, .int .u64 t46_3, .bool t46_4, .int .u64 t46_5, .int .u64 t46_6, .int .i64 t46_7, .int .i64 t46_8] ∧ (ldI h8 h_5 .i64 fun t942_0 => ldI h8 (Addr.add h_5 1) .i64 fun t942_1 => ldI h8 (Addr.add h_5 2) .i64 fun t942_2 => ldI h8 (Addr.add h_5 3) .i64 fun t942_3 => (.agg #[.int .i64 t942_0, .int .i64 t942_1, .int .i64 t942_2, .int .i64 t942_3] : Value) = .agg #[.int .i64 t42_0, .int .i64 t42_1, .int .i64 t42_2, .int .i64 t42_3]) ∧ CallT Try.prog fn_ref51_Table_Filter #[.pointer r_8, .int .i64 (wrap .i64 (Int.tdiv i_9 3)), .int .i64 1, .agg #[.int .i64 t42_0, .int .i64 t42_1, .int .i64 t42_2, .int .i64 t42_3], .agg #[.int .i64 t46_0, .bool t46_1, .int .u64 t46_2, .int .u64 t46_3, .bool t46_4, .int .u64 t46_5, .int .u64 t46_6, .int .i64 t46_7, .int .i64 t46_8]] h8 fun v h9 => ∃ t47 : Bool, v = .bool t47 ∧ if (!(t38 == t47)) = true then (Q (.bool false) h9) else (Kn1 (wrap .i64 (i_9 + 1)) h9)) else (law51_ThresholdFull_b2 again_1a again_1n again_1c h_5 t_7 r_8 Q h)
def law51_ThresholdFull_v (n_0 : Int) (again_1a : Option Addr) (again_1n again_1c : Nat) (h_2_0 h_2_1 h_2_2 h_2_3 : Int) (Q : QT) (h : Heap) : Prop :=
 alV h (.cells #[.int .i64 h_2_0, .int .i64 h_2_1, .int .i64 h_2_2, .int .i64 h_2_3] T_api_Threshold) fun t5 h1 => if (decide (n_0 > 400)) = true then (CallT Try.prog fn_law51_awake #[] h1 fun v h2 => ∃ t19 : Bool, v = .bool t19 ∧ Q (.bool t19) h2) else (if (decide (((again_1n : Nat) : Int) > 60)) = true then (CallT Try.prog fn_law51_awake #[] h1 fun v h3 => ∃ t19 : Bool, v = .bool t19 ∧ Q (.bool t19) h3) else (CallT Try.prog fn_threshold_New #[] h1 fun v h4 => ∃ t20 : Option Addr, v = .pointer t20 ∧ if (Option.isNone t20) = true then (Q (.bool false) h4) else (CallT Try.prog fn_ref51_New #[] h4 fun v h5 => ∃ t23 : Option Addr, v = .pointer t23 ∧ LoopV (fun (s : Int) h Kn => law51_ThresholdFull_l1 n_0 again_1a again_1n again_1c t5 t20 t23 Q s h Kn) 0 h5)))
set_option maxRecDepth 100000 in
theorem law51_ThresholdFull_s (n_0 : Int) (again_1a : Option Addr) (again_1n again_1c : Nat) (h_2_0 h_2_1 h_2_2 h_2_3 : Int) {Q : QT} {h : Heap} (hk : law51_ThresholdFull_v n_0 again_1a again_1n again_1c h_2_0 h_2_1 h_2_2 h_2_3 Q h) : CallT Try.prog fn_law51_ThresholdFull #[.int .u16 n_0, .slice again_1a again_1n again_1c, .agg #[.int .i64 h_2_0, .int .i64 h_2_1, .int .i64 h_2_2, .int .i64 h_2_3]] h Q :=
 callU follows Try.func3 (Try.call3 _) rfl rfl [(26, fun e h => dL (e 1) fun again_1a again_1n again_1c => dA (e 5) fun h_5 => dP (e 7) fun t_7 => dP (e 8) fun r_8 => law51_ThresholdFull_b2 again_1a again_1n again_1c h_5 t_7 r_8 Q h), (38, fun e h => law51_ThresholdFull_b4 Q h)] [(18, fun e h => dI .u16 (e 0) fun n_0 => dL (e 1) fun again_1a again_1n again_1c => dA (e 5) fun h_5 => dP (e 7) fun t_7 => dP (e 8) fun r_8 => dI .i64 (e 9) fun i_9 => LoopV (fun (s : Int) h Kn => law51_ThresholdFull_l1 n_0 again_1a again_1n again_1c h_5 t_7 r_8 Q s h Kn) i_9 h), (28, fun e h => dL (e 1) fun again_1a again_1n again_1c => dA (e 5) fun h_5 => dP (e 7) fun t_7 => dP (e 8) fun r_8 => dI .i64 (e 10) fun i_10 => LoopV (fun (s : Int) h Kn => law51_ThresholdFull_l3 again_1a again_1n again_1c h_5 t_7 r_8 Q s h Kn) i_10 h)]
 ⟨fun e h _ hk => by
 have F := Ag.nil (e := e)
 have ⟨again_1a, again_1n, again_1c, F, hk⟩ := eL F hk
 have ⟨h_5, F, hk⟩ := eA F hk
 have ⟨t_7, F, hk⟩ := eP F hk
 have ⟨r_8, F, hk⟩ := eP F hk
 exact cutU F (by as_aux_lemma => kernel_rfl) hk, fun e h _ hk => by
 have F := Ag.nil (e := e)
 exact cutU F (by as_aux_lemma => kernel_rfl) hk, trivial⟩
 ⟨⟨by kernel_rfl, fun e h he hk => by
 have F := Ag.nil (e := e)
 have ⟨n_0, F, hk⟩ := eI F hk
 have ⟨again_1a, again_1n, again_1c, F, hk⟩ := eL F hk
 have ⟨h_5, F, hk⟩ := eA F hk
 have ⟨t_7, F, hk⟩ := eP F hk
 have ⟨r_8, F, hk⟩ := eP F hk
 have ⟨i_9, F, hk⟩ := eI F hk
 exact loopU (s0 := i_9) follows (fun _ h => by cases h) he F (fun s => [(9, .int .i64 s)]) (by kernel_rfl) (F.take 1) hk (fun Kn1 e h => dI .i64 (e 9) fun i_9 => Kn1 i_9 h) (fun Kn1 e h hk => by
  have F := Ag.nil (e := e)
  have ⟨i_9, F, hk⟩ := eI F hk
  exact ⟨i_9, F, hk⟩)
  (fun Kn1 => []) (fun Kn1 => [])
  (fun Kn1 => trivial)
  (fun Kn1 => trivial) (fun e s h Kn1 => by as_aux_lemma => kernel_rfl)⟩, ⟨by kernel_rfl, fun e h he hk => by
 have F := Ag.nil (e := e)
 have ⟨again_1a, again_1n, again_1c, F, hk⟩ := eL F hk
 have ⟨h_5, F, hk⟩ := eA F hk
 have ⟨t_7, F, hk⟩ := eP F hk
 have ⟨r_8, F, hk⟩ := eP F hk
 have ⟨i_10, F, hk⟩ := eI F hk
 exact loopU (s0 := i_10) follows (fun _ h => by cases h) he F (fun s => [(10, .int .i64 s)]) (by kernel_rfl) (F.take 1) hk (fun Kn3 e h => dI .i64 (e 10) fun i_10 => Kn3 i_10 h) (fun Kn3 e h hk => by
  have F := Ag.nil (e := e)
  have ⟨i_10, F, hk⟩ := eI F hk
  exact ⟨i_10, F, hk⟩)
  (fun Kn3 => []) (fun Kn3 => [])
  (fun Kn3 => trivial)
  (fun Kn3 => trivial) (fun e s h Kn3 => by as_aux_lemma => kernel_rfl)⟩, trivial⟩ (by as_aux_lemma => kernel_rfl) hk
/-! ### intrusion/intrusionlaw51.ThresholdCounts -/
def law51_ThresholdCounts_b4 (passed_7 want_11 : Int) (Q : QT) (h : Heap) : Prop :=
 if (passed_7 == want_11) = true then (CallT Try.prog fn_law51_awake #[] h fun v h14 => ∃ t117 : Bool, v = .bool t117 ∧ Q (.bool t117) h14) else (Q (.bool false) h)
def law51_ThresholdCounts_b3 (h_2 : Addr) (passed_7 want_11 : Int) (Q : QT) (h : Heap) : Prop :=
 ldI h h_2 .i64 fun t107 => if (t107 == 3) = true then (if (decide (want_11 > 1)) = true then (law51_ThresholdCounts_b4 passed_7 1 Q h) else (law51_ThresholdCounts_b4 passed_7 want_11 Q h)) else (law51_ThresholdCounts_b4 passed_7 want_11 Q h)
def law51_ThresholdCounts_b2 (h_2 : Addr) (n_6 passed_7 : Int) (Q : QT) (h : Heap) : Prop :=
 ldI h (Addr.add h_2 2) .i64 fun t94 => t94 ≠ 0 ∧ ldI h h_2 .i64 fun t97 => if (t97 == 1) = true then (ldI h (Addr.add h_2 2) .i64 fun t102 => if (decide (n_6 > t102)) = true then (ldI h (Addr.add h_2 2) .i64 fun t105 => law51_ThresholdCounts_b3 h_2 passed_7 t105 Q h) else (law51_ThresholdCounts_b3 h_2 passed_7 n_6 Q h)) else (law51_ThresholdCounts_b3 h_2 passed_7 (wrap .i64 (Int.tdiv n_6 t94)) Q h)
def law51_ThresholdCounts_l1 (who_1a : Option Addr) (who_1n who_1c : Nat) (h_2 : Addr) (t_5 : Option Addr) (Q : QT) (n_6 passed_7 i_8 : Int) (h : Heap) (Kn1 : Int × Int × Int → Heap → Prop) : Prop :=
 if (decide (i_8 < ((who_1n : Nat) : Int))) = true then (idxA i_8 who_1n (nn who_1a fun t67 => ldI h (Addr.add t67 ((i_8).toNat * 1)) .u8 fun t68 => (4 : Int) ≠ 0 ∧ (2 : Int) ≠ 0 ∧ ldI h h_2 .i64 fun t76_0 => ldI h (Addr.add h_2 1) .i64 fun t76_1 => ldI h (Addr.add h_2 2) .i64 fun t76_2 => ldI h (Addr.add h_2 3) .i64 fun t76_3 => (2 : Int) ≠ 0 ∧ (2 : Int) ≠ 0 ∧ CallT Try.prog fn_law51_flow #[.int .i64 (wrap .i64 (5 + (wrap .i64 (Int.tdiv (Int.tmod (wrap .i64 t68) 4) 2)))), .int .i64 (wrap .i64 (7 + (wrap .i64 (Int.tdiv (Int.tmod (wrap .i64 t68) 4) 2))))] h fun v h12 => ∃ t83_0 : Int, ∃ t83_1 : Bool, ∃ t83_2 : Int, ∃ t83_3 : Int, ∃ t83_4 : Bool, ∃ t83_5 : Int, ∃ t83_6 : Int, ∃ t83_7 : Int, ∃ t83_8 : Int, v = .agg #[.int .i64 t83_0, .bool t83_1, .int .u64 t83_2, .int .u64 t83_3, .bool t83_4, .int .u64 t83_5, .int .u64 t83_6, .int .i64 t83_7, .int .i64 t83_8] ∧ (ldI h12 h_2 .i64 fun t976_0 => ldI h12 (Addr.add h_2 1) .i64 fun t976_1 => ldI h12 (Addr.add h_2 2) .i64 fun t976_2 => ldI h12 (Addr.add h_2 3) .i64 fun t976_3 => (.agg #[.int .i64 t976_0, .int .i64 t976_1, .int .i64 t976_2, .int .i64 t976_3] : Value) = .agg #[.int .i64 t76_0, .int .i64 t76_1, .int .i64 t76_2, .int .i64 t76_3]) ∧ CallT Try.prog fn_threshold_Table_Filter #[.pointer t_5, .int .i64 i_8, .int .i64 (wrap .i64 (1 + (Int.tmod (Int.tmod (wrap .i64 t68) 4) 2))), .agg #[.int .i64 t76_0, .int .i64 t76_1, .int .i64 t76_2, .int .i64 t76_3], .agg #[.int .i64 t83_0, .bool t83_1, .int .u64 t83_2, .int .u64 t83_3, .bool t83_4, .int .u64 t83_5, .int .u64 t83_6, .int .i64 t83_7, .int .i64 t83_8]] h12 fun v h13 => ∃ t84 : Bool, v = .bool t84 ∧ if ((Int.tmod (wrap .i64 t68) 4) == 0) = true then (if t84 = true then (Kn1 (wrap .i64 (n_6 + 1), wrap .i64 (passed_7 + 1), wrap .i64 (i_8 + 1)) h13) else (Kn1 (wrap .i64 (n_6 + 1), passed_7, wrap .i64 (i_8 + 1)) h13)) else (Kn1 (n_6, passed_7, wrap .i64 (i_8 + 1)) h13))) else (law51_ThresholdCounts_b2 h_2 n_6 passed_7 Q h)
def law51_ThresholdCounts_v (h_0_0 h_0_1 h_0_2 h_0_3 : Int) (who_1a : Option Addr) (who_1n who_1c : Nat) (Q : QT) (h : Heap) : Prop :=
 alV h (.cells #[.int .i64 h_0_0, .int .i64 h_0_1, .int .i64 h_0_2, .int .i64 h_0_3] T_api_Threshold) fun t2 h1 => if (decide (((who_1n : Nat) : Int) > 60)) = true then (CallT Try.prog fn_law51_awake #[] h1 fun v h2 => ∃ t55 : Bool, v = .bool t55 ∧ Q (.bool t55) h2) else (ldI h1 t2 .i64 fun t17 => if (decide (t17 < 1)) = true then (CallT Try.prog fn_law51_awake #[] h1 fun v h3 => ∃ t55 : Bool, v = .bool t55 ∧ Q (.bool t55) h3) else (ldI h1 t2 .i64 fun t22 => if (decide (t22 > 3)) = true then (CallT Try.prog fn_law51_awake #[] h1 fun v h4 => ∃ t55 : Bool, v = .bool t55 ∧ Q (.bool t55) h4) else (ldI h1 (Addr.add t2 1) .i64 fun t27 => if (decide (t27 < 1)) = true then (CallT Try.prog fn_law51_awake #[] h1 fun v h5 => ∃ t55 : Bool, v = .bool t55 ∧ Q (.bool t55) h5) else (ldI h1 (Addr.add t2 1) .i64 fun t32 => if (decide (t32 > 3)) = true then (CallT Try.prog fn_law51_awake #[] h1 fun v h6 => ∃ t55 : Bool, v = .bool t55 ∧ Q (.bool t55) h6) else (ldI h1 (Addr.add t2 2) .i64 fun t37 => if (decide (t37 < 1)) = true then (CallT Try.prog fn_law51_awake #[] h1 fun v h7 => ∃ t55 : Bool, v = .bool t55 ∧ Q (.bool t55) h7) else (ldI h1 (Addr.add t2 2) .i64 fun t42 => if (decide (t42 > 65536)) = true then (CallT Try.prog fn_law51_awake #[] h1 fun v h8 => ∃ t55 : Bool, v = .bool t55 ∧ Q (.bool t55) h8) else (ldI h1 (Addr.add t2 3) .i64 fun t47 => if (decide (t47 < 1)) = true then (CallT Try.prog fn_law51_awake #[] h1 fun v h9 => ∃ t55 : Bool, v = .bool t55 ∧ Q (.bool t55) h9) else (ldI h1 (Addr.add t2 3) .i64 fun t52 => if (decide (t52 > 86400)) = true then (CallT Try.prog fn_law51_awake #[] h1 fun v h10 => ∃ t55 : Bool, v = .bool t55 ∧ Q (.bool t55) h10) else (CallT Try.prog fn_threshold_New #[] h1 fun v h11 => ∃ t56 : Option Addr, v = .pointer t56 ∧ if (Option.isNone t56) = true then (Q (.bool false) h11) else (LoopV (fun (s : Int × Int × Int) h Kn => law51_ThresholdCounts_l1 who_1a who_1n who_1c t2 t56 Q s.1 s.2.1 s.2.2 h Kn) (0, 0, 0) h11))))))))))
set_option maxRecDepth 100000 in
theorem law51_ThresholdCounts_s (h_0_0 h_0_1 h_0_2 h_0_3 : Int) (who_1a : Option Addr) (who_1n who_1c : Nat) {Q : QT} {h : Heap} (hk : law51_ThresholdCounts_v h_0_0 h_0_1 h_0_2 h_0_3 who_1a who_1n who_1c Q h) : CallT Try.prog fn_law51_ThresholdCounts #[.agg #[.int .i64 h_0_0, .int .i64 h_0_1, .int .i64 h_0_2, .int .i64 h_0_3], .slice who_1a who_1n who_1c] h Q :=
 callU follows Try.func4 (Try.call4 _) rfl rfl [(34, fun e h => dA (e 2) fun h_2 => dI .i64 (e 6) fun n_6 => dI .i64 (e 7) fun passed_7 => law51_ThresholdCounts_b2 h_2 n_6 passed_7 Q h), (44, fun e h => dA (e 2) fun h_2 => dI .i64 (e 7) fun passed_7 => dI .i64 (e 11) fun want_11 => law51_ThresholdCounts_b3 h_2 passed_7 want_11 Q h), (48, fun e h => dI .i64 (e 7) fun passed_7 => dI .i64 (e 11) fun want_11 => law51_ThresholdCounts_b4 passed_7 want_11 Q h)] [(18, fun e h => dL (e 1) fun who_1a who_1n who_1c => dA (e 2) fun h_2 => dP (e 5) fun t_5 => dI .i64 (e 6) fun n_6 => dI .i64 (e 7) fun passed_7 => dI .i64 (e 8) fun i_8 => LoopV (fun (s : Int × Int × Int) h Kn => law51_ThresholdCounts_l1 who_1a who_1n who_1c h_2 t_5 Q s.1 s.2.1 s.2.2 h Kn) (n_6, passed_7, i_8) h)]
 ⟨fun e h _ hk => by
 have F := Ag.nil (e := e)
 have ⟨h_2, F, hk⟩ := eA F hk
 have ⟨n_6, F, hk⟩ := eI F hk
 have ⟨passed_7, F, hk⟩ := eI F hk
 exact cutU F (by as_aux_lemma => kernel_rfl) hk, fun e h _ hk => by
 have F := Ag.nil (e := e)
 have ⟨h_2, F, hk⟩ := eA F hk
 have ⟨passed_7, F, hk⟩ := eI F hk
 have ⟨want_11, F, hk⟩ := eI F hk
 exact cutU F (by as_aux_lemma => kernel_rfl) hk, fun e h _ hk => by
 have F := Ag.nil (e := e)
 have ⟨passed_7, F, hk⟩ := eI F hk
 have ⟨want_11, F, hk⟩ := eI F hk
 exact cutU F (by as_aux_lemma => kernel_rfl) hk, trivial⟩
 ⟨⟨by kernel_rfl, fun e h he hk => by
 have F := Ag.nil (e := e)
 have ⟨who_1a, who_1n, who_1c, F, hk⟩ := eL F hk
 have ⟨h_2, F, hk⟩ := eA F hk
 have ⟨t_5, F, hk⟩ := eP F hk
 have ⟨n_6, F, hk⟩ := eI F hk
 have ⟨passed_7, F, hk⟩ := eI F hk
 have ⟨i_8, F, hk⟩ := eI F hk
 exact loopU (s0 := (n_6, passed_7, i_8)) follows (fun _ h => by cases h) he F (fun s => [(8, .int .i64 s.2.2), (7, .int .i64 s.2.1), (6, .int .i64 s.1)]) (by kernel_rfl) (F.take 3) hk (fun Kn1 e h => dI .i64 (e 6) fun n_6 => dI .i64 (e 7) fun passed_7 => dI .i64 (e 8) fun i_8 => Kn1 (n_6, passed_7, i_8) h) (fun Kn1 e h hk => by
  have F := Ag.nil (e := e)
  have ⟨n_6, F, hk⟩ := eI F hk
  have ⟨passed_7, F, hk⟩ := eI F hk
  have ⟨i_8, F, hk⟩ := eI F hk
  exact ⟨(n_6, passed_7, i_8), F, hk⟩)
  (fun Kn1 => []) (fun Kn1 => [])
  (fun Kn1 => trivial)
  (fun Kn1 => trivial) (fun e s h Kn1 => by as_aux_lemma => kernel_rfl)⟩, trivial⟩ (by as_aux_lemma => kernel_rfl) hk
/-! ### intrusion/intrusionlaw51.ThresholdPlays -/
def law51_ThresholdPlays_b2 (l_0a : Option Addr) (l_0n l_0c : Nat) (t_3 r_4 : Option Addr) (i_5 : Int) (Q : QT) (Kn1 : Int → Heap → Prop) (h : Heap) : Prop :=
 CallT Try.prog fn_threshold_Table_Len #[.pointer t_3] h fun v h13 => ∃ t87 : Int, v = .int .i64 t87 ∧ CallT Try.prog fn_ref51_Table_Len #[.pointer r_4] h13 fun v h14 => ∃ t89 : Int, v = .int .i64 t89 ∧ if (t87 != t89) = true then (Q (.bool false) h14) else (Kn1 (wrap .i64 (i_5 + 1)) h14)
def law51_ThresholdPlays_b4 (l_0a : Option Addr) (l_0n l_0c : Nat) (t_3 r_4 : Option Addr) (i_5 : Int) (rules_7a : Option Addr) (rules_7n rules_7c : Nat) (Q : QT) (Kn1 : Int → Heap → Prop) (h : Heap) : Prop :=
 CallT Try.prog fn_threshold_Table_Keep #[.pointer t_3, .slice rules_7a rules_7n rules_7c] h fun v h15 => v = .tuple #[] ∧ CallT Try.prog fn_ref51_Table_Keep #[.pointer r_4, .slice rules_7a rules_7n rules_7c] h15 fun v h16 => v = .tuple #[] ∧ law51_ThresholdPlays_b2 l_0a l_0n l_0c t_3 r_4 i_5 Q Kn1 h16
def law51_ThresholdPlays_l3 (l_0a : Option Addr) (l_0n l_0c : Nat) (t_3 r_4 : Option Addr) (i_5 : Int) (x_6 : Addr) (Q : QT) (Kn1 : Int → Heap → Prop) (rules_7a : Option Addr) (rules_7n rules_7c : Nat) (k_8 : Int) (h : Heap) (Kn3 : (Option Addr) × Nat × Nat × Int → Heap → Prop) : Prop :=
 ldL h (Addr.add x_6 16) fun t64a t64n t64c => if (decide (k_8 < ((t64n : Nat) : Int))) = true then (ldL h (Addr.add x_6 16) fun t71a t71n t71c => idxA k_8 t71n (nn t71a fun t73 => ldI h (Addr.add t73 ((k_8).toNat * 1)) .i64 fun t74 => ldI h (Addr.add x_6 3) .i64 fun t76_0 => ldI h (Addr.add (Addr.add x_6 3) 1) .i64 fun t76_1 => ldI h (Addr.add (Addr.add x_6 3) 2) .i64 fun t76_2 => ldI h (Addr.add (Addr.add x_6 3) 3) .i64 fun t76_3 => alV h (.cells #[.int .i64 0, .int .i64 0, .slice none 0 0, .slice none 0 0, .slice none 0 0, .slice none 0 0, .bool false, .int .i64 t74, .int .i64 0, .int .i64 0, .string (⟨#[]⟩ : ByteArray), .int .i64 0, .int .i64 0, .slice none 0 0, .slice none 0 0, .slice none 0 0, .slice none 0 0, .int .i64 t76_0, .int .i64 t76_1, .int .i64 t76_2, .int .i64 t76_3] T_api_Rule) fun t78 h11 => bltV Try.prog .append #[T_sl_api_Rule, T_sl_api_Rule] T_sl_api_Rule #[false, false] #[.slice rules_7a rules_7n rules_7c, .slice (some t78) 1 1] h11 fun v h12 => ∃ t79a : Option Addr, ∃ t79n : Nat, ∃ t79c : Nat, v = .slice t79a t79n t79c ∧ Kn3 (t79a, t79n, t79c, wrap .i64 (k_8 + 1)) h12)) else (law51_ThresholdPlays_b4 l_0a l_0n l_0c t_3 r_4 i_5 rules_7a rules_7n rules_7c Q Kn1 h)
def law51_ThresholdPlays_b5 (Q : QT) (h : Heap) : Prop :=
 CallT Try.prog fn_law51_awake #[] h fun v h17 => ∃ t91 : Bool, v = .bool t91 ∧ Q (.bool t91) h17
def law51_ThresholdPlays_l1 (l_0a : Option Addr) (l_0n l_0c : Nat) (t_3 r_4 : Option Addr) (Q : QT) (i_5 : Int) (h : Heap) (Kn1 : Int → Heap → Prop) : Prop :=
 if (decide (i_5 < ((l_0n : Nat) : Int))) = true then (idxA i_5 l_0n (nn l_0a fun t25 => ldI h (Addr.add t25 ((i_5).toNat * 17)) .i64 fun t26_0 => ldI h (Addr.add (Addr.add t25 ((i_5).toNat * 17)) 1) .i64 fun t26_1 => ldI h (Addr.add (Addr.add t25 ((i_5).toNat * 17)) 2) .i64 fun t26_2 => ldI h (Addr.add (Addr.add t25 ((i_5).toNat * 17)) 3) .i64 fun t26_3 => ldI h (Addr.add (Addr.add t25 ((i_5).toNat * 17)) 4) .i64 fun t26_4 => ldI h (Addr.add (Addr.add t25 ((i_5).toNat * 17)) 5) .i64 fun t26_5 => ldI h (Addr.add (Addr.add t25 ((i_5).toNat * 17)) 6) .i64 fun t26_6 => ldI h (Addr.add (Addr.add t25 ((i_5).toNat * 17)) 7) .i64 fun t26_7 => ldB h (Addr.add (Addr.add t25 ((i_5).toNat * 17)) 8) fun t26_8 => ldI h (Addr.add (Addr.add t25 ((i_5).toNat * 17)) 9) .u64 fun t26_9 => ldI h (Addr.add (Addr.add t25 ((i_5).toNat * 17)) 10) .u64 fun t26_10 => ldB h (Addr.add (Addr.add t25 ((i_5).toNat * 17)) 11) fun t26_11 => ldI h (Addr.add (Addr.add t25 ((i_5).toNat * 17)) 12) .u64 fun t26_12 => ldI h (Addr.add (Addr.add t25 ((i_5).toNat * 17)) 13) .u64 fun t26_13 => ldI h (Addr.add (Addr.add t25 ((i_5).toNat * 17)) 14) .i64 fun t26_14 => ldI h (Addr.add (Addr.add t25 ((i_5).toNat * 17)) 15) .i64 fun t26_15 => ldL h (Addr.add (Addr.add t25 ((i_5).toNat * 17)) 16) fun t26_16a t26_16n t26_16c => alV h (.cells #[.int .i64 0, .int .i64 0, .int .i64 0, .int .i64 0, .int .i64 0, .int .i64 0, .int .i64 0, .int .i64 0, .bool false, .int .u64 0, .int .u64 0, .bool false, .int .u64 0, .int .u64 0, .int .i64 0, .int .i64 0, .slice none 0 0] T_intrusionlaw51_Call) fun t6 h4 => stN h4 t6 [.int .i64 t26_0, .int .i64 t26_1, .int .i64 t26_2, .int .i64 t26_3, .int .i64 t26_4, .int .i64 t26_5, .int .i64 t26_6, .int .i64 t26_7, .bool t26_8, .int .u64 t26_9, .int .u64 t26_10, .bool t26_11, .int .u64 t26_12, .int .u64 t26_13, .int .i64 t26_14, .int .i64 t26_15, .slice t26_16a t26_16n t26_16c] 0 fun h5 => ldI h5 (Addr.add t6 7) .i64 fun t28_0 => ldB h5 (Addr.add (Addr.add t6 7) 1) fun t28_1 => ldI h5 (Addr.add (Addr.add t6 7) 2) .u64 fun t28_2 => ldI h5 (Addr.add (Addr.add t6 7) 3) .u64 fun t28_3 => ldB h5 (Addr.add (Addr.add t6 7) 4) fun t28_4 => ldI h5 (Addr.add (Addr.add t6 7) 5) .u64 fun t28_5 => ldI h5 (Addr.add (Addr.add t6 7) 6) .u64 fun t28_6 => ldI h5 (Addr.add (Addr.add t6 7) 7) .i64 fun t28_7 => ldI h5 (Addr.add (Addr.add t6 7) 8) .i64 fun t28_8 => CallT Try.prog fn_law51_fine #[.agg #[.int .i64 t28_0, .bool t28_1, .int .u64 t28_2, .int .u64 t28_3, .bool t28_4, .int .u64 t28_5, .int .u64 t28_6, .int .i64 t28_7, .int .i64 t28_8]] h5 fun v h6 => ∃ t29 : Bool, v = .bool t29 ∧ if (!t29) = true then (CallT Try.prog fn_law51_awake #[] h6 fun v h7 => ∃ t37 : Bool, v = .bool t37 ∧ Q (.bool t37) h7) else (ldL h6 (Addr.add t6 16) fun t33a t33n t33c => if (decide (((t33n : Nat) : Int) > 10)) = true then (CallT Try.prog fn_law51_awake #[] h6 fun v h8 => ∃ t37 : Bool, v = .bool t37 ∧ Q (.bool t37) h8) else (ldI h6 t6 .i64 fun t39 => if (t39 == 0) = true then (ldI h6 (Addr.add t6 1) .i64 fun t43 => ldI h6 (Addr.add t6 2) .i64 fun t45 => ldI h6 (Addr.add t6 3) .i64 fun t47_0 => ldI h6 (Addr.add (Addr.add t6 3) 1) .i64 fun t47_1 => ldI h6 (Addr.add (Addr.add t6 3) 2) .i64 fun t47_2 => ldI h6 (Addr.add (Addr.add t6 3) 3) .i64 fun t47_3 => ldI h6 (Addr.add t6 7) .i64 fun t49_0 => ldB h6 (Addr.add (Addr.add t6 7) 1) fun t49_1 => ldI h6 (Addr.add (Addr.add t6 7) 2) .u64 fun t49_2 => ldI h6 (Addr.add (Addr.add t6 7) 3) .u64 fun t49_3 => ldB h6 (Addr.add (Addr.add t6 7) 4) fun t49_4 => ldI h6 (Addr.add (Addr.add t6 7) 5) .u64 fun t49_5 => ldI h6 (Addr.add (Addr.add t6 7) 6) .u64 fun t49_6 => ldI h6 (Addr.add (Addr.add t6 7) 7) .i64 fun t49_7 => ldI h6 (Addr.add (Addr.add t6 7) 8) .i64 fun t49_8 => ldI h6 (Addr.add t6 1) .i64 fun t53 => ldI h6 (Addr.add t6 2) .i64 fun t55 => ldI h6 (Addr.add t6 3) .i64 fun t57_0 => ldI h6 (Addr.add (Addr.add t6 3) 1) .i64 fun t57_1 => ldI h6 (Addr.add (Addr.add t6 3) 2) .i64 fun t57_2 => ldI h6 (Addr.add (Addr.add t6 3) 3) .i64 fun t57_3 => ldI h6 (Addr.add t6 7) .i64 fun t59_0 => ldB h6 (Addr.add (Addr.add t6 7) 1) fun t59_1 => ldI h6 (Addr.add (Addr.add t6 7) 2) .u64 fun t59_2 => ldI h6 (Addr.add (Addr.add t6 7) 3) .u64 fun t59_3 => ldB h6 (Addr.add (Addr.add t6 7) 4) fun t59_4 => ldI h6 (Addr.add (Addr.add t6 7) 5) .u64 fun t59_5 => ldI h6 (Addr.add (Addr.add t6 7) 6) .u64 fun t59_6 => ldI h6 (Addr.add (Addr.add t6 7) 7) .i64 fun t59_7 => ldI h6 (Addr.add (Addr.add t6 7) 8) .i64 fun t59_8 => CallT Try.prog fn_threshold_Table_Filter #[.pointer t_3, .int .i64 t43, .int .i64 t45, .agg #[.int .i64 t47_0, .int .i64 t47_1, .int .i64 t47_2, .int .i64 t47_3], .agg #[.int .i64 t49_0, .bool t49_1, .int .u64 t49_2, .int .u64 t49_3, .bool t49_4, .int .u64 t49_5, .int .u64 t49_6, .int .i64 t49_7, .int .i64 t49_8]] h6 fun v h9 => ∃ t50 : Bool, v = .bool t50 ∧ (ldI h9 (Addr.add t6 1) .i64 fun t953 => (.int .i64 t953 : Value) = .int .i64 t53) ∧ (ldI h9 (Addr.add t6 2) .i64 fun t955 => (.int .i64 t955 : Value) = .int .i64 t55) ∧ (ldI h9 (Addr.add t6 3) .i64 fun t957_0 => ldI h9 (Addr.add (Addr.add t6 3) 1) .i64 fun t957_1 => ldI h9 (Addr.add (Addr.add t6 3) 2) .i64 fun t957_2 => ldI h9 (Addr.add (Addr.add t6 3) 3) .i64 fun t957_3 => (.agg #[.int .i64 t957_0, .int .i64 t957_1, .int .i64 t957_2, .int .i64 t957_3] : Value) = .agg #[.int .i64 t57_0, .int .i64 t57_1, .int .i64 t57_2, .int .i64 t57_3]) ∧ (ldI h9 (Addr.add t6 7) .i64 fun t959_0 => ldB h9 (Addr.add (Addr.add t6 7) 1) fun t959_1 => ldI h9 (Addr.add (Addr.add t6 7) 2) .u64 fun t959_2 => ldI h9 (Addr.add (Addr.add t6 7) 3) .u64 fun t959_3 => ldB h9 (Addr.add (Addr.add t6 7) 4) fun t959_4 => ldI h9 (Addr.add (Addr.add t6 7) 5) .u64 fun t959_5 => ldI h9 (Addr.add (Addr.add t6 7) 6) .u64 fun t959_6 => ldI h9 (Addr.add (Addr.add t6 7) 7) .i64 fun t959_7 => ldI h9 (Addr.add (Addr.add t6 7) 8) .i64 fun t959_8 => (.agg #[.int .i64 t959_0, .bool t959_1, .int .u64 t959_2, .int .u64 t959_3, .bool t959_4, .int .u64 t959_5, .int .u64 t959_6, .int .i64 t959_7, .int .i64 t959_8] : Value) = .agg #[.int .i64 t59_0, .bool t59_1, .int .u64 t59_2, .int .u64 t59_3, .bool t59_4, .int .u64 t59_5, .int .u64 t59_6, .int .i64 t59_7, .int .i64 t59_8]) ∧ CallT Try.prog fn_ref51_Table_Filter #[.pointer r_4, .int .i64 t53, .int .i64 t55, .agg #[.int .i64 t57_0, .int .i64 t57_1, .int .i64 t57_2, .int .i64 t57_3], .agg #[.int .i64 t59_0, .bool t59_1, .int .u64 t59_2, .int .u64 t59_3, .bool t59_4, .int .u64 t59_5, .int .u64 t59_6, .int .i64 t59_7, .int .i64 t59_8]] h9 fun v h10 => ∃ t60 : Bool, v = .bool t60 ∧ if (!(t50 == t60)) = true then (Q (.bool false) h10) else (law51_ThresholdPlays_b2 l_0a l_0n l_0c t_3 r_4 i_5 Q Kn1 h10)) else (LoopV (fun (s : (Option Addr) × Nat × Nat × Int) h Kn => law51_ThresholdPlays_l3 l_0a l_0n l_0c t_3 r_4 i_5 t6 Q Kn1 s.1 s.2.1 s.2.2.1 s.2.2.2 h Kn) (none, 0, 0, 0) h6))))) else (law51_ThresholdPlays_b5 Q h)
def law51_ThresholdPlays_v (l_0a : Option Addr) (l_0n l_0c : Nat) (Q : QT) (h : Heap) : Prop :=
 if (decide (((l_0n : Nat) : Int) > 60)) = true then (CallT Try.prog fn_law51_awake #[] h fun v h1 => ∃ t12 : Bool, v = .bool t12 ∧ Q (.bool t12) h1) else (CallT Try.prog fn_threshold_New #[] h fun v h2 => ∃ t13 : Option Addr, v = .pointer t13 ∧ if (Option.isNone t13) = true then (Q (.bool false) h2) else (CallT Try.prog fn_ref51_New #[] h2 fun v h3 => ∃ t16 : Option Addr, v = .pointer t16 ∧ LoopV (fun (s : Int) h Kn => law51_ThresholdPlays_l1 l_0a l_0n l_0c t13 t16 Q s h Kn) 0 h3))
set_option maxRecDepth 100000 in
theorem law51_ThresholdPlays_s (l_0a : Option Addr) (l_0n l_0c : Nat) {Q : QT} {h : Heap} (hk : law51_ThresholdPlays_v l_0a l_0n l_0c Q h) : CallT Try.prog fn_law51_ThresholdPlays #[.slice l_0a l_0n l_0c] h Q :=
 callU follows Try.func5 (Try.call5 _) rfl rfl [(52, fun e h => law51_ThresholdPlays_b5 Q h)] [(18, fun e h => dL (e 0) fun l_0a l_0n l_0c => dP (e 3) fun t_3 => dP (e 4) fun r_4 => dI .i64 (e 5) fun i_5 => LoopV (fun (s : Int) h Kn => law51_ThresholdPlays_l1 l_0a l_0n l_0c t_3 r_4 Q s h Kn) i_5 h)]
 ⟨fun e h _ hk => by
 have F := Ag.nil (e := e)
 exact cutU F (by as_aux_lemma => kernel_rfl) hk, trivial⟩
 ⟨⟨by kernel_rfl, fun e h he hk => by
 have F := Ag.nil (e := e)
 have ⟨l_0a, l_0n, l_0c, F, hk⟩ := eL F hk
 have ⟨t_3, F, hk⟩ := eP F hk
 have ⟨r_4, F, hk⟩ := eP F hk
 have ⟨i_5, F, hk⟩ := eI F hk
 exact loopU (s0 := i_5) follows (fun _ h => by cases h) he F (fun s => [(5, .int .i64 s)]) (by kernel_rfl) (F.take 1) hk (fun Kn1 e h => dI .i64 (e 5) fun i_5 => Kn1 i_5 h) (fun Kn1 e h hk => by
  have F := Ag.nil (e := e)
  have ⟨i_5, F, hk⟩ := eI F hk
  exact ⟨i_5, F, hk⟩)
  (fun Kn1 => [(48, fun e h => dL (e 0) fun l_0a l_0n l_0c => dP (e 3) fun t_3 => dP (e 4) fun r_4 => dI .i64 (e 5) fun i_5 => law51_ThresholdPlays_b2 l_0a l_0n l_0c t_3 r_4 i_5 Q Kn1 h), (44, fun e h => dL (e 0) fun l_0a l_0n l_0c => dP (e 3) fun t_3 => dP (e 4) fun r_4 => dI .i64 (e 5) fun i_5 => dL (e 7) fun rules_7a rules_7n rules_7c => law51_ThresholdPlays_b4 l_0a l_0n l_0c t_3 r_4 i_5 rules_7a rules_7n rules_7c Q Kn1 h)]) (fun Kn1 => [(38, fun e h => dL (e 0) fun l_0a l_0n l_0c => dP (e 3) fun t_3 => dP (e 4) fun r_4 => dI .i64 (e 5) fun i_5 => dA (e 6) fun x_6 => dL (e 7) fun rules_7a rules_7n rules_7c => dI .i64 (e 8) fun k_8 => LoopV (fun (s : (Option Addr) × Nat × Nat × Int) h Kn => law51_ThresholdPlays_l3 l_0a l_0n l_0c t_3 r_4 i_5 x_6 Q Kn1 s.1 s.2.1 s.2.2.1 s.2.2.2 h Kn) (rules_7a, rules_7n, rules_7c, k_8) h)])
  (fun Kn1 => ⟨fun e h _ hk => by
 have F := Ag.nil (e := e)
 have ⟨l_0a, l_0n, l_0c, F, hk⟩ := eL F hk
 have ⟨t_3, F, hk⟩ := eP F hk
 have ⟨r_4, F, hk⟩ := eP F hk
 have ⟨i_5, F, hk⟩ := eI F hk
 exact cutU F (by as_aux_lemma => kernel_rfl) hk, fun e h _ hk => by
 have F := Ag.nil (e := e)
 have ⟨l_0a, l_0n, l_0c, F, hk⟩ := eL F hk
 have ⟨t_3, F, hk⟩ := eP F hk
 have ⟨r_4, F, hk⟩ := eP F hk
 have ⟨i_5, F, hk⟩ := eI F hk
 have ⟨rules_7a, rules_7n, rules_7c, F, hk⟩ := eL F hk
 exact cutU F (by as_aux_lemma => kernel_rfl) hk, trivial⟩)
  (fun Kn1 => ⟨⟨by kernel_rfl, fun e h he hk => by
 have F := Ag.nil (e := e)
 have ⟨l_0a, l_0n, l_0c, F, hk⟩ := eL F hk
 have ⟨t_3, F, hk⟩ := eP F hk
 have ⟨r_4, F, hk⟩ := eP F hk
 have ⟨i_5, F, hk⟩ := eI F hk
 have ⟨x_6, F, hk⟩ := eA F hk
 have ⟨rules_7a, rules_7n, rules_7c, F, hk⟩ := eL F hk
 have ⟨k_8, F, hk⟩ := eI F hk
 exact loopU (s0 := (rules_7a, rules_7n, rules_7c, k_8)) follows (keep_sub (by kernel_rfl)) he F (fun s => [(8, .int .i64 s.2.2.2), (7, .slice s.1 s.2.1 s.2.2.1)]) (by kernel_rfl) (F.take 2) hk (fun Kn3 e h => dL (e 7) fun rules_7a rules_7n rules_7c => dI .i64 (e 8) fun k_8 => Kn3 (rules_7a, rules_7n, rules_7c, k_8) h) (fun Kn3 e h hk => by
  have F := Ag.nil (e := e)
  have ⟨rules_7a, rules_7n, rules_7c, F, hk⟩ := eL F hk
  have ⟨k_8, F, hk⟩ := eI F hk
  exact ⟨(rules_7a, rules_7n, rules_7c, k_8), F, hk⟩)
  (fun Kn3 => []) (fun Kn3 => [])
  (fun Kn3 => trivial)
  (fun Kn3 => trivial) (fun e s h Kn3 => by as_aux_lemma => kernel_rfl)⟩, trivial⟩) (fun e s h Kn1 => by as_aux_lemma => kernel_rfl)⟩, trivial⟩ (by as_aux_lemma => kernel_rfl) hk
/-! ### intrusion/intrusionlaw51.ThresholdSuppresses -/
def law51_ThresholdSuppresses_v (l_0a : Option Addr) (l_0n l_0c : Nat) (sid_1 f_2_0 : Int) (f_2_1 : Bool) (f_2_2 f_2_3 : Int) (f_2_4 : Bool) (f_2_5 f_2_6 f_2_7 f_2_8 : Int) (Q : QT) (h : Heap) : Prop :=
 alV h (.cells #[.int .i64 f_2_0, .bool f_2_1, .int .u64 f_2_2, .int .u64 f_2_3, .bool f_2_4, .int .u64 f_2_5, .int .u64 f_2_6, .int .i64 f_2_7, .int .i64 f_2_8] T_api_Flow) fun t5 h1 => if (decide (((l_0n : Nat) : Int) > 40)) = true then (CallT Try.prog fn_law51_awake #[] h1 fun v h2 => ∃ t15 : Bool, v = .bool t15 ∧ Q (.bool t15) h2) else (ldI h1 t5 .i64 fun t11_0 => ldB h1 (Addr.add t5 1) fun t11_1 => ldI h1 (Addr.add t5 2) .u64 fun t11_2 => ldI h1 (Addr.add t5 3) .u64 fun t11_3 => ldB h1 (Addr.add t5 4) fun t11_4 => ldI h1 (Addr.add t5 5) .u64 fun t11_5 => ldI h1 (Addr.add t5 6) .u64 fun t11_6 => ldI h1 (Addr.add t5 7) .i64 fun t11_7 => ldI h1 (Addr.add t5 8) .i64 fun t11_8 => CallT Try.prog fn_law51_fine #[.agg #[.int .i64 t11_0, .bool t11_1, .int .u64 t11_2, .int .u64 t11_3, .bool t11_4, .int .u64 t11_5, .int .u64 t11_6, .int .i64 t11_7, .int .i64 t11_8]] h1 fun v h3 => ∃ t12 : Bool, v = .bool t12 ∧ if (!t12) = true then (CallT Try.prog fn_law51_awake #[] h3 fun v h4 => ∃ t15 : Bool, v = .bool t15 ∧ Q (.bool t15) h4) else (ldI h3 t5 .i64 fun t18_0 => ldB h3 (Addr.add t5 1) fun t18_1 => ldI h3 (Addr.add t5 2) .u64 fun t18_2 => ldI h3 (Addr.add t5 3) .u64 fun t18_3 => ldB h3 (Addr.add t5 4) fun t18_4 => ldI h3 (Addr.add t5 5) .u64 fun t18_5 => ldI h3 (Addr.add t5 6) .u64 fun t18_6 => ldI h3 (Addr.add t5 7) .i64 fun t18_7 => ldI h3 (Addr.add t5 8) .i64 fun t18_8 => ldI h3 t5 .i64 fun t22_0 => ldB h3 (Addr.add t5 1) fun t22_1 => ldI h3 (Addr.add t5 2) .u64 fun t22_2 => ldI h3 (Addr.add t5 3) .u64 fun t22_3 => ldB h3 (Addr.add t5 4) fun t22_4 => ldI h3 (Addr.add t5 5) .u64 fun t22_5 => ldI h3 (Addr.add t5 6) .u64 fun t22_6 => ldI h3 (Addr.add t5 7) .i64 fun t22_7 => ldI h3 (Addr.add t5 8) .i64 fun t22_8 => CallT Try.prog fn_threshold_Suppressed #[.slice l_0a l_0n l_0c, .int .i64 sid_1, .agg #[.int .i64 t18_0, .bool t18_1, .int .u64 t18_2, .int .u64 t18_3, .bool t18_4, .int .u64 t18_5, .int .u64 t18_6, .int .i64 t18_7, .int .i64 t18_8]] h3 fun v h5 => ∃ t19 : Bool, v = .bool t19 ∧ (ldI h5 t5 .i64 fun t922_0 => ldB h5 (Addr.add t5 1) fun t922_1 => ldI h5 (Addr.add t5 2) .u64 fun t922_2 => ldI h5 (Addr.add t5 3) .u64 fun t922_3 => ldB h5 (Addr.add t5 4) fun t922_4 => ldI h5 (Addr.add t5 5) .u64 fun t922_5 => ldI h5 (Addr.add t5 6) .u64 fun t922_6 => ldI h5 (Addr.add t5 7) .i64 fun t922_7 => ldI h5 (Addr.add t5 8) .i64 fun t922_8 => (.agg #[.int .i64 t922_0, .bool t922_1, .int .u64 t922_2, .int .u64 t922_3, .bool t922_4, .int .u64 t922_5, .int .u64 t922_6, .int .i64 t922_7, .int .i64 t922_8] : Value) = .agg #[.int .i64 t22_0, .bool t22_1, .int .u64 t22_2, .int .u64 t22_3, .bool t22_4, .int .u64 t22_5, .int .u64 t22_6, .int .i64 t22_7, .int .i64 t22_8]) ∧ CallT Try.prog fn_ref51_Suppressed #[.slice l_0a l_0n l_0c, .int .i64 sid_1, .agg #[.int .i64 t22_0, .bool t22_1, .int .u64 t22_2, .int .u64 t22_3, .bool t22_4, .int .u64 t22_5, .int .u64 t22_6, .int .i64 t22_7, .int .i64 t22_8]] h5 fun v h6 => ∃ t23 : Bool, v = .bool t23 ∧ if (t19 == t23) = true then (CallT Try.prog fn_law51_awake #[] h6 fun v h7 => ∃ t26 : Bool, v = .bool t26 ∧ Q (.bool t26) h7) else (Q (.bool false) h6)))
set_option maxRecDepth 100000 in
theorem law51_ThresholdSuppresses_s (l_0a : Option Addr) (l_0n l_0c : Nat) (sid_1 f_2_0 : Int) (f_2_1 : Bool) (f_2_2 f_2_3 : Int) (f_2_4 : Bool) (f_2_5 f_2_6 f_2_7 f_2_8 : Int) {Q : QT} {h : Heap} (hk : law51_ThresholdSuppresses_v l_0a l_0n l_0c sid_1 f_2_0 f_2_1 f_2_2 f_2_3 f_2_4 f_2_5 f_2_6 f_2_7 f_2_8 Q h) : CallT Try.prog fn_law51_ThresholdSuppresses #[.slice l_0a l_0n l_0c, .int .i64 sid_1, .agg #[.int .i64 f_2_0, .bool f_2_1, .int .u64 f_2_2, .int .u64 f_2_3, .bool f_2_4, .int .u64 f_2_5, .int .u64 f_2_6, .int .i64 f_2_7, .int .i64 f_2_8]] h Q :=
 callU follows Try.func6 (Try.call6 _) rfl rfl [] []
 trivial
 trivial (by as_aux_lemma => kernel_rfl) hk
/-! ### intrusion/intrusionlaw51.awake -/
def law51_awake_v (Q : QT) (h : Heap) : Prop :=
 CallT Try.prog fn_threshold_New #[] h fun v h1 => ∃ t7 : Option Addr, v = .pointer t7 ∧ alV h1 (.cells #[.int .i64 0, .int .i64 0, .int .i64 0, .int .i64 0] T_api_Threshold) fun t2 h2 => stN h2 t2 [.int .i64 1, .int .i64 1, .int .i64 2, .int .i64 60] 0 fun h3 => if (Option.isNone t7) = true then (Q (.bool false) h3) else (ldI h3 t2 .i64 fun t12_0 => ldI h3 (Addr.add t2 1) .i64 fun t12_1 => ldI h3 (Addr.add t2 2) .i64 fun t12_2 => ldI h3 (Addr.add t2 3) .i64 fun t12_3 => ldI h3 t2 .i64 fun t16_0 => ldI h3 (Addr.add t2 1) .i64 fun t16_1 => ldI h3 (Addr.add t2 2) .i64 fun t16_2 => ldI h3 (Addr.add t2 3) .i64 fun t16_3 => ldI h3 t2 .i64 fun t20_0 => ldI h3 (Addr.add t2 1) .i64 fun t20_1 => ldI h3 (Addr.add t2 2) .i64 fun t20_2 => ldI h3 (Addr.add t2 3) .i64 fun t20_3 => ldI h3 t2 .i64 fun t24_0 => ldI h3 (Addr.add t2 1) .i64 fun t24_1 => ldI h3 (Addr.add t2 2) .i64 fun t24_2 => ldI h3 (Addr.add t2 3) .i64 fun t24_3 => CallT Try.prog fn_law51_flow #[.int .i64 1, .int .i64 2] h3 fun v h4 => ∃ t13_0 : Int, ∃ t13_1 : Bool, ∃ t13_2 : Int, ∃ t13_3 : Int, ∃ t13_4 : Bool, ∃ t13_5 : Int, ∃ t13_6 : Int, ∃ t13_7 : Int, ∃ t13_8 : Int, v = .agg #[.int .i64 t13_0, .bool t13_1, .int .u64 t13_2, .int .u64 t13_3, .bool t13_4, .int .u64 t13_5, .int .u64 t13_6, .int .i64 t13_7, .int .i64 t13_8] ∧ (ldI h4 t2 .i64 fun t912_0 => ldI h4 (Addr.add t2 1) .i64 fun t912_1 => ldI h4 (Addr.add t2 2) .i64 fun t912_2 => ldI h4 (Addr.add t2 3) .i64 fun t912_3 => (.agg #[.int .i64 t912_0, .int .i64 t912_1, .int .i64 t912_2, .int .i64 t912_3] : Value) = .agg #[.int .i64 t12_0, .int .i64 t12_1, .int .i64 t12_2, .int .i64 t12_3]) ∧ (ldI h4 t2 .i64 fun t916_0 => ldI h4 (Addr.add t2 1) .i64 fun t916_1 => ldI h4 (Addr.add t2 2) .i64 fun t916_2 => ldI h4 (Addr.add t2 3) .i64 fun t916_3 => (.agg #[.int .i64 t916_0, .int .i64 t916_1, .int .i64 t916_2, .int .i64 t916_3] : Value) = .agg #[.int .i64 t16_0, .int .i64 t16_1, .int .i64 t16_2, .int .i64 t16_3]) ∧ (ldI h4 t2 .i64 fun t920_0 => ldI h4 (Addr.add t2 1) .i64 fun t920_1 => ldI h4 (Addr.add t2 2) .i64 fun t920_2 => ldI h4 (Addr.add t2 3) .i64 fun t920_3 => (.agg #[.int .i64 t920_0, .int .i64 t920_1, .int .i64 t920_2, .int .i64 t920_3] : Value) = .agg #[.int .i64 t20_0, .int .i64 t20_1, .int .i64 t20_2, .int .i64 t20_3]) ∧ (ldI h4 t2 .i64 fun t924_0 => ldI h4 (Addr.add t2 1) .i64 fun t924_1 => ldI h4 (Addr.add t2 2) .i64 fun t924_2 => ldI h4 (Addr.add t2 3) .i64 fun t924_3 => (.agg #[.int .i64 t924_0, .int .i64 t924_1, .int .i64 t924_2, .int .i64 t924_3] : Value) = .agg #[.int .i64 t24_0, .int .i64 t24_1, .int .i64 t24_2, .int .i64 t24_3]) ∧ CallT Try.prog fn_threshold_Table_Filter #[.pointer t7, .int .i64 0, .int .i64 1, .agg #[.int .i64 t12_0, .int .i64 t12_1, .int .i64 t12_2, .int .i64 t12_3], .agg #[.int .i64 t13_0, .bool t13_1, .int .u64 t13_2, .int .u64 t13_3, .bool t13_4, .int .u64 t13_5, .int .u64 t13_6, .int .i64 t13_7, .int .i64 t13_8]] h4 fun v h5 => ∃ t14 : Bool, v = .bool t14 ∧ (ldI h5 t2 .i64 fun t916_0 => ldI h5 (Addr.add t2 1) .i64 fun t916_1 => ldI h5 (Addr.add t2 2) .i64 fun t916_2 => ldI h5 (Addr.add t2 3) .i64 fun t916_3 => (.agg #[.int .i64 t916_0, .int .i64 t916_1, .int .i64 t916_2, .int .i64 t916_3] : Value) = .agg #[.int .i64 t16_0, .int .i64 t16_1, .int .i64 t16_2, .int .i64 t16_3]) ∧ (ldI h5 t2 .i64 fun t920_0 => ldI h5 (Addr.add t2 1) .i64 fun t920_1 => ldI h5 (Addr.add t2 2) .i64 fun t920_2 => ldI h5 (Addr.add t2 3) .i64 fun t920_3 => (.agg #[.int .i64 t920_0, .int .i64 t920_1, .int .i64 t920_2, .int .i64 t920_3] : Value) = .agg #[.int .i64 t20_0, .int .i64 t20_1, .int .i64 t20_2, .int .i64 t20_3]) ∧ (ldI h5 t2 .i64 fun t924_0 => ldI h5 (Addr.add t2 1) .i64 fun t924_1 => ldI h5 (Addr.add t2 2) .i64 fun t924_2 => ldI h5 (Addr.add t2 3) .i64 fun t924_3 => (.agg #[.int .i64 t924_0, .int .i64 t924_1, .int .i64 t924_2, .int .i64 t924_3] : Value) = .agg #[.int .i64 t24_0, .int .i64 t24_1, .int .i64 t24_2, .int .i64 t24_3]) ∧ CallT Try.prog fn_law51_flow #[.int .i64 1, .int .i64 2] h5 fun v h6 => ∃ t17_0 : Int, ∃ t17_1 : Bool, ∃ t17_2 : Int, ∃ t17_3 : Int, ∃ t17_4 : Bool, ∃ t17_5 : Int, ∃ t17_6 : Int, ∃ t17_7 : Int, ∃ t17_8 : Int, v = .agg #[.int .i64 t17_0, .bool t17_1, .int .u64 t17_2, .int .u64 t17_3, .bool t17_4, .int .u64 t17_5, .int .u64 t17_6, .int .i64 t17_7, .int .i64 t17_8] ∧ (ldI h6 t2 .i64 fun t916_0 => ldI h6 (Addr.add t2 1) .i64 fun t916_1 => ldI h6 (Addr.add t2 2) .i64 fun t916_2 => ldI h6 (Addr.add t2 3) .i64 fun t916_3 => (.agg #[.int .i64 t916_0, .int .i64 t916_1, .int .i64 t916_2, .int .i64 t916_3] : Value) = .agg #[.int .i64 t16_0, .int .i64 t16_1, .int .i64 t16_2, .int .i64 t16_3]) ∧ (ldI h6 t2 .i64 fun t920_0 => ldI h6 (Addr.add t2 1) .i64 fun t920_1 => ldI h6 (Addr.add t2 2) .i64 fun t920_2 => ldI h6 (Addr.add t2 3) .i64 fun t920_3 => (.agg #[.int .i64 t920_0, .int .i64 t920_1, .int .i64 t920_2, .int .i64 t920_3] : Value) = .agg #[.int .i64 t20_0, .int .i64 t20_1, .int .i64 t20_2, .int .i64 t20_3]) ∧ (ldI h6 t2 .i64 fun t924_0 => ldI h6 (Addr.add t2 1) .i64 fun t924_1 => ldI h6 (Addr.add t2 2) .i64 fun t924_2 => ldI h6 (Addr.add t2 3) .i64 fun t924_3 => (.agg #[.int .i64 t924_0, .int .i64 t924_1, .int .i64 t924_2, .int .i64 t924_3] : Value) = .agg #[.int .i64 t24_0, .int .i64 t24_1, .int .i64 t24_2, .int .i64 t24_3]) ∧ CallT Try.prog fn_threshold_Table_Filter #[.pointer t7, .int .i64 1000, .int .i64 1, .agg #[.int .i64 t16_0, .int .i64 t16_1, .int .i64 t16_2, .int .i64 t16_3], .agg #[.int .i64 t17_0, .bool t17_1, .int .u64 t17_2, .int .u64 t17_3, .bool t17_4, .int .u64 t17_5, .int .u64 t17_6, .int .i64 t17_7, .int .i64 t17_8]] h6 fun v h7 => ∃ t18 : Bool, v = .bool t18 ∧ (ldI h7 t2 .i64 fun t920_0 => ldI h7 (Addr.add t2 1) .i64 fun t920_1 => ldI h7 (Addr.add t2 2) .i64 fun t920_2 => ldI h7 (Addr.add t2 3) .i64 fun t920_3 => (.agg #[.int .i64 t920_0, .int .i64 t920_1, .int .i64 t920_2, .int .i64 t920_3] : Value) = .agg #[.int .i64 t20_0, .int .i64 t20_1, .int .i64 t20_2, .int .i64 t20_3]) ∧ (ldI h7 t2 .i64 fun t924_0 => ldI h7 (Addr.add t2 1) .i64 fun t924_1 => ldI h7 (Addr.add t2 2) .i64 fun t924_2 => ldI h7 (Addr.add t2 3) .i64 fun t924_3 => (.agg #[.int .i64 t924_0, .int .i64 t924_1, .int .i64 t924_2, .int .i64 t924_3] : Value) = .agg #[.int .i64 t24_0, .int .i64 t24_1, .int .i64 t24_2, .int .i64 t24_3]) ∧ CallT Try.prog fn_law51_flow #[.int .i64 1, .int .i64 2] h7 fun v h8 => ∃ t21_0 : Int, ∃ t21_1 : Bool, ∃ t21_2 : Int, ∃ t21_3 : Int, ∃ t21_4 : Bool, ∃ t21_5 : Int, ∃ t21_6 : Int, ∃ t21_7 : Int, ∃ t21_8 : Int, v = .agg #[.int .i64 t21_0, .bool t21_1, .int .u64 t21_2, .int .u64 t21_3, .bool t21_4, .int .u64 t21_5, .int .u64 t21_6, .int .i64 t21_7, .int .i64 t21_8] ∧ (ldI h8 t2 .i64 fun t920_0 => ldI h8 (Addr.add t2 1) .i64 fun t920_1 => ldI h8 (Addr.add t2 2) .i64 fun t920_2 => ldI h8 (Addr.add t2 3) .i64 fun t920_3 => (.agg #[.int .i64 t920_0, .int .i64 t920_1, .int .i64 t920_2, .int .i64 t920_3] : Value) = .agg #[.int .i64 t20_0, .int .i64 t20_1, .int .i64 t20_2, .int .i64 t20_3]) ∧ (ldI h8 t2 .i64 fun t924_0 => ldI h8 (Addr.add t2 1) .i64 fun t924_1 => ldI h8 (Addr.add t2 2) .i64 fun t924_2 => ldI h8 (Addr.add t2 3) .i64 fun t924_3 => (.agg #[.int .i64 t924_0, .int .i64 t924_1, .int .i64 t924_2, .int .i64 t924_3] : Value) = .agg #[.int .i64 t24_0, .int .i64 t24_1, .int .i64 t24_2, .int .i64 t24_3]) ∧ CallT Try.prog fn_threshold_Table_Filter #[.pointer t7, .int .i64 59999, .int .i64 1, .agg #[.int .i64 t20_0, .int .i64 t20_1, .int .i64 t20_2, .int .i64 t20_3], .agg #[.int .i64 t21_0, .bool t21_1, .int .u64 t21_2, .int .u64 t21_3, .bool t21_4, .int .u64 t21_5, .int .u64 t21_6, .int .i64 t21_7, .int .i64 t21_8]] h8 fun v h9 => ∃ t22 : Bool, v = .bool t22 ∧ (ldI h9 t2 .i64 fun t924_0 => ldI h9 (Addr.add t2 1) .i64 fun t924_1 => ldI h9 (Addr.add t2 2) .i64 fun t924_2 => ldI h9 (Addr.add t2 3) .i64 fun t924_3 => (.agg #[.int .i64 t924_0, .int .i64 t924_1, .int .i64 t924_2, .int .i64 t924_3] : Value) = .agg #[.int .i64 t24_0, .int .i64 t24_1, .int .i64 t24_2, .int .i64 t24_3]) ∧ CallT Try.prog fn_law51_flow #[.int .i64 1, .int .i64 2] h9 fun v h10 => ∃ t25_0 : Int, ∃ t25_1 : Bool, ∃ t25_2 : Int, ∃ t25_3 : Int, ∃ t25_4 : Bool, ∃ t25_5 : Int, ∃ t25_6 : Int, ∃ t25_7 : Int, ∃ t25_8 : Int, v = .agg #[.int .i64 t25_0, .bool t25_1, .int .u64 t25_2, .int .u64 t25_3, .bool t25_4, .int .u64 t25_5, .int .u64 t25_6, .int .i64 t25_7, .int .i64 t25_8] ∧ (ldI h10 t2 .i64 fun t924_0 => ldI h10 (Addr.add t2 1) .i64 fun t924_1 => ldI h10 (Addr.add t2 2) .i64 fun t924_2 => ldI h10 (Addr.add t2 3) .i64 fun t924_3 => (.agg #[.int .i64 t924_0, .int .i64 t924_1, .int .i64 t924_2, .int .i64 t924_3] : Value) = .agg #[.int .i64 t24_0, .int .i64 t24_1, .int .i64 t24_2, .int .i64 t24_3]) ∧ CallT Try.prog fn_threshold_Table_Filter #[.pointer t7, .int .i64 60000, .int .i64 1, .agg #[.int .i64 t24_0, .int .i64 t24_1, .int .i64 t24_2, .int .i64 t24_3], .agg #[.int .i64 t25_0, .bool t25_1, .int .u64 t25_2, .int .u64 t25_3, .bool t25_4, .int .u64 t25_5, .int .u64 t25_6, .int .i64 t25_7, .int .i64 t25_8]] h10 fun v h11 => ∃ t26 : Bool, v = .bool t26 ∧ if t14 = true then (if t18 = true then (if (!t22) = true then (if t26 = true then (CallT Try.prog fn_threshold_Table_Len #[.pointer t7] h11 fun v h12 => ∃ t40 : Int, v = .int .i64 t40 ∧ Q (.bool (t40 == 1)) h12) else (Q (.bool false) h11)) else (Q (.bool false) h11)) else (Q (.bool false) h11)) else (Q (.bool false) h11))
set_option maxRecDepth 100000 in
theorem law51_awake_s {Q : QT} {h : Heap} (hk : law51_awake_v Q h) : CallT Try.prog fn_law51_awake #[] h Q :=
 callU follows Try.func7 (Try.call7 _) rfl rfl [] []
 trivial
 trivial (by as_aux_lemma => kernel_rfl) hk
/-! ### intrusion/threshold.New -/
def threshold_New_v (Q : QT) (h : Heap) : Prop :=
 mkMapV h fun t1 h1 => alV h1 (.cells #[.int .i64 0, .map (some t1)] T_threshold_Table) fun t3 h2 => Q (.pointer (some t3)) h2
set_option maxRecDepth 100000 in
theorem threshold_New_s {Q : QT} {h : Heap} (hk : threshold_New_v Q h) : CallT Try.prog fn_threshold_New #[] h Q :=
 callU follows Try.func8 (Try.call8 _) rfl rfl [] []
 trivial
 trivial (by as_aux_lemma => kernel_rfl) hk
/-! ### intrusion/intrusionref51.New -/
def ref51_New_v (Q : QT) (h : Heap) : Prop :=
 alV h (.cells #[.int .i64 0, .slice none 0 0] T_intrusionref51_Table) fun t2 h1 => Q (.pointer (some t2)) h1
set_option maxRecDepth 100000 in
theorem ref51_New_s {Q : QT} {h : Heap} (hk : ref51_New_v Q h) : CallT Try.prog fn_ref51_New #[] h Q :=
 callU follows Try.func9 (Try.call9 _) rfl rfl [] []
 trivial
 trivial (by as_aux_lemma => kernel_rfl) hk
/-! ### (*intrusion/threshold.Table).Filter -/
def threshold_Table_Filter_b2 (h_8 : Addr) (n_13 : Int) (Q : QT) (h : Heap) : Prop :=
 ldI h h_8 .i64 fun t92 => if (t92 == 1) = true then (ldI h (Addr.add h_8 2) .i64 fun t97 => Q (.bool (decide (n_13 ≤ t97))) h) else (if (t92 == 2) = true then (ldI h (Addr.add h_8 2) .i64 fun t103 => t103 ≠ 0 ∧ Q (.bool ((Int.tmod n_13 t103) == 0)) h) else (ldI h (Addr.add h_8 2) .i64 fun t108 => Q (.bool (n_13 == t108)) h))
def threshold_Table_Filter_b1 (t_0 : Option Addr) (h_8 : Addr) (c_12 : Option Addr) (Q : QT) (h : Heap) : Prop :=
 nn c_12 fun t69 => ldI h (Addr.add t69 1) .i64 fun t71 => nn c_12 fun t73 => st1 h (Addr.add t73 1) (.int .i64 (wrap .i64 (t71 + 1))) fun h11 => nn c_12 fun t76 => ldI h11 (Addr.add t76 1) .i64 fun t78 => nn t_0 fun t80 => ldM h11 (Addr.add t80 1) fun t82 => bltV Try.prog .len #[T_map_threshold_key_p_threshold_counter] T_int #[false] #[.map t82] h11 fun v h12 => ∃ t83 : Int, v = .int .i64 t83 ∧ if (decide (t83 > 256)) = true then (nn t_0 fun t86 => ldM h12 (Addr.add t86 1) fun t88 => CallT Try.prog fn_threshold_Table_first #[.pointer t_0] h12 fun v h13 => ∃ t90_0 : Int, ∃ t90_1 : Int, ∃ t90_2 : Int, ∃ t90_3 : Int, ∃ t90_4 : Int, ∃ t90_5 : Bool, ∃ t90_6 : Int, ∃ t90_7 : Int, ∃ t90_8 : Bool, ∃ t90_9 : Int, ∃ t90_10 : Int, v = .agg #[.int .i64 t90_0, .int .i64 t90_1, .int .i64 t90_2, .int .i64 t90_3, .int .i64 t90_4, .bool t90_5, .int .u64 t90_6, .int .u64 t90_7, .bool t90_8, .int .u64 t90_9, .int .u64 t90_10] ∧ (ldM h13 (Addr.add t86 1) fun t988 => (.map t988 : Value) = .map t88) ∧ bltV Try.prog .delete #[T_map_threshold_key_p_threshold_counter, T_threshold_key] T_t #[false, false] #[.map t88, .agg #[.int .i64 t90_0, .int .i64 t90_1, .int .i64 t90_2, .int .i64 t90_3, .int .i64 t90_4, .bool t90_5, .int .u64 t90_6, .int .u64 t90_7, .bool t90_8, .int .u64 t90_9, .int .u64 t90_10]] h13 fun v h14 => v = .tuple #[] ∧ threshold_Table_Filter_b2 h_8 t78 Q h14) else (threshold_Table_Filter_b2 h_8 t78 Q h12)
def threshold_Table_Filter_b3 (t_0 : Option Addr) (h_8 k_11 : Addr) (Q : QT) (h : Heap) : Prop :=
 nn t_0 fun t57 => ldI h t57 .i64 fun t59 => alV h (.cells #[.int .i64 t59, .int .i64 0] T_threshold_counter) fun t61 h9 => nn t_0 fun t63 => ldM h9 (Addr.add t63 1) fun t65 => ldI h9 k_11 .i64 fun t66_0 => ldI h9 (Addr.add k_11 1) .i64 fun t66_1 => ldI h9 (Addr.add k_11 2) .i64 fun t66_2 => ldI h9 (Addr.add k_11 3) .i64 fun t66_3 => ldI h9 (Addr.add k_11 4) .i64 fun t66_4 => ldB h9 (Addr.add k_11 5) fun t66_5 => ldI h9 (Addr.add k_11 6) .u64 fun t66_6 => ldI h9 (Addr.add k_11 7) .u64 fun t66_7 => ldB h9 (Addr.add k_11 8) fun t66_8 => ldI h9 (Addr.add k_11 9) .u64 fun t66_9 => ldI h9 (Addr.add k_11 10) .u64 fun t66_10 => mapUpdV Try.prog T_map_threshold_key_p_threshold_counter (.map t65) (.agg #[.int .i64 t66_0, .int .i64 t66_1, .int .i64 t66_2, .int .i64 t66_3, .int .i64 t66_4, .bool t66_5, .int .u64 t66_6, .int .u64 t66_7, .bool t66_8, .int .u64 t66_9, .int .u64 t66_10]) (.pointer (some t61)) h9 fun h10 => threshold_Table_Filter_b1 t_0 h_8 (some t61) Q h10
def threshold_Table_Filter_v (t_0 : Option Addr) (at_1 sid_2 h_3_0 h_3_1 h_3_2 h_3_3 f_4_0 : Int) (f_4_1 : Bool) (f_4_2 f_4_3 : Int) (f_4_4 : Bool) (f_4_5 f_4_6 f_4_7 f_4_8 : Int) (Q : QT) (h : Heap) : Prop :=
 alV h (.cells #[.int .i64 h_3_0, .int .i64 h_3_1, .int .i64 h_3_2, .int .i64 h_3_3] T_api_Threshold) fun t8 h1 => alV h1 (.cells #[.int .i64 f_4_0, .bool f_4_1, .int .u64 f_4_2, .int .u64 f_4_3, .bool f_4_4, .int .u64 f_4_5, .int .u64 f_4_6, .int .i64 f_4_7, .int .i64 f_4_8] T_api_Flow) fun t9 h2 => if (Option.isNone t_0) = true then (Q (.bool false) h2) else (ldI h2 t8 .i64 fun t16_0 => ldI h2 (Addr.add t8 1) .i64 fun t16_1 => ldI h2 (Addr.add t8 2) .i64 fun t16_2 => ldI h2 (Addr.add t8 3) .i64 fun t16_3 => CallT Try.prog fn_threshold_counts #[.agg #[.int .i64 t16_0, .int .i64 t16_1, .int .i64 t16_2, .int .i64 t16_3]] h2 fun v h3 => ∃ t17 : Bool, v = .bool t17 ∧ if (!t17) = true then (Q (.bool true) h3) else (nn t_0 fun t21 => ldI h3 t21 .i64 fun t23 => nn t_0 fun t27 => st1 h3 t27 (.int .i64 (if (if (1099511627776 : Int) < at_1 then (1099511627776 : Int) else at_1) > t23 then (if (1099511627776 : Int) < at_1 then (1099511627776 : Int) else at_1) else t23)) fun h4 => ldI h4 t8 .i64 fun t30_0 => ldI h4 (Addr.add t8 1) .i64 fun t30_1 => ldI h4 (Addr.add t8 2) .i64 fun t30_2 => ldI h4 (Addr.add t8 3) .i64 fun t30_3 => ldI h4 t9 .i64 fun t31_0 => ldB h4 (Addr.add t9 1) fun t31_1 => ldI h4 (Addr.add t9 2) .u64 fun t31_2 => ldI h4 (Addr.add t9 3) .u64 fun t31_3 => ldB h4 (Addr.add t9 4) fun t31_4 => ldI h4 (Addr.add t9 5) .u64 fun t31_5 => ldI h4 (Addr.add t9 6) .u64 fun t31_6 => ldI h4 (Addr.add t9 7) .i64 fun t31_7 => ldI h4 (Addr.add t9 8) .i64 fun t31_8 => CallT Try.prog fn_threshold_keyOf #[.int .i64 sid_2, .agg #[.int .i64 t30_0, .int .i64 t30_1, .int .i64 t30_2, .int .i64 t30_3], .agg #[.int .i64 t31_0, .bool t31_1, .int .u64 t31_2, .int .u64 t31_3, .bool t31_4, .int .u64 t31_5, .int .u64 t31_6, .int .i64 t31_7, .int .i64 t31_8]] h4 fun v h5 => ∃ t32_0 : Int, ∃ t32_1 : Int, ∃ t32_2 : Int, ∃ t32_3 : Int, ∃ t32_4 : Int, ∃ t32_5 : Bool, ∃ t32_6 : Int, ∃ t32_7 : Int, ∃ t32_8 : Bool, ∃ t32_9 : Int, ∃ t32_10 : Int, v = .agg #[.int .i64 t32_0, .int .i64 t32_1, .int .i64 t32_2, .int .i64 t32_3, .int .i64 t32_4, .bool t32_5, .int .u64 t32_6, .int .u64 t32_7, .bool t32_8, .int .u64 t32_9, .int .u64 t32_10] ∧ alV h5 (.cells #[.int .i64 0, .int .i64 0, .int .i64 0, .int .i64 0, .int .i64 0, .bool false, .int .u64 0, .int .u64 0, .bool false, .int .u64 0, .int .u64 0] T_threshold_key) fun t11 h6 => stN h6 t11 [.int .i64 t32_0, .int .i64 t32_1, .int .i64 t32_2, .int .i64 t32_3, .int .i64 t32_4, .bool t32_5, .int .u64 t32_6, .int .u64 t32_7, .bool t32_8, .int .u64 t32_9, .int .u64 t32_10] 0 fun h7 => nn t_0 fun t34 => ldM h7 (Addr.add t34 1) fun t36 => ldI h7 t11 .i64 fun t37_0 => ldI h7 (Addr.add t11 1) .i64 fun t37_1 => ldI h7 (Addr.add t11 2) .i64 fun t37_2 => ldI h7 (Addr.add t11 3) .i64 fun t37_3 => ldI h7 (Addr.add t11 4) .i64 fun t37_4 => ldB h7 (Addr.add t11 5) fun t37_5 => ldI h7 (Addr.add t11 6) .u64 fun t37_6 => ldI h7 (Addr.add t11 7) .u64 fun t37_7 => ldB h7 (Addr.add t11 8) fun t37_8 => ldI h7 (Addr.add t11 9) .u64 fun t37_9 => ldI h7 (Addr.add t11 10) .u64 fun t37_10 => lookV Try.prog T_map_threshold_key_p_threshold_counter (.map t36) (.agg #[.int .i64 t37_0, .int .i64 t37_1, .int .i64 t37_2, .int .i64 t37_3, .int .i64 t37_4, .bool t37_5, .int .u64 t37_6, .int .u64 t37_7, .bool t37_8, .int .u64 t37_9, .int .u64 t37_10]) false h7 fun v h8 => ∃ t38 : Option Addr, v = .pointer t38 ∧ if (Option.isNone t38) = true then (threshold_Table_Filter_b3 t_0 t8 t11 Q h8) else (nn t_0 fun t43 => ldI h8 t43 .i64 fun t45 => nn t38 fun t47 => ldI h8 t47 .i64 fun t49 => ldI h8 (Addr.add t8 3) .i64 fun t51 => if (decide (t45 ≥ (wrap .i64 (t49 + (wrap .i64 (1000 * t51)))))) = true then (threshold_Table_Filter_b3 t_0 t8 t11 Q h8) else (threshold_Table_Filter_b1 t_0 t8 t38 Q h8))))
set_option maxRecDepth 100000 in
theorem threshold_Table_Filter_s (t_0 : Option Addr) (at_1 sid_2 h_3_0 h_3_1 h_3_2 h_3_3 f_4_0 : Int) (f_4_1 : Bool) (f_4_2 f_4_3 : Int) (f_4_4 : Bool) (f_4_5 f_4_6 f_4_7 f_4_8 : Int) {Q : QT} {h : Heap} (hk : threshold_Table_Filter_v t_0 at_1 sid_2 h_3_0 h_3_1 h_3_2 h_3_3 f_4_0 f_4_1 f_4_2 f_4_3 f_4_4 f_4_5 f_4_6 f_4_7 f_4_8 Q h) : CallT Try.prog fn_threshold_Table_Filter #[.pointer t_0, .int .i64 at_1, .int .i64 sid_2, .agg #[.int .i64 h_3_0, .int .i64 h_3_1, .int .i64 h_3_2, .int .i64 h_3_3], .agg #[.int .i64 f_4_0, .bool f_4_1, .int .u64 f_4_2, .int .u64 f_4_3, .bool f_4_4, .int .u64 f_4_5, .int .u64 f_4_6, .int .i64 f_4_7, .int .i64 f_4_8]] h Q :=
 callU follows Try.func10 (Try.call10 _) rfl rfl [(21, fun e h => dP (e 0) fun t_0 => dA (e 8) fun h_8 => dA (e 11) fun k_11 => threshold_Table_Filter_b3 t_0 h_8 k_11 Q h), (24, fun e h => dP (e 0) fun t_0 => dA (e 8) fun h_8 => dP (e 12) fun c_12 => threshold_Table_Filter_b1 t_0 h_8 c_12 Q h), (32, fun e h => dA (e 8) fun h_8 => dI .i64 (e 13) fun n_13 => threshold_Table_Filter_b2 h_8 n_13 Q h)] []
 ⟨fun e h _ hk => by
 have F := Ag.nil (e := e)
 have ⟨t_0, F, hk⟩ := eP F hk
 have ⟨h_8, F, hk⟩ := eA F hk
 have ⟨k_11, F, hk⟩ := eA F hk
 exact cutU F (by as_aux_lemma => kernel_rfl) hk, fun e h _ hk => by
 have F := Ag.nil (e := e)
 have ⟨t_0, F, hk⟩ := eP F hk
 have ⟨h_8, F, hk⟩ := eA F hk
 have ⟨c_12, F, hk⟩ := eP F hk
 exact cutU F (by as_aux_lemma => kernel_rfl) hk, fun e h _ hk => by
 have F := Ag.nil (e := e)
 have ⟨h_8, F, hk⟩ := eA F hk
 have ⟨n_13, F, hk⟩ := eI F hk
 exact cutU F (by as_aux_lemma => kernel_rfl) hk, trivial⟩
 trivial (by as_aux_lemma => kernel_rfl) hk
/-! ### intrusion/intrusionlaw51.flow -/
def law51_flow_v (a_0 b_1 : Int) (Q : QT) (h : Heap) : Prop :=
 alV h (.cells #[.int .i64 0, .bool false, .int .u64 0, .int .u64 0, .bool false, .int .u64 0, .int .u64 0, .int .i64 0, .int .i64 0] T_api_Flow) fun t4 h1 => stN h1 t4 [.int .i64 6, .bool false, .int .u64 0, .int .u64 (wrap .u64 a_0), .bool false, .int .u64 0, .int .u64 (wrap .u64 b_1), .int .i64 0, .int .i64 0] 0 fun h2 => ldI h2 t4 .i64 fun r0_0 => ldB h2 (Addr.add t4 1) fun r0_1 => ldI h2 (Addr.add t4 2) .u64 fun r0_2 => ldI h2 (Addr.add t4 3) .u64 fun r0_3 => ldB h2 (Addr.add t4 4) fun r0_4 => ldI h2 (Addr.add t4 5) .u64 fun r0_5 => ldI h2 (Addr.add t4 6) .u64 fun r0_6 => ldI h2 (Addr.add t4 7) .i64 fun r0_7 => ldI h2 (Addr.add t4 8) .i64 fun r0_8 => Q (.agg #[.int .i64 r0_0, .bool r0_1, .int .u64 r0_2, .int .u64 r0_3, .bool r0_4, .int .u64 r0_5, .int .u64 r0_6, .int .i64 r0_7, .int .i64 r0_8]) h2
set_option maxRecDepth 100000 in
theorem law51_flow_s (a_0 b_1 : Int) {Q : QT} {h : Heap} (hk : law51_flow_v a_0 b_1 Q h) : CallT Try.prog fn_law51_flow #[.int .i64 a_0, .int .i64 b_1] h Q :=
 callU follows Try.func11 (Try.call11 _) rfl rfl [] []
 trivial
 trivial (by as_aux_lemma => kernel_rfl) hk
/-! ### (*intrusion/intrusionref51.Table).Filter -/
def ref51_Table_Filter_b7 (t_0 : Option Addr) (h_8 c_11 : Addr) (l_12a : Option Addr) (l_12n l_12c : Nat) (Q : QT) (h : Heap) : Prop :=
 nn t_0 fun t163 => st1 h (Addr.add t163 1) (.slice l_12a l_12n l_12c) fun h20 => ldI h20 h_8 .i64 fun t166 => if (t166 == 1) = true then (ldI h20 (Addr.add c_11 12) .i64 fun t169 => ldI h20 (Addr.add h_8 2) .i64 fun t171 => Q (.bool (decide (t169 ≤ t171))) h20) else (ldI h20 h_8 .i64 fun t174 => if (t174 == 2) = true then (ldI h20 (Addr.add c_11 12) .i64 fun t177 => ldI h20 (Addr.add h_8 2) .i64 fun t179 => t179 ≠ 0 ∧ Q (.bool ((Int.tmod t177 t179) == 0)) h20) else (ldI h20 (Addr.add c_11 12) .i64 fun t183 => ldI h20 (Addr.add h_8 2) .i64 fun t185 => Q (.bool (t183 == t185)) h20))
def ref51_Table_Filter_b6 (t_0 : Option Addr) (h_8 c_11 : Addr) (l_12a : Option Addr) (l_12n l_12c : Nat) (first_14 : Int) (Q : QT) (h : Heap) : Prop :=
 sliceSl 13 l_12a l_12n l_12c none (some first_14) none fun t153a t153n t153c => bltV Try.prog .append #[T_sl_intrusionref51_Counter, T_sl_intrusionref51_Counter] T_sl_intrusionref51_Counter #[false, false] #[.slice none 0 0, .slice t153a t153n t153c] h fun v h18 => ∃ t154a : Option Addr, ∃ t154n : Nat, ∃ t154c : Nat, v = .slice t154a t154n t154c ∧ sliceSl 13 l_12a l_12n l_12c (some (wrap .i64 (first_14 + 1))) none none fun t159a t159n t159c => bltV Try.prog .append #[T_sl_intrusionref51_Counter, T_sl_intrusionref51_Counter] T_sl_intrusionref51_Counter #[false, false] #[.slice t154a t154n t154c, .slice t159a t159n t159c] h18 fun v h19 => ∃ t160a : Option Addr, ∃ t160n : Nat, ∃ t160c : Nat, v = .slice t160a t160n t160c ∧ ref51_Table_Filter_b7 t_0 h_8 c_11 t160a t160n t160c Q h19
def ref51_Table_Filter_l5 (t_0 : Option Addr) (h_8 c_11 : Addr) (l_12a : Option Addr) (l_12n l_12c : Nat) (Q : QT) (first_14 i_15 : Int) (h : Heap) (Kn5 : Int × Int → Heap → Prop) : Prop :=
 if (decide (i_15 < ((l_12n : Nat) : Int))) = true then (idxA i_15 l_12n (nn l_12a fun t114 => ldI h (Addr.add (Addr.add t114 ((i_15).toNat * 13)) 11) .i64 fun t116 => idxA first_14 l_12n (nn l_12a fun t119 => ldI h (Addr.add (Addr.add t119 ((first_14).toNat * 13)) 11) .i64 fun t121 => if (decide (t116 < t121)) = true then (Kn5 (i_15, wrap .i64 (i_15 + 1)) h) else (idxA i_15 l_12n (nn l_12a fun t126 => ldI h (Addr.add (Addr.add t126 ((i_15).toNat * 13)) 11) .i64 fun t128 => idxA first_14 l_12n (nn l_12a fun t131 => ldI h (Addr.add (Addr.add t131 ((first_14).toNat * 13)) 11) .i64 fun t133 => if (t128 == t133) = true then (idxA i_15 l_12n (nn l_12a fun t138 => ldI h (Addr.add t138 ((i_15).toNat * 13)) .i64 fun t140_0 => ldI h (Addr.add (Addr.add t138 ((i_15).toNat * 13)) 1) .i64 fun t140_1 => ldI h (Addr.add (Addr.add t138 ((i_15).toNat * 13)) 2) .i64 fun t140_2 => ldI h (Addr.add (Addr.add t138 ((i_15).toNat * 13)) 3) .i64 fun t140_3 => ldI h (Addr.add (Addr.add t138 ((i_15).toNat * 13)) 4) .i64 fun t140_4 => ldB h (Addr.add (Addr.add t138 ((i_15).toNat * 13)) 5) fun t140_5 => ldI h (Addr.add (Addr.add t138 ((i_15).toNat * 13)) 6) .u64 fun t140_6 => ldI h (Addr.add (Addr.add t138 ((i_15).toNat * 13)) 7) .u64 fun t140_7 => ldB h (Addr.add (Addr.add t138 ((i_15).toNat * 13)) 8) fun t140_8 => ldI h (Addr.add (Addr.add t138 ((i_15).toNat * 13)) 9) .u64 fun t140_9 => ldI h (Addr.add (Addr.add t138 ((i_15).toNat * 13)) 10) .u64 fun t140_10 => idxA first_14 l_12n (nn l_12a fun t143 => ldI h (Addr.add t143 ((first_14).toNat * 13)) .i64 fun t145_0 => ldI h (Addr.add (Addr.add t143 ((first_14).toNat * 13)) 1) .i64 fun t145_1 => ldI h (Addr.add (Addr.add t143 ((first_14).toNat * 13)) 2) .i64 fun t145_2 => ldI h (Addr.add (Addr.add t143 ((first_14).toNat * 13)) 3) .i64 fun t145_3 => ldI h (Addr.add (Addr.add t143 ((first_14).toNat * 13)) 4) .i64 fun t145_4 => ldB h (Addr.add (Addr.add t143 ((first_14).toNat * 13)) 5) fun t145_5 => ldI h (Addr.add (Addr.add t143 ((first_14).toNat * 13)) 6) .u64 fun t145_6 => ldI h (Addr.add (Addr.add t143 ((first_14).toNat * 13)) 7) .u64 fun t145_7 => ldB h (Addr.add (Addr.add t143 ((first_14).toNat * 13)) 8) fun t145_8 => ldI h (Addr.add (Addr.add t143 ((first_14).toNat * 13)) 9) .u64 fun t145_9 => ldI h (Addr.add (Addr.add t143 ((first_14).toNat * 13)) 10) .u64 fun t145_10 => CallT Try.prog fn_ref51_less #[.agg #[.int .i64 t140_0, .int .i64 t140_1, .int .i64 t140_2, .int .i64 t140_3, .int .i64 t140_4, .bool t140_5, .int .u64 t140_6, .int .u64 t140_7, .bool t140_8, .int .u64 t140_9, .int .u64 t140_10], .agg #[.int .i64 t145_0, .int .i64 t145_1, .int .i64 t145_2, .int .i64 t145_3, .int .i64 t145_4, .bool t145_5, .int .u64 t145_6, .int .u64 t145_7, .bool t145_8, .int .u64 t145_9, .int .u64 t145_10]] h fun v h17 => ∃ t146 : Bool, v = .bool t146 ∧ if t146 = true then (Kn5 (i_15, wrap .i64 (i_15 + 1)) h17) else (Kn5 (first_14, wrap .i64 (i_15 + 1)) h17)))) else (Kn5 (first_14, wrap .i64 (i_15 + 1)) h))))))) else (ref51_Table_Filter_b6 t_0 h_8 c_11 l_12a l_12n l_12c first_14 Q h)
def ref51_Table_Filter_b4 (t_0 : Option Addr) (h_8 c_11 : Addr) (l_12a : Option Addr) (l_12n l_12c : Nat) (Q : QT) (h : Heap) : Prop :=
 ldI h (Addr.add c_11 12) .i64 fun t96 => st1 h (Addr.add c_11 12) (.int .i64 (wrap .i64 (t96 + 1))) fun h14 => ldI h14 c_11 .i64 fun t100_0 => ldI h14 (Addr.add c_11 1) .i64 fun t100_1 => ldI h14 (Addr.add c_11 2) .i64 fun t100_2 => ldI h14 (Addr.add c_11 3) .i64 fun t100_3 => ldI h14 (Addr.add c_11 4) .i64 fun t100_4 => ldB h14 (Addr.add c_11 5) fun t100_5 => ldI h14 (Addr.add c_11 6) .u64 fun t100_6 => ldI h14 (Addr.add c_11 7) .u64 fun t100_7 => ldB h14 (Addr.add c_11 8) fun t100_8 => ldI h14 (Addr.add c_11 9) .u64 fun t100_9 => ldI h14 (Addr.add c_11 10) .u64 fun t100_10 => ldI h14 (Addr.add c_11 11) .i64 fun t100_11 => ldI h14 (Addr.add c_11 12) .i64 fun t100_12 => alV h14 (.cells #[.int .i64 t100_0, .int .i64 t100_1, .int .i64 t100_2, .int .i64 t100_3, .int .i64 t100_4, .bool t100_5, .int .u64 t100_6, .int .u64 t100_7, .bool t100_8, .int .u64 t100_9, .int .u64 t100_10, .int .i64 t100_11, .int .i64 t100_12] T_intrusionref51_Counter) fun t101 h15 => bltV Try.prog .append #[T_sl_intrusionref51_Counter, T_sl_intrusionref51_Counter] T_sl_intrusionref51_Counter #[false, false] #[.slice l_12a l_12n l_12c, .slice (some t101) 1 1] h15 fun v h16 => ∃ t102a : Option Addr, ∃ t102n : Nat, ∃ t102c : Nat, v = .slice t102a t102n t102c ∧ if (decide (((t102n : Nat) : Int) > 256)) = true then (LoopV (fun (s : Int × Int) h Kn => ref51_Table_Filter_l5 t_0 h_8 c_11 t102a t102n t102c Q s.1 s.2 h Kn) (0, 1) h16) else (ref51_Table_Filter_b7 t_0 h_8 c_11 t102a t102n t102c Q h16)
def ref51_Table_Filter_l3 (t_0 : Option Addr) (h_8 c_11 : Addr) (Q : QT) (l_12a : Option Addr) (l_12n l_12c : Nat) (i_13 : Int) (h : Heap) (Kn3 : (Option Addr) × Nat × Nat × Int → Heap → Prop) : Prop :=
 nn t_0 fun t43 => ldL h (Addr.add t43 1) fun t45a t45n t45c => if (decide (i_13 < ((t45n : Nat) : Int))) = true then (nn t_0 fun t51 => ldL h (Addr.add t51 1) fun t53a t53n t53c => idxA i_13 t53n (nn t53a fun t55 => ldI h (Addr.add t55 ((i_13).toNat * 13)) .i64 fun t57_0 => ldI h (Addr.add (Addr.add t55 ((i_13).toNat * 13)) 1) .i64 fun t57_1 => ldI h (Addr.add (Addr.add t55 ((i_13).toNat * 13)) 2) .i64 fun t57_2 => ldI h (Addr.add (Addr.add t55 ((i_13).toNat * 13)) 3) .i64 fun t57_3 => ldI h (Addr.add (Addr.add t55 ((i_13).toNat * 13)) 4) .i64 fun t57_4 => ldB h (Addr.add (Addr.add t55 ((i_13).toNat * 13)) 5) fun t57_5 => ldI h (Addr.add (Addr.add t55 ((i_13).toNat * 13)) 6) .u64 fun t57_6 => ldI h (Addr.add (Addr.add t55 ((i_13).toNat * 13)) 7) .u64 fun t57_7 => ldB h (Addr.add (Addr.add t55 ((i_13).toNat * 13)) 8) fun t57_8 => ldI h (Addr.add (Addr.add t55 ((i_13).toNat * 13)) 9) .u64 fun t57_9 => ldI h (Addr.add (Addr.add t55 ((i_13).toNat * 13)) 10) .u64 fun t57_10 => ldI h c_11 .i64 fun t59_0 => ldI h (Addr.add c_11 1) .i64 fun t59_1 => ldI h (Addr.add c_11 2) .i64 fun t59_2 => ldI h (Addr.add c_11 3) .i64 fun t59_3 => ldI h (Addr.add c_11 4) .i64 fun t59_4 => ldB h (Addr.add c_11 5) fun t59_5 => ldI h (Addr.add c_11 6) .u64 fun t59_6 => ldI h (Addr.add c_11 7) .u64 fun t59_7 => ldB h (Addr.add c_11 8) fun t59_8 => ldI h (Addr.add c_11 9) .u64 fun t59_9 => ldI h (Addr.add c_11 10) .u64 fun t59_10 => if (!((t57_0 == t59_0) && (((t57_1 == t59_1) && ((t57_2 == t59_2) && ((t57_3 == t59_3) && ((t57_4 == t59_4) && true)))) && (((t57_5 == t59_5) && ((t57_6 == t59_6) && ((t57_7 == t59_7) && true))) && (((t57_8 == t59_8) && ((t57_9 == t59_9) && ((t57_10 == t59_10) && true))) && true))))) = true then (nn t_0 fun t63 => ldL h (Addr.add t63 1) fun t65a t65n t65c => idxA i_13 t65n (nn t65a fun t67 => ldI h (Addr.add t67 ((i_13).toNat * 13)) .i64 fun t68_0 => ldI h (Addr.add (Addr.add t67 ((i_13).toNat * 13)) 1) .i64 fun t68_1 => ldI h (Addr.add (Addr.add t67 ((i_13).toNat * 13)) 2) .i64 fun t68_2 => ldI h (Addr.add (Addr.add t67 ((i_13).toNat * 13)) 3) .i64 fun t68_3 => ldI h (Addr.add (Addr.add t67 ((i_13).toNat * 13)) 4) .i64 fun t68_4 => ldB h (Addr.add (Addr.add t67 ((i_13).toNat * 13)) 5) fun t68_5 => ldI h (Addr.add (Addr.add t67 ((i_13).toNat * 13)) 6) .u64 fun t68_6 => ldI h (Addr.add (Addr.add t67 ((i_13).toNat * 13)) 7) .u64 fun t68_7 => ldB h (Addr.add (Addr.add t67 ((i_13).toNat * 13)) 8) fun t68_8 => ldI h (Addr.add (Addr.add t67 ((i_13).toNat * 13)) 9) .u64 fun t68_9 => ldI h (Addr.add (Addr.add t67 ((i_13).toNat * 13)) 10) .u64 fun t68_10 => ldI h (Addr.add (Addr.add t67 ((i_13).toNat * 13)) 11) .i64 fun t68_11 => ldI h (Addr.add (Addr.add t67 ((i_13).toNat * 13)) 12) .i64 fun t68_12 => alV h (.cells #[.int .i64 t68_0, .int .i64 t68_1, .int .i64 t68_2, .int .i64 t68_3, .int .i64 t68_4, .bool t68_5, .int .u64 t68_6, .int .u64 t68_7, .bool t68_8, .int .u64 t68_9, .int .u64 t68_10, .int .i64 t68_11, .int .i64 t68_12] T_intrusionref51_Counter) fun t69 h8 => bltV Try.prog .append #[T_sl_intrusionref51_Counter, T_sl_intrusionref51_Counter] T_sl_intrusionref51_Counter #[false, false] #[.slice l_12a l_12n l_12c, .slice (some t69) 1 1] h8 fun v h9 => ∃ t70a : Option Addr, ∃ t70n : Nat, ∃ t70c : Nat, v = .slice t70a t70n t70c ∧ Kn3 (t70a, t70n, t70c, wrap .i64 (i_13 + 1)) h9)) else (nn t_0 fun t72 => ldI h t72 .i64 fun t74 => nn t_0 fun t76 => ldL h (Addr.add t76 1) fun t78a t78n t78c => idxA i_13 t78n (nn t78a fun t80 => ldI h (Addr.add (Addr.add t80 ((i_13).toNat * 13)) 11) .i64 fun t82 => ldI h (Addr.add h_8 3) .i64 fun t84 => if (decide (t74 < (wrap .i64 (t82 + (wrap .i64 (1000 * t84)))))) = true then (nn t_0 fun t89 => ldL h (Addr.add t89 1) fun t91a t91n t91c => idxA i_13 t91n (nn t91a fun t93 => ldI h (Addr.add t93 ((i_13).toNat * 13)) .i64 fun t94_0 => ldI h (Addr.add (Addr.add t93 ((i_13).toNat * 13)) 1) .i64 fun t94_1 => ldI h (Addr.add (Addr.add t93 ((i_13).toNat * 13)) 2) .i64 fun t94_2 => ldI h (Addr.add (Addr.add t93 ((i_13).toNat * 13)) 3) .i64 fun t94_3 => ldI h (Addr.add (Addr.add t93 ((i_13).toNat * 13)) 4) .i64 fun t94_4 => ldB h (Addr.add (Addr.add t93 ((i_13).toNat * 13)) 5) fun t94_5 => ldI h (Addr.add (Addr.add t93 ((i_13).toNat * 13)) 6) .u64 fun t94_6 => ldI h (Addr.add (Addr.add t93 ((i_13).toNat * 13)) 7) .u64 fun t94_7 => ldB h (Addr.add (Addr.add t93 ((i_13).toNat * 13)) 8) fun t94_8 => ldI h (Addr.add (Addr.add t93 ((i_13).toNat * 13)) 9) .u64 fun t94_9 => ldI h (Addr.add (Addr.add t93 ((i_13).toNat * 13)) 10) .u64 fun t94_10 => ldI h (Addr.add (Addr.add t93 ((i_13).toNat * 13)) 11) .i64 fun t94_11 => ldI h (Addr.add (Addr.add t93 ((i_13).toNat * 13)) 12) .i64 fun t94_12 => stN h c_11 [.int .i64 t94_0, .int .i64 t94_1, .int .i64 t94_2, .int .i64 t94_3, .int .i64 t94_4, .bool t94_5, .int .u64 t94_6, .int .u64 t94_7, .bool t94_8, .int .u64 t94_9, .int .u64 t94_10, .int .i64 t94_11, .int .i64 t94_12] 0 fun h10 => Kn3 (l_12a, l_12n, l_12c, wrap .i64 (i_13 + 1)) h10)) else (Kn3 (l_12a, l_12n, l_12c, wrap .i64 (i_13 + 1)) h))))) else (ref51_Table_Filter_b4 t_0 h_8 c_11 l_12a l_12n l_12c Q h)
def ref51_Table_Filter_b2 (t_0 : Option Addr) (sid_2 : Int) (h_8 f_9 : Addr) (Q : QT) (h : Heap) : Prop :=
 ldI h h_8 .i64 fun t33_0 => ldI h (Addr.add h_8 1) .i64 fun t33_1 => ldI h (Addr.add h_8 2) .i64 fun t33_2 => ldI h (Addr.add h_8 3) .i64 fun t33_3 => ldI h f_9 .i64 fun t34_0 => ldB h (Addr.add f_9 1) fun t34_1 => ldI h (Addr.add f_9 2) .u64 fun t34_2 => ldI h (Addr.add f_9 3) .u64 fun t34_3 => ldB h (Addr.add f_9 4) fun t34_4 => ldI h (Addr.add f_9 5) .u64 fun t34_5 => ldI h (Addr.add f_9 6) .u64 fun t34_6 => ldI h (Addr.add f_9 7) .i64 fun t34_7 => ldI h (Addr.add f_9 8) .i64 fun t34_8 => nn t_0 fun t37 => ldI h t37 .i64 fun t39 => (CallT Try.prog fn_ref51_KeyOf #[.int .i64 sid_2, .agg #[.int .i64 t33_0, .int .i64 t33_1, .int .i64 t33_2, .int .i64 t33_3], .agg #[.int .i64 t34_0, .bool t34_1, .int .u64 t34_2, .int .u64 t34_3, .bool t34_4, .int .u64 t34_5, .int .u64 t34_6, .int .i64 t34_7, .int .i64 t34_8]] h fun v h5 => ∃ t35_0 : Int, ∃ t35_1 : Int, ∃ t35_2 : Int, ∃ t35_3 : Int, ∃ t35_4 : Int, ∃ t35_5 : Bool, ∃ t35_6 : Int, ∃ t35_7 : Int, ∃ t35_8 : Bool, ∃ t35_9 : Int, ∃ t35_10 : Int, v = .agg #[.int .i64 t35_0, .int .i64 t35_1, .int .i64 t35_2, .int .i64 t35_3, .int .i64 t35_4, .bool t35_5, .int .u64 t35_6, .int .u64 t35_7, .bool t35_8, .int .u64 t35_9, .int .u64 t35_10] ∧ (ldI h5 t37 .i64 fun t939 => (.int .i64 t939 : Value) = .int .i64 t39) ∧ alV h5 (.cells #[.int .i64 0, .int .i64 0, .int .i64 0, .int .i64 0, .int .i64 0, .bool false, .int .u64 0, .int .u64 0, .bool false, .int .u64 0, .int .u64 0, .int .i64 0, .int .i64 0] T_intrusionref51_Counter) fun t11 h6 => (ldI h6 h_8 .i64 fun t933_0 => ldI h6 (Addr.add h_8 1) .i64 fun t933_1 => ldI h6 (Addr.add h_8 2) .i64 fun t933_2 => ldI h6 (Addr.add h_8 3) .i64 fun t933_3 => (.agg #[.int .i64 t933_0, .int .i64 t933_1, .int .i64 t933_2, .int .i64 t933_3] : Value) = .agg #[.int .i64 t33_0, .int .i64 t33_1, .int .i64 t33_2, .int .i64 t33_3]) ∧ (ldI h6 f_9 .i64 fun t934_0 => ldB h6 (Addr.add f_9 1) fun t934_1 => ldI h6 (Addr.add f_9 2) .u64 fun t934_2 => ldI h6 (Addr.add f_9 3) .u64 fun t934_3 => ldB h6 (Addr.add f_9 4) fun t934_4 => ldI h6 (Addr.add f_9 5) .u64 fun t934_5 => ldI h6 (Addr.add f_9 6) .u64 fun t934_6 => ldI h6 (Addr.add f_9 7) .i64 fun t934_7 => ldI h6 (Addr.add f_9 8) .i64 fun t934_8 => (.agg #[.int .i64 t934_0, .bool t934_1, .int .u64 t934_2, .int .u64 t934_3, .bool t934_4, .int .u64 t934_5, .int .u64 t934_6, .int .i64 t934_7, .int .i64 t934_8] : Value) = .agg #[.int .i64 t34_0, .bool t34_1, .int .u64 t34_2, .int .u64 t34_3, .bool t34_4, .int .u64 t34_5, .int .u64 t34_6, .int .i64 t34_7, .int .i64 t34_8]) ∧ (ldI h6 t37 .i64 fun t939 => (.int .i64 t939 : Value) = .int .i64 t39) ∧ stN h6 t11 [.int .i64 t35_0, .int .i64 t35_1, .int .i64 t35_2, .int .i64 t35_3, .int .i64 t35_4, .bool t35_5, .int .u64 t35_6, .int .u64 t35_7, .bool t35_8, .int .u64 t35_9, .int .u64 t35_10, .int .i64 t39, .int .i64 0] 0 fun h7 => LoopV (fun (s : (Option Addr) × Nat × Nat × Int) h Kn => ref51_Table_Filter_l3 t_0 h_8 t11 Q s.1 s.2.1 s.2.2.1 s.2.2.2 h Kn) (none, 0, 0, 0) h7) ∧ (alV h (.cells #[.int .i64 0, .int .i64 0, .int .i64 0, .int .i64 0, .int .i64 0, .bool false, .int .u64 0, .int .u64 0, .bool false, .int .u64 0, .int .u64 0, .int .i64 0, .int .i64 0] T_intrusionref51_Counter) fun t11 h11 => (ldI h11 h_8 .i64 fun t933_0 => ldI h11 (Addr.add h_8 1) .i64 fun t933_1 => ldI h11 (Addr.add h_8 2) .i64 fun t933_2 => ldI h11 (Addr.add h_8 3) .i64 fun t933_3 => (.agg #[.int .i64 t933_0, .int .i64 t933_1, .int .i64 t933_2, .int .i64 t933_3] : Value) = .agg #[.int .i64 t33_0, .int .i64 t33_1, .int .i64 t33_2, .int .i64 t33_3]) ∧ (ldI h11 f_9 .i64 fun t934_0 => ldB h11 (Addr.add f_9 1) fun t934_1 => ldI h11 (Addr.add f_9 2) .u64 fun t934_2 => ldI h11 (Addr.add f_9 3) .u64 fun t934_3 => ldB h11 (Addr.add f_9 4) fun t934_4 => ldI h11 (Addr.add f_9 5) .u64 fun t934_5 => ldI h11 (Addr.add f_9 6) .u64 fun t934_6 => ldI h11 (Addr.add f_9 7) .i64 fun t934_7 => ldI h11 (Addr.add f_9 8) .i64 fun t934_8 => (.agg #[.int .i64 t934_0, .bool t934_1, .int .u64 t934_2, .int .u64 t934_3, .bool t934_4, .int .u64 t934_5, .int .u64 t934_6, .int .i64 t934_7, .int .i64 t934_8] : Value) = .agg #[.int .i64 t34_0, .bool t34_1, .int .u64 t34_2, .int .u64 t34_3, .bool t34_4, .int .u64 t34_5, .int .u64 t34_6, .int .i64 t34_7, .int .i64 t34_8]) ∧ (ldI h11 t37 .i64 fun t939 => (.int .i64 t939 : Value) = .int .i64 t39) ∧ CallT Try.prog fn_ref51_KeyOf #[.int .i64 sid_2, .agg #[.int .i64 t33_0, .int .i64 t33_1, .int .i64 t33_2, .int .i64 t33_3], .agg #[.int .i64 t34_0, .bool t34_1, .int .u64 t34_2, .int .u64 t34_3, .bool t34_4, .int .u64 t34_5, .int .u64 t34_6, .int .i64 t34_7, .int .i64 t34_8]] h11 fun v h12 => ∃ t35_0 : Int, ∃ t35_1 : Int, ∃ t35_2 : Int, ∃ t35_3 : Int, ∃ t35_4 : Int, ∃ t35_5 : Bool, ∃ t35_6 : Int, ∃ t35_7 : Int, ∃ t35_8 : Bool, ∃ t35_9 : Int, ∃ t35_10 : Int, v = .agg #[.int .i64 t35_0, .int .i64 t35_1, .int .i64 t35_2, .int .i64 t35_3, .int .i64 t35_4, .bool t35_5, .int .u64 t35_6, .int .u64 t35_7, .bool t35_8, .int .u64 t35_9, .int .u64 t35_10] ∧ (ldI h12 t37 .i64 fun t939 => (.int .i64 t939 : Value) = .int .i64 t39) ∧ stN h12 t11 [.int .i64 t35_0, .int .i64 t35_1, .int .i64 t35_2, .int .i64 t35_3, .int .i64 t35_4, .bool t35_5, .int .u64 t35_6, .int .u64 t35_7, .bool t35_8, .int .u64 t35_9, .int .u64 t35_10, .int .i64 t39, .int .i64 0] 0 fun h13 => LoopV (fun (s : (Option Addr) × Nat × Nat × Int) h Kn => ref51_Table_Filter_l3 t_0 h_8 t11 Q s.1 s.2.1 s.2.2.1 s.2.2.2 h Kn) (none, 0, 0, 0) h13)
def ref51_Table_Filter_b1 (t_0 : Option Addr) (at_1 sid_2 : Int) (h_8 f_9 : Addr) (Q : QT) (h : Heap) : Prop :=
 nn t_0 fun t24 => ldI h t24 .i64 fun t26 => if (decide (at_1 > t26)) = true then (nn t_0 fun t30 => st1 h t30 (.int .i64 at_1) fun h4 => ref51_Table_Filter_b2 t_0 sid_2 h_8 f_9 Q h4) else (ref51_Table_Filter_b2 t_0 sid_2 h_8 f_9 Q h)
def ref51_Table_Filter_v (t_0 : Option Addr) (at_1 sid_2 h_3_0 h_3_1 h_3_2 h_3_3 f_4_0 : Int) (f_4_1 : Bool) (f_4_2 f_4_3 : Int) (f_4_4 : Bool) (f_4_5 f_4_6 f_4_7 f_4_8 : Int) (Q : QT) (h : Heap) : Prop :=
 alV h (.cells #[.int .i64 h_3_0, .int .i64 h_3_1, .int .i64 h_3_2, .int .i64 h_3_3] T_api_Threshold) fun t8 h1 => alV h1 (.cells #[.int .i64 f_4_0, .bool f_4_1, .int .u64 f_4_2, .int .u64 f_4_3, .bool f_4_4, .int .u64 f_4_5, .int .u64 f_4_6, .int .i64 f_4_7, .int .i64 f_4_8] T_api_Flow) fun t9 h2 => ldI h2 t8 .i64 fun t17_0 => ldI h2 (Addr.add t8 1) .i64 fun t17_1 => ldI h2 (Addr.add t8 2) .i64 fun t17_2 => ldI h2 (Addr.add t8 3) .i64 fun t17_3 => CallT Try.prog fn_ref51_Counts #[.agg #[.int .i64 t17_0, .int .i64 t17_1, .int .i64 t17_2, .int .i64 t17_3]] h2 fun v h3 => ∃ t18 : Bool, v = .bool t18 ∧ if (!t18) = true then (Q (.bool true) h3) else (if (decide (at_1 > 1099511627776)) = true then (ref51_Table_Filter_b1 t_0 1099511627776 sid_2 t8 t9 Q h3) else (ref51_Table_Filter_b1 t_0 at_1 sid_2 t8 t9 Q h3))
set_option maxRecDepth 100000 in
theorem ref51_Table_Filter_s (t_0 : Option Addr) (at_1 sid_2 h_3_0 h_3_1 h_3_2 h_3_3 f_4_0 : Int) (f_4_1 : Bool) (f_4_2 f_4_3 : Int) (f_4_4 : Bool) (f_4_5 f_4_6 f_4_7 f_4_8 : Int) {Q : QT} {h : Heap} (hk : ref51_Table_Filter_v t_0 at_1 sid_2 h_3_0 h_3_1 h_3_2 h_3_3 f_4_0 f_4_1 f_4_2 f_4_3 f_4_4 f_4_5 f_4_6 f_4_7 f_4_8 Q h) : CallT Try.prog fn_ref51_Table_Filter #[.pointer t_0, .int .i64 at_1, .int .i64 sid_2, .agg #[.int .i64 h_3_0, .int .i64 h_3_1, .int .i64 h_3_2, .int .i64 h_3_3], .agg #[.int .i64 f_4_0, .bool f_4_1, .int .u64 f_4_2, .int .u64 f_4_3, .bool f_4_4, .int .u64 f_4_5, .int .u64 f_4_6, .int .i64 f_4_7, .int .i64 f_4_8]] h Q :=
 callU follows Try.func12 (Try.call12 _) rfl rfl [(12, fun e h => dP (e 0) fun t_0 => dI .i64 (e 1) fun at_1 => dI .i64 (e 2) fun sid_2 => dA (e 8) fun h_8 => dA (e 9) fun f_9 => ref51_Table_Filter_b1 t_0 at_1 sid_2 h_8 f_9 Q h), (16, fun e h => dP (e 0) fun t_0 => dI .i64 (e 2) fun sid_2 => dA (e 8) fun h_8 => dA (e 9) fun f_9 => ref51_Table_Filter_b2 t_0 sid_2 h_8 f_9 Q h), (34, fun e h => dP (e 0) fun t_0 => dA (e 8) fun h_8 => dA (e 11) fun c_11 => dL (e 12) fun l_12a l_12n l_12c => ref51_Table_Filter_b4 t_0 h_8 c_11 l_12a l_12n l_12c Q h), (52, fun e h => dP (e 0) fun t_0 => dA (e 8) fun h_8 => dA (e 11) fun c_11 => dL (e 12) fun l_12a l_12n l_12c => dI .i64 (e 14) fun first_14 => ref51_Table_Filter_b6 t_0 h_8 c_11 l_12a l_12n l_12c first_14 Q h), (58, fun e h => dP (e 0) fun t_0 => dA (e 8) fun h_8 => dA (e 11) fun c_11 => dL (e 12) fun l_12a l_12n l_12c => ref51_Table_Filter_b7 t_0 h_8 c_11 l_12a l_12n l_12c Q h)] [(22, fun e h => dP (e 0) fun t_0 => dA (e 8) fun h_8 => dA (e 11) fun c_11 => dL (e 12) fun l_12a l_12n l_12c => dI .i64 (e 13) fun i_13 => LoopV (fun (s : (Option Addr) × Nat × Nat × Int) h Kn => ref51_Table_Filter_l3 t_0 h_8 c_11 Q s.1 s.2.1 s.2.2.1 s.2.2.2 h Kn) (l_12a, l_12n, l_12c, i_13) h), (44, fun e h => dP (e 0) fun t_0 => dA (e 8) fun h_8 => dA (e 11) fun c_11 => dL (e 12) fun l_12a l_12n l_12c => dI .i64 (e 14) fun first_14 => dI .i64 (e 15) fun i_15 => LoopV (fun (s : Int × Int) h Kn => ref51_Table_Filter_l5 t_0 h_8 c_11 l_12a l_12n l_12c Q s.1 s.2 h Kn) (first_14, i_15) h)]
 ⟨fun e h _ hk => by
 have F := Ag.nil (e := e)
 have ⟨t_0, F, hk⟩ := eP F hk
 have ⟨at_1, F, hk⟩ := eI F hk
 have ⟨sid_2, F, hk⟩ := eI F hk
 have ⟨h_8, F, hk⟩ := eA F hk
 have ⟨f_9, F, hk⟩ := eA F hk
 exact cutU F (by as_aux_lemma => kernel_rfl) hk, fun e h _ hk => by
 have F := Ag.nil (e := e)
 have ⟨t_0, F, hk⟩ := eP F hk
 have ⟨sid_2, F, hk⟩ := eI F hk
 have ⟨h_8, F, hk⟩ := eA F hk
 have ⟨f_9, F, hk⟩ := eA F hk
 exact cutU F (by as_aux_lemma => kernel_rfl) hk, fun e h _ hk => by
 have F := Ag.nil (e := e)
 have ⟨t_0, F, hk⟩ := eP F hk
 have ⟨h_8, F, hk⟩ := eA F hk
 have ⟨c_11, F, hk⟩ := eA F hk
 have ⟨l_12a, l_12n, l_12c, F, hk⟩ := eL F hk
 exact cutU F (by as_aux_lemma => kernel_rfl) hk, fun e h _ hk => by
 have F := Ag.nil (e := e)
 have ⟨t_0, F, hk⟩ := eP F hk
 have ⟨h_8, F, hk⟩ := eA F hk
 have ⟨c_11, F, hk⟩ := eA F hk
 have ⟨l_12a, l_12n, l_12c, F, hk⟩ := eL F hk
 have ⟨first_14, F, hk⟩ := eI F hk
 exact cutU F (by as_aux_lemma => kernel_rfl) hk, fun e h _ hk => by
 have F := Ag.nil (e := e)
 have ⟨t_0, F, hk⟩ := eP F hk
 have ⟨h_8, F, hk⟩ := eA F hk
 have ⟨c_11, F, hk⟩ := eA F hk
 have ⟨l_12a, l_12n, l_12c, F, hk⟩ := eL F hk
 exact cutU F (by as_aux_lemma => kernel_rfl) hk, trivial⟩
 ⟨⟨by kernel_rfl, fun e h he hk => by
 have F := Ag.nil (e := e)
 have ⟨t_0, F, hk⟩ := eP F hk
 have ⟨h_8, F, hk⟩ := eA F hk
 have ⟨c_11, F, hk⟩ := eA F hk
 have ⟨l_12a, l_12n, l_12c, F, hk⟩ := eL F hk
 have ⟨i_13, F, hk⟩ := eI F hk
 exact loopU (s0 := (l_12a, l_12n, l_12c, i_13)) follows (fun _ h => by cases h) he F (fun s => [(13, .int .i64 s.2.2.2), (12, .slice s.1 s.2.1 s.2.2.1)]) (by kernel_rfl) (F.take 2) hk (fun Kn3 e h => dL (e 12) fun l_12a l_12n l_12c => dI .i64 (e 13) fun i_13 => Kn3 (l_12a, l_12n, l_12c, i_13) h) (fun Kn3 e h hk => by
  have F := Ag.nil (e := e)
  have ⟨l_12a, l_12n, l_12c, F, hk⟩ := eL F hk
  have ⟨i_13, F, hk⟩ := eI F hk
  exact ⟨(l_12a, l_12n, l_12c, i_13), F, hk⟩)
  (fun Kn3 => []) (fun Kn3 => [])
  (fun Kn3 => trivial)
  (fun Kn3 => trivial) (fun e s h Kn3 => by as_aux_lemma => kernel_rfl)⟩, ⟨by kernel_rfl, fun e h he hk => by
 have F := Ag.nil (e := e)
 have ⟨t_0, F, hk⟩ := eP F hk
 have ⟨h_8, F, hk⟩ := eA F hk
 have ⟨c_11, F, hk⟩ := eA F hk
 have ⟨l_12a, l_12n, l_12c, F, hk⟩ := eL F hk
 have ⟨first_14, F, hk⟩ := eI F hk
 have ⟨i_15, F, hk⟩ := eI F hk
 exact loopU (s0 := (first_14, i_15)) follows (fun _ h => by cases h) he F (fun s => [(15, .int .i64 s.2), (14, .int .i64 s.1)]) (by kernel_rfl) (F.take 2) hk (fun Kn5 e h => dI .i64 (e 14) fun first_14 => dI .i64 (e 15) fun i_15 => Kn5 (first_14, i_15) h) (fun Kn5 e h hk => by
  have F := Ag.nil (e := e)
  have ⟨first_14, F, hk⟩ := eI F hk
  have ⟨i_15, F, hk⟩ := eI F hk
  exact ⟨(first_14, i_15), F, hk⟩)
  (fun Kn5 => []) (fun Kn5 => [])
  (fun Kn5 => trivial)
  (fun Kn5 => trivial) (fun e s h Kn5 => by as_aux_lemma => kernel_rfl)⟩, trivial⟩ (by as_aux_lemma => kernel_rfl) hk
/-! ### (*intrusion/threshold.Table).Len -/
def threshold_Table_Len_v (t_0 : Option Addr) (Q : QT) (h : Heap) : Prop :=
 if (Option.isNone t_0) = true then (Q (.int .i64 0) h) else (nn t_0 fun t6 => ldM h (Addr.add t6 1) fun t8 => bltV Try.prog .len #[T_map_threshold_key_p_threshold_counter] T_int #[false] #[.map t8] h fun v h1 => ∃ t9 : Int, v = .int .i64 t9 ∧ Q (.int .i64 t9) h1)
set_option maxRecDepth 100000 in
theorem threshold_Table_Len_s (t_0 : Option Addr) {Q : QT} {h : Heap} (hk : threshold_Table_Len_v t_0 Q h) : CallT Try.prog fn_threshold_Table_Len #[.pointer t_0] h Q :=
 callU follows Try.func13 (Try.call13 _) rfl rfl [] []
 trivial
 trivial (by as_aux_lemma => kernel_rfl) hk
/-! ### (*intrusion/intrusionref51.Table).Len -/
def ref51_Table_Len_v (t_0 : Option Addr) (Q : QT) (h : Heap) : Prop :=
 nn t_0 fun t4 => ldL h (Addr.add t4 1) fun t6a t6n t6c => Q (.int .i64 ((t6n : Nat) : Int)) h
set_option maxRecDepth 100000 in
theorem ref51_Table_Len_s (t_0 : Option Addr) {Q : QT} {h : Heap} (hk : ref51_Table_Len_v t_0 Q h) : CallT Try.prog fn_ref51_Table_Len #[.pointer t_0] h Q :=
 callU follows Try.func14 (Try.call14 _) rfl rfl [] []
 trivial
 trivial (by as_aux_lemma => kernel_rfl) hk
/-! ### intrusion/intrusionlaw51.fine -/
def law51_fine_v (f_0_0 : Int) (f_0_1 : Bool) (f_0_2 f_0_3 : Int) (f_0_4 : Bool) (f_0_5 f_0_6 f_0_7 f_0_8 : Int) (Q : QT) (h : Heap) : Prop :=
 alV h (.cells #[.int .i64 f_0_0, .bool f_0_1, .int .u64 f_0_2, .int .u64 f_0_3, .bool f_0_4, .int .u64 f_0_5, .int .u64 f_0_6, .int .i64 f_0_7, .int .i64 f_0_8] T_api_Flow) fun t1 h1 => ldB h1 (Addr.add t1 1) fun t5 => if t5 = true then (ldB h1 (Addr.add t1 4) fun t21 => if t21 = true then (Q (.bool true) h1) else (ldI h1 (Addr.add (Addr.add t1 4) 1) .u64 fun t25 => if (t25 == 0) = true then (ldI h1 (Addr.add (Addr.add t1 4) 2) .u64 fun t30 => Q (.bool (decide (t30 < 4294967296))) h1) else (Q (.bool false) h1))) else (ldI h1 (Addr.add (Addr.add t1 1) 1) .u64 fun t9 => if (t9 == 0) = true then (ldI h1 (Addr.add (Addr.add t1 1) 2) .u64 fun t14 => if (decide (t14 < 4294967296)) = true then (ldB h1 (Addr.add t1 4) fun t21 => if t21 = true then (Q (.bool true) h1) else (ldI h1 (Addr.add (Addr.add t1 4) 1) .u64 fun t25 => if (t25 == 0) = true then (ldI h1 (Addr.add (Addr.add t1 4) 2) .u64 fun t30 => Q (.bool (decide (t30 < 4294967296))) h1) else (Q (.bool false) h1))) else (Q (.bool false) h1)) else (Q (.bool false) h1))
set_option maxRecDepth 100000 in
theorem law51_fine_s (f_0_0 : Int) (f_0_1 : Bool) (f_0_2 f_0_3 : Int) (f_0_4 : Bool) (f_0_5 f_0_6 f_0_7 f_0_8 : Int) {Q : QT} {h : Heap} (hk : law51_fine_v f_0_0 f_0_1 f_0_2 f_0_3 f_0_4 f_0_5 f_0_6 f_0_7 f_0_8 Q h) : CallT Try.prog fn_law51_fine #[.agg #[.int .i64 f_0_0, .bool f_0_1, .int .u64 f_0_2, .int .u64 f_0_3, .bool f_0_4, .int .u64 f_0_5, .int .u64 f_0_6, .int .i64 f_0_7, .int .i64 f_0_8]] h Q :=
 callU follows Try.func15 (Try.call15 _) rfl rfl [] []
 trivial
 trivial (by as_aux_lemma => kernel_rfl) hk
/-! ### (*intrusion/threshold.Table).Keep -/
def threshold_Table_Keep_l1 (t_0 l_1a : Option Addr) (l_1n l_1c : Nat) (t11 : Addr) (Q : QT) (h : Heap) (Kn1 : Unit → Heap → Prop) : Prop :=
 nextV Try.prog (.pointer (some t11)) false T_t h fun v h2 => (v = .tuple #[.bool false] → Q (.tuple #[]) h2) ∧ (v ≠ .tuple #[.bool false] → ∃ t12k t12x : Value, v = .tuple #[.bool true, t12k, t12x] ∧ entryV Try.prog (.pointer (some t11)) h2 fun v h3 => ∃ t14k t14x : Value, v = .tuple #[t14k, t14x] ∧ dG t14k fun lt15_1 => dC lt15_1 fun vt15_2 lt15_2 => dI .i64 vt15_2 fun t15_0 => dC lt15_2 fun vt15_3 lt15_3 => dI .i64 vt15_3 fun t15_1 => dC lt15_3 fun vt15_4 lt15_4 => dI .i64 vt15_4 fun t15_2 => dC lt15_4 fun vt15_5 lt15_5 => dI .i64 vt15_5 fun t15_3 => dC lt15_5 fun vt15_6 lt15_6 => dI .i64 vt15_6 fun t15_4 => dC lt15_6 fun vt15_7 lt15_7 => dB vt15_7 fun t15_5 => dC lt15_7 fun vt15_8 lt15_8 => dI .u64 vt15_8 fun t15_6 => dC lt15_8 fun vt15_9 lt15_9 => dI .u64 vt15_9 fun t15_7 => dC lt15_9 fun vt15_10 lt15_10 => dB vt15_10 fun t15_8 => dC lt15_10 fun vt15_11 lt15_11 => dI .u64 vt15_11 fun t15_9 => dC lt15_11 fun vt15_12 lt15_12 => dI .u64 vt15_12 fun t15_10 => dE lt15_12 (alV h3 (.cells #[.int .i64 0, .int .i64 0, .int .i64 0, .int .i64 0, .int .i64 0, .bool false, .int .u64 0, .int .u64 0, .bool false, .int .u64 0, .int .u64 0] T_threshold_key) fun t4 h4 => stN h4 t4 [.int .i64 t15_0, .int .i64 t15_1, .int .i64 t15_2, .int .i64 t15_3, .int .i64 t15_4, .bool t15_5, .int .u64 t15_6, .int .u64 t15_7, .bool t15_8, .int .u64 t15_9, .int .u64 t15_10] 0 fun h5 => CallT Try.prog fn_slices_ContainsFunc_api_Rule_api_Rule #[.slice l_1a l_1n l_1c, .func (.func 27) #[] #[.pointer (some t4)]] h5 fun v h6 => ∃ t18 : Bool, v = .bool t18 ∧ if (!t18) = true then (nn t_0 fun t21 => ldM h6 (Addr.add t21 1) fun t23 => ldI h6 t4 .i64 fun t24_0 => ldI h6 (Addr.add t4 1) .i64 fun t24_1 => ldI h6 (Addr.add t4 2) .i64 fun t24_2 => ldI h6 (Addr.add t4 3) .i64 fun t24_3 => ldI h6 (Addr.add t4 4) .i64 fun t24_4 => ldB h6 (Addr.add t4 5) fun t24_5 => ldI h6 (Addr.add t4 6) .u64 fun t24_6 => ldI h6 (Addr.add t4 7) .u64 fun t24_7 => ldB h6 (Addr.add t4 8) fun t24_8 => ldI h6 (Addr.add t4 9) .u64 fun t24_9 => ldI h6 (Addr.add t4 10) .u64 fun t24_10 => bltV Try.prog .delete #[T_map_threshold_key_p_threshold_counter, T_threshold_key] T_t #[false, false] #[.map t23, .agg #[.int .i64 t24_0, .int .i64 t24_1, .int .i64 t24_2, .int .i64 t24_3, .int .i64 t24_4, .bool t24_5, .int .u64 t24_6, .int .u64 t24_7, .bool t24_8, .int .u64 t24_9, .int .u64 t24_10]] h6 fun v h7 => v = .tuple #[] ∧ Kn1 () h7) else (Kn1 () h6)))
def threshold_Table_Keep_v (t_0 l_1a : Option Addr) (l_1n l_1c : Nat) (Q : QT) (h : Heap) : Prop :=
 if (Option.isNone t_0) = true then (Q (.tuple #[]) h) else (nn t_0 fun t8 => ldM h (Addr.add t8 1) fun t10 => rangeV Try.prog T_map_threshold_key_p_threshold_counter (.map t10) h fun v h1 => ∃ t11 : Nat, v = Value.pointer (some ⟨t11, 0, none⟩) ∧ LoopV (fun (s : Unit) h Kn => threshold_Table_Keep_l1 t_0 l_1a l_1n l_1c (⟨t11, 0, none⟩ : Addr) Q h Kn) () h1)
set_option maxRecDepth 100000 in
theorem threshold_Table_Keep_s (t_0 l_1a : Option Addr) (l_1n l_1c : Nat) {Q : QT} {h : Heap} (hk : threshold_Table_Keep_v t_0 l_1a l_1n l_1c Q h) : CallT Try.prog fn_threshold_Table_Keep #[.pointer t_0, .slice l_1a l_1n l_1c] h Q :=
 callU follows Try.func16 (Try.call16 _) rfl rfl [] [(6, fun e h => dP (e 0) fun t_0 => dL (e 1) fun l_1a l_1n l_1c => dA (e 11) fun t11 => LoopV (fun (s : Unit) h Kn => threshold_Table_Keep_l1 t_0 l_1a l_1n l_1c t11 Q h Kn) () h)]
 trivial
 ⟨⟨by kernel_rfl, fun e h he hk => by
 have F := Ag.nil (e := e)
 have ⟨t_0, F, hk⟩ := eP F hk
 have ⟨l_1a, l_1n, l_1c, F, hk⟩ := eL F hk
 have ⟨t11, F, hk⟩ := eA F hk
 exact loopU (s0 := ()) follows (fun _ h => by cases h) he F (fun s => []) (by kernel_rfl) (F.take 0) hk (fun Kn1 e h => Kn1 () h) (fun Kn1 e h hk => by
  have F := Ag.nil (e := e)
  exact ⟨(), F, hk⟩)
  (fun Kn1 => []) (fun Kn1 => [])
  (fun Kn1 => trivial)
  (fun Kn1 => trivial) (fun e s h Kn1 => by as_aux_lemma => kernel_rfl)⟩, trivial⟩ (by as_aux_lemma => kernel_rfl) hk
/-! ### (*intrusion/intrusionref51.Table).Keep -/
def ref51_Table_Keep_b3 (t_0 l_1a : Option Addr) (l_1n l_1c : Nat) (out_4a : Option Addr) (out_4n out_4c : Nat) (i_5 : Int) (is_6 : Bool) (Q : QT) (Kn1 : (Option Addr) × Nat × Nat × Int → Heap → Prop) (h : Heap) : Prop :=
 if is_6 = true then (nn t_0 fun t61 => ldL h (Addr.add t61 1) fun t63a t63n t63c => idxA i_5 t63n (nn t63a fun t65 => ldI h (Addr.add t65 ((i_5).toNat * 13)) .i64 fun t66_0 => ldI h (Addr.add (Addr.add t65 ((i_5).toNat * 13)) 1) .i64 fun t66_1 => ldI h (Addr.add (Addr.add t65 ((i_5).toNat * 13)) 2) .i64 fun t66_2 => ldI h (Addr.add (Addr.add t65 ((i_5).toNat * 13)) 3) .i64 fun t66_3 => ldI h (Addr.add (Addr.add t65 ((i_5).toNat * 13)) 4) .i64 fun t66_4 => ldB h (Addr.add (Addr.add t65 ((i_5).toNat * 13)) 5) fun t66_5 => ldI h (Addr.add (Addr.add t65 ((i_5).toNat * 13)) 6) .u64 fun t66_6 => ldI h (Addr.add (Addr.add t65 ((i_5).toNat * 13)) 7) .u64 fun t66_7 => ldB h (Addr.add (Addr.add t65 ((i_5).toNat * 13)) 8) fun t66_8 => ldI h (Addr.add (Addr.add t65 ((i_5).toNat * 13)) 9) .u64 fun t66_9 => ldI h (Addr.add (Addr.add t65 ((i_5).toNat * 13)) 10) .u64 fun t66_10 => ldI h (Addr.add (Addr.add t65 ((i_5).toNat * 13)) 11) .i64 fun t66_11 => ldI h (Addr.add (Addr.add t65 ((i_5).toNat * 13)) 12) .i64 fun t66_12 => alV h (.cells #[.int .i64 t66_0, .int .i64 t66_1, .int .i64 t66_2, .int .i64 t66_3, .int .i64 t66_4, .bool t66_5, .int .u64 t66_6, .int .u64 t66_7, .bool t66_8, .int .u64 t66_9, .int .u64 t66_10, .int .i64 t66_11, .int .i64 t66_12] T_intrusionref51_Counter) fun t67 h1 => bltV Try.prog .append #[T_sl_intrusionref51_Counter, T_sl_intrusionref51_Counter] T_sl_intrusionref51_Counter #[false, false] #[.slice out_4a out_4n out_4c, .slice (some t67) 1 1] h1 fun v h2 => ∃ t68a : Option Addr, ∃ t68n : Nat, ∃ t68c : Nat, v = .slice t68a t68n t68c ∧ Kn1 (t68a, t68n, t68c, wrap .i64 (i_5 + 1)) h2)) else (Kn1 (out_4a, out_4n, out_4c, wrap .i64 (i_5 + 1)) h)
def ref51_Table_Keep_l2 (t_0 l_1a : Option Addr) (l_1n l_1c : Nat) (out_4a : Option Addr) (out_4n out_4c : Nat) (i_5 : Int) (Q : QT) (Kn1 : (Option Addr) × Nat × Nat × Int → Heap → Prop) (is_6 : Bool) (k_7 : Int) (h : Heap) (Kn2 : Bool × Int → Heap → Prop) : Prop :=
 if (decide (k_7 < ((l_1n : Nat) : Int))) = true then (if is_6 = true then (Kn2 (true, wrap .i64 (k_7 + 1)) h) else (idxA k_7 l_1n (nn l_1a fun t27 => ldI h (Addr.add (Addr.add t27 ((k_7).toNat * 21)) 7) .i64 fun t29 => nn t_0 fun t31 => ldL h (Addr.add t31 1) fun t33a t33n t33c => idxA i_5 t33n (nn t33a fun t35 => ldI h (Addr.add t35 ((i_5).toNat * 13)) .i64 fun t38 => if (t29 == t38) = true then (idxA k_7 l_1n (nn l_1a fun t43 => ldI h (Addr.add (Addr.add t43 ((k_7).toNat * 21)) 17) .i64 fun t45_0 => ldI h (Addr.add (Addr.add (Addr.add t43 ((k_7).toNat * 21)) 17) 1) .i64 fun t45_1 => ldI h (Addr.add (Addr.add (Addr.add t43 ((k_7).toNat * 21)) 17) 2) .i64 fun t45_2 => ldI h (Addr.add (Addr.add (Addr.add t43 ((k_7).toNat * 21)) 17) 3) .i64 fun t45_3 => nn t_0 fun t47 => ldL h (Addr.add t47 1) fun t49a t49n t49c => idxA i_5 t49n (nn t49a fun t51 => ldI h (Addr.add (Addr.add t51 ((i_5).toNat * 13)) 1) .i64 fun t54_0 => ldI h (Addr.add (Addr.add (Addr.add t51 ((i_5).toNat * 13)) 1) 1) .i64 fun t54_1 => ldI h (Addr.add (Addr.add (Addr.add t51 ((i_5).toNat * 13)) 1) 2) .i64 fun t54_2 => ldI h (Addr.add (Addr.add (Addr.add t51 ((i_5).toNat * 13)) 1) 3) .i64 fun t54_3 => Kn2 (((t45_0 == t54_0) && ((t45_1 == t54_1) && ((t45_2 == t54_2) && ((t45_3 == t54_3) && true)))), wrap .i64 (k_7 + 1)) h))) else (Kn2 (false, wrap .i64 (k_7 + 1)) h))))) else (ref51_Table_Keep_b3 t_0 l_1a l_1n l_1c out_4a out_4n out_4c i_5 is_6 Q Kn1 h)
def ref51_Table_Keep_b4 (t_0 out_4a : Option Addr) (out_4n out_4c : Nat) (Q : QT) (h : Heap) : Prop :=
 nn t_0 fun t71 => st1 h (Addr.add t71 1) (.slice out_4a out_4n out_4c) fun h3 => Q (.tuple #[]) h3
def ref51_Table_Keep_l1 (t_0 l_1a : Option Addr) (l_1n l_1c : Nat) (Q : QT) (out_4a : Option Addr) (out_4n out_4c : Nat) (i_5 : Int) (h : Heap) (Kn1 : (Option Addr) × Nat × Nat × Int → Heap → Prop) : Prop :=
 nn t_0 fun t10 => ldL h (Addr.add t10 1) fun t12a t12n t12c => if (decide (i_5 < ((t12n : Nat) : Int))) = true then (LoopV (fun (s : Bool × Int) h Kn => ref51_Table_Keep_l2 t_0 l_1a l_1n l_1c out_4a out_4n out_4c i_5 Q Kn1 s.1 s.2 h Kn) (false, 0) h) else (ref51_Table_Keep_b4 t_0 out_4a out_4n out_4c Q h)
def ref51_Table_Keep_v (t_0 l_1a : Option Addr) (l_1n l_1c : Nat) (Q : QT) (h : Heap) : Prop :=
 LoopV (fun (s : (Option Addr) × Nat × Nat × Int) h Kn => ref51_Table_Keep_l1 t_0 l_1a l_1n l_1c Q s.1 s.2.1 s.2.2.1 s.2.2.2 h Kn) (none, 0, 0, 0) h
set_option maxRecDepth 100000 in
theorem ref51_Table_Keep_s (t_0 l_1a : Option Addr) (l_1n l_1c : Nat) {Q : QT} {h : Heap} (hk : ref51_Table_Keep_v t_0 l_1a l_1n l_1c Q h) : CallT Try.prog fn_ref51_Table_Keep #[.pointer t_0, .slice l_1a l_1n l_1c] h Q :=
 callU follows Try.func17 (Try.call17 _) rfl rfl [(24, fun e h => dP (e 0) fun t_0 => dL (e 4) fun out_4a out_4n out_4c => ref51_Table_Keep_b4 t_0 out_4a out_4n out_4c Q h)] [(6, fun e h => dP (e 0) fun t_0 => dL (e 1) fun l_1a l_1n l_1c => dL (e 4) fun out_4a out_4n out_4c => dI .i64 (e 5) fun i_5 => LoopV (fun (s : (Option Addr) × Nat × Nat × Int) h Kn => ref51_Table_Keep_l1 t_0 l_1a l_1n l_1c Q s.1 s.2.1 s.2.2.1 s.2.2.2 h Kn) (out_4a, out_4n, out_4c, i_5) h)]
 ⟨fun e h _ hk => by
 have F := Ag.nil (e := e)
 have ⟨t_0, F, hk⟩ := eP F hk
 have ⟨out_4a, out_4n, out_4c, F, hk⟩ := eL F hk
 exact cutU F (by as_aux_lemma => kernel_rfl) hk, trivial⟩
 ⟨⟨by kernel_rfl, fun e h he hk => by
 have F := Ag.nil (e := e)
 have ⟨t_0, F, hk⟩ := eP F hk
 have ⟨l_1a, l_1n, l_1c, F, hk⟩ := eL F hk
 have ⟨out_4a, out_4n, out_4c, F, hk⟩ := eL F hk
 have ⟨i_5, F, hk⟩ := eI F hk
 exact loopU (s0 := (out_4a, out_4n, out_4c, i_5)) follows (fun _ h => by cases h) he F (fun s => [(5, .int .i64 s.2.2.2), (4, .slice s.1 s.2.1 s.2.2.1)]) (by kernel_rfl) (F.take 2) hk (fun Kn1 e h => dL (e 4) fun out_4a out_4n out_4c => dI .i64 (e 5) fun i_5 => Kn1 (out_4a, out_4n, out_4c, i_5) h) (fun Kn1 e h hk => by
  have F := Ag.nil (e := e)
  have ⟨out_4a, out_4n, out_4c, F, hk⟩ := eL F hk
  have ⟨i_5, F, hk⟩ := eI F hk
  exact ⟨(out_4a, out_4n, out_4c, i_5), F, hk⟩)
  (fun Kn1 => [(20, fun e h => dP (e 0) fun t_0 => dL (e 1) fun l_1a l_1n l_1c => dL (e 4) fun out_4a out_4n out_4c => dI .i64 (e 5) fun i_5 => dB (e 6) fun is_6 => ref51_Table_Keep_b3 t_0 l_1a l_1n l_1c out_4a out_4n out_4c i_5 is_6 Q Kn1 h)]) (fun Kn1 => [(14, fun e h => dP (e 0) fun t_0 => dL (e 1) fun l_1a l_1n l_1c => dL (e 4) fun out_4a out_4n out_4c => dI .i64 (e 5) fun i_5 => dB (e 6) fun is_6 => dI .i64 (e 7) fun k_7 => LoopV (fun (s : Bool × Int) h Kn => ref51_Table_Keep_l2 t_0 l_1a l_1n l_1c out_4a out_4n out_4c i_5 Q Kn1 s.1 s.2 h Kn) (is_6, k_7) h)])
  (fun Kn1 => ⟨fun e h _ hk => by
 have F := Ag.nil (e := e)
 have ⟨t_0, F, hk⟩ := eP F hk
 have ⟨l_1a, l_1n, l_1c, F, hk⟩ := eL F hk
 have ⟨out_4a, out_4n, out_4c, F, hk⟩ := eL F hk
 have ⟨i_5, F, hk⟩ := eI F hk
 have ⟨is_6, F, hk⟩ := eB F hk
 exact cutU F (by as_aux_lemma => kernel_rfl) hk, trivial⟩)
  (fun Kn1 => ⟨⟨by kernel_rfl, fun e h he hk => by
 have F := Ag.nil (e := e)
 have ⟨t_0, F, hk⟩ := eP F hk
 have ⟨l_1a, l_1n, l_1c, F, hk⟩ := eL F hk
 have ⟨out_4a, out_4n, out_4c, F, hk⟩ := eL F hk
 have ⟨i_5, F, hk⟩ := eI F hk
 have ⟨is_6, F, hk⟩ := eB F hk
 have ⟨k_7, F, hk⟩ := eI F hk
 exact loopU (s0 := (is_6, k_7)) follows (keep_sub (by kernel_rfl)) he F (fun s => [(7, .int .i64 s.2), (6, .bool s.1)]) (by kernel_rfl) (F.take 2) hk (fun Kn2 e h => dB (e 6) fun is_6 => dI .i64 (e 7) fun k_7 => Kn2 (is_6, k_7) h) (fun Kn2 e h hk => by
  have F := Ag.nil (e := e)
  have ⟨is_6, F, hk⟩ := eB F hk
  have ⟨k_7, F, hk⟩ := eI F hk
  exact ⟨(is_6, k_7), F, hk⟩)
  (fun Kn2 => []) (fun Kn2 => [])
  (fun Kn2 => trivial)
  (fun Kn2 => trivial) (fun e s h Kn2 => by as_aux_lemma => kernel_rfl)⟩, trivial⟩) (fun e s h Kn1 => by as_aux_lemma => kernel_rfl)⟩, trivial⟩ (by as_aux_lemma => kernel_rfl) hk
/-! ### intrusion/threshold.Suppressed -/
def threshold_Suppressed_b2 (sid_1 : Int) (f_5 x_8 : Addr) (t11a : Option Addr) (t11n t11c : Nat) (t12 t13 : Int) (Q : QT) (Kn1 : Int → Heap → Prop) (h : Heap) : Prop :=
 ldB h (Addr.add x_8 2) fun t33_0 => ldI h (Addr.add (Addr.add x_8 2) 1) .u64 fun t33_1 => ldI h (Addr.add (Addr.add x_8 2) 2) .u64 fun t33_2 => ldI h (Addr.add (Addr.add x_8 2) 3) .i64 fun t33_3 => ldB h (Addr.add f_5 1) fun t35_0 => ldI h (Addr.add (Addr.add f_5 1) 1) .u64 fun t35_1 => ldI h (Addr.add (Addr.add f_5 1) 2) .u64 fun t35_2 => ldB h (Addr.add x_8 2) fun t38_0 => ldI h (Addr.add (Addr.add x_8 2) 1) .u64 fun t38_1 => ldI h (Addr.add (Addr.add x_8 2) 2) .u64 fun t38_2 => ldI h (Addr.add (Addr.add x_8 2) 3) .i64 fun t38_3 => ldB h (Addr.add f_5 4) fun t40_0 => ldI h (Addr.add (Addr.add f_5 4) 1) .u64 fun t40_1 => ldI h (Addr.add (Addr.add f_5 4) 2) .u64 fun t40_2 => CallT Try.prog fn_address_Contains #[.agg #[.bool t33_0, .int .u64 t33_1, .int .u64 t33_2, .int .i64 t33_3], .agg #[.bool t35_0, .int .u64 t35_1, .int .u64 t35_2]] h fun v h6 => ∃ t36 : Bool, v = .bool t36 ∧ (ldB h6 (Addr.add x_8 2) fun t938_0 => ldI h6 (Addr.add (Addr.add x_8 2) 1) .u64 fun t938_1 => ldI h6 (Addr.add (Addr.add x_8 2) 2) .u64 fun t938_2 => ldI h6 (Addr.add (Addr.add x_8 2) 3) .i64 fun t938_3 => (.agg #[.bool t938_0, .int .u64 t938_1, .int .u64 t938_2, .int .i64 t938_3] : Value) = .agg #[.bool t38_0, .int .u64 t38_1, .int .u64 t38_2, .int .i64 t38_3]) ∧ (ldB h6 (Addr.add f_5 4) fun t940_0 => ldI h6 (Addr.add (Addr.add f_5 4) 1) .u64 fun t940_1 => ldI h6 (Addr.add (Addr.add f_5 4) 2) .u64 fun t940_2 => (.agg #[.bool t940_0, .int .u64 t940_1, .int .u64 t940_2] : Value) = .agg #[.bool t40_0, .int .u64 t40_1, .int .u64 t40_2]) ∧ CallT Try.prog fn_address_Contains #[.agg #[.bool t38_0, .int .u64 t38_1, .int .u64 t38_2, .int .i64 t38_3], .agg #[.bool t40_0, .int .u64 t40_1, .int .u64 t40_2]] h6 fun v h7 => ∃ t41 : Bool, v = .bool t41 ∧ ldI h7 (Addr.add x_8 1) .i64 fun t43 => if (t43 == 1) = true then (if t36 = true then (Q (.bool true) h7) else (ldI h7 (Addr.add x_8 1) .i64 fun t50 => if (t50 == 2) = true then (if t41 = true then (Q (.bool true) h7) else (ldI h7 (Addr.add x_8 1) .i64 fun t58 => if (t58 == 3) = true then (if t36 = true then (Q (.bool true) h7) else (if t41 = true then (Q (.bool true) h7) else (Kn1 (wrap .i64 (t13 + 1)) h7))) else (Kn1 (wrap .i64 (t13 + 1)) h7))) else (ldI h7 (Addr.add x_8 1) .i64 fun t58 => if (t58 == 3) = true then (if t36 = true then (Q (.bool true) h7) else (if t41 = true then (Q (.bool true) h7) else (Kn1 (wrap .i64 (t13 + 1)) h7))) else (Kn1 (wrap .i64 (t13 + 1)) h7)))) else (ldI h7 (Addr.add x_8 1) .i64 fun t50 => if (t50 == 2) = true then (if t41 = true then (Q (.bool true) h7) else (ldI h7 (Addr.add x_8 1) .i64 fun t58 => if (t58 == 3) = true then (if t36 = true then (Q (.bool true) h7) else (if t41 = true then (Q (.bool true) h7) else (Kn1 (wrap .i64 (t13 + 1)) h7))) else (Kn1 (wrap .i64 (t13 + 1)) h7))) else (ldI h7 (Addr.add x_8 1) .i64 fun t58 => if (t58 == 3) = true then (if t36 = true then (Q (.bool true) h7) else (if t41 = true then (Q (.bool true) h7) else (Kn1 (wrap .i64 (t13 + 1)) h7))) else (Kn1 (wrap .i64 (t13 + 1)) h7)))
def threshold_Suppressed_l1 (sid_1 : Int) (f_5 : Addr) (t11a : Option Addr) (t11n t11c : Nat) (t12 : Int) (Q : QT) (t13 : Int) (h : Heap) (Kn1 : Int → Heap → Prop) : Prop :=
 if (decide (t13 < t12)) = true then (idxA t13 t11n (nn t11a fun t15 => ldI h (Addr.add t15 ((t13).toNat * 6)) .i64 fun t16_0 => ldI h (Addr.add (Addr.add t15 ((t13).toNat * 6)) 1) .i64 fun t16_1 => ldB h (Addr.add (Addr.add t15 ((t13).toNat * 6)) 2) fun t16_2 => ldI h (Addr.add (Addr.add t15 ((t13).toNat * 6)) 3) .u64 fun t16_3 => ldI h (Addr.add (Addr.add t15 ((t13).toNat * 6)) 4) .u64 fun t16_4 => ldI h (Addr.add (Addr.add t15 ((t13).toNat * 6)) 5) .i64 fun t16_5 => alV h (.cells #[.int .i64 0, .int .i64 0, .bool false, .int .u64 0, .int .u64 0, .int .i64 0] T_api_Suppress) fun t8 h2 => stN h2 t8 [.int .i64 t16_0, .int .i64 t16_1, .bool t16_2, .int .u64 t16_3, .int .u64 t16_4, .int .i64 t16_5] 0 fun h3 => ldI h3 t8 .i64 fun t18 => if (t18 != 0) = true then (ldI h3 t8 .i64 fun t22 => if (t22 != sid_1) = true then (Kn1 (wrap .i64 (t13 + 1)) h3) else (ldB h3 (Addr.add t8 2) fun t28_0 => ldI h3 (Addr.add (Addr.add t8 2) 1) .u64 fun t28_1 => ldI h3 (Addr.add (Addr.add t8 2) 2) .u64 fun t28_2 => ldI h3 (Addr.add (Addr.add t8 2) 3) .i64 fun t28_3 => CallT Try.prog fn_address_ValidPrefix #[.agg #[.bool t28_0, .int .u64 t28_1, .int .u64 t28_2, .int .i64 t28_3]] h3 fun v h4 => ∃ t29 : Bool, v = .bool t29 ∧ if (!t29) = true then (Kn1 (wrap .i64 (t13 + 1)) h4) else (threshold_Suppressed_b2 sid_1 f_5 t8 t11a t11n t11c t12 t13 Q Kn1 h4))) else (ldB h3 (Addr.add t8 2) fun t28_0 => ldI h3 (Addr.add (Addr.add t8 2) 1) .u64 fun t28_1 => ldI h3 (Addr.add (Addr.add t8 2) 2) .u64 fun t28_2 => ldI h3 (Addr.add (Addr.add t8 2) 3) .i64 fun t28_3 => CallT Try.prog fn_address_ValidPrefix #[.agg #[.bool t28_0, .int .u64 t28_1, .int .u64 t28_2, .int .i64 t28_3]] h3 fun v h5 => ∃ t29 : Bool, v = .bool t29 ∧ if (!t29) = true then (Kn1 (wrap .i64 (t13 + 1)) h5) else (threshold_Suppressed_b2 sid_1 f_5 t8 t11a t11n t11c t12 t13 Q Kn1 h5)))) else (Q (.bool false) h)
def threshold_Suppressed_v (l_0a : Option Addr) (l_0n l_0c : Nat) (sid_1 f_2_0 : Int) (f_2_1 : Bool) (f_2_2 f_2_3 : Int) (f_2_4 : Bool) (f_2_5 f_2_6 f_2_7 f_2_8 : Int) (Q : QT) (h : Heap) : Prop :=
 alV h (.cells #[.int .i64 f_2_0, .bool f_2_1, .int .u64 f_2_2, .int .u64 f_2_3, .bool f_2_4, .int .u64 f_2_5, .int .u64 f_2_6, .int .i64 f_2_7, .int .i64 f_2_8] T_api_Flow) fun t5 h1 => LoopV (fun (s : Int) h Kn => threshold_Suppressed_l1 sid_1 t5 l_0a l_0n l_0c ((l_0n : Nat) : Int) Q s h Kn) 0 h1
set_option maxRecDepth 100000 in
theorem threshold_Suppressed_s (l_0a : Option Addr) (l_0n l_0c : Nat) (sid_1 f_2_0 : Int) (f_2_1 : Bool) (f_2_2 f_2_3 : Int) (f_2_4 : Bool) (f_2_5 f_2_6 f_2_7 f_2_8 : Int) {Q : QT} {h : Heap} (hk : threshold_Suppressed_v l_0a l_0n l_0c sid_1 f_2_0 f_2_1 f_2_2 f_2_3 f_2_4 f_2_5 f_2_6 f_2_7 f_2_8 Q h) : CallT Try.prog fn_threshold_Suppressed #[.slice l_0a l_0n l_0c, .int .i64 sid_1, .agg #[.int .i64 f_2_0, .bool f_2_1, .int .u64 f_2_2, .int .u64 f_2_3, .bool f_2_4, .int .u64 f_2_5, .int .u64 f_2_6, .int .i64 f_2_7, .int .i64 f_2_8]] h Q :=
 callU follows Try.func18 (Try.call18 _) rfl rfl [] [(6, fun e h => dI .i64 (e 1) fun sid_1 => dA (e 5) fun f_5 => dL (e 11) fun t11a t11n t11c => dI .i64 (e 12) fun t12 => dI .i64 (e 13) fun t13 => LoopV (fun (s : Int) h Kn => threshold_Suppressed_l1 sid_1 f_5 t11a t11n t11c t12 Q s h Kn) t13 h)]
 trivial
 ⟨⟨by kernel_rfl, fun e h he hk => by
 have F := Ag.nil (e := e)
 have ⟨sid_1, F, hk⟩ := eI F hk
 have ⟨f_5, F, hk⟩ := eA F hk
 have ⟨t11a, t11n, t11c, F, hk⟩ := eL F hk
 have ⟨t12, F, hk⟩ := eI F hk
 have ⟨t13, F, hk⟩ := eI F hk
 exact loopU (s0 := t13) follows (fun _ h => by cases h) he F (fun s => [(13, .int .i64 s)]) (by kernel_rfl) (F.take 1) hk (fun Kn1 e h => dI .i64 (e 13) fun t13 => Kn1 t13 h) (fun Kn1 e h hk => by
  have F := Ag.nil (e := e)
  have ⟨t13, F, hk⟩ := eI F hk
  exact ⟨t13, F, hk⟩)
  (fun Kn1 => [(12, fun e h => dI .i64 (e 1) fun sid_1 => dA (e 5) fun f_5 => dA (e 8) fun x_8 => dL (e 11) fun t11a t11n t11c => dI .i64 (e 12) fun t12 => dI .i64 (e 13) fun t13 => threshold_Suppressed_b2 sid_1 f_5 x_8 t11a t11n t11c t12 t13 Q Kn1 h)]) (fun Kn1 => [])
  (fun Kn1 => ⟨fun e h _ hk => by
 have F := Ag.nil (e := e)
 have ⟨sid_1, F, hk⟩ := eI F hk
 have ⟨f_5, F, hk⟩ := eA F hk
 have ⟨x_8, F, hk⟩ := eA F hk
 have ⟨t11a, t11n, t11c, F, hk⟩ := eL F hk
 have ⟨t12, F, hk⟩ := eI F hk
 have ⟨t13, F, hk⟩ := eI F hk
 exact cutU F (by as_aux_lemma => kernel_rfl) hk, trivial⟩)
  (fun Kn1 => trivial) (fun e s h Kn1 => by as_aux_lemma => kernel_rfl)⟩, trivial⟩ (by as_aux_lemma => kernel_rfl) hk
/-! ### intrusion/intrusionref51.Suppressed -/
def ref51_Suppressed_b3 (l_0a : Option Addr) (l_0n l_0c : Nat) (sid_1 : Int) (f_5 : Addr) (i_7 : Int) (x_8 : Addr) (Q : QT) (Kn1 : Int → Heap → Prop) (h : Heap) : Prop :=
 ldI h (Addr.add x_8 1) .i64 fun t51 => if (t51 == 3) = true then (ldB h (Addr.add x_8 2) fun t55_0 => ldI h (Addr.add (Addr.add x_8 2) 1) .u64 fun t55_1 => ldI h (Addr.add (Addr.add x_8 2) 2) .u64 fun t55_2 => ldI h (Addr.add (Addr.add x_8 2) 3) .i64 fun t55_3 => ldB h (Addr.add f_5 1) fun t57_0 => ldI h (Addr.add (Addr.add f_5 1) 1) .u64 fun t57_1 => ldI h (Addr.add (Addr.add f_5 1) 2) .u64 fun t57_2 => CallT Try.prog fn_ref51_inside #[.agg #[.bool t55_0, .int .u64 t55_1, .int .u64 t55_2, .int .i64 t55_3], .agg #[.bool t57_0, .int .u64 t57_1, .int .u64 t57_2]] h fun v h7 => ∃ t58 : Bool, v = .bool t58 ∧ if t58 = true then (Q (.bool true) h7) else (ldB h7 (Addr.add x_8 2) fun t61_0 => ldI h7 (Addr.add (Addr.add x_8 2) 1) .u64 fun t61_1 => ldI h7 (Addr.add (Addr.add x_8 2) 2) .u64 fun t61_2 => ldI h7 (Addr.add (Addr.add x_8 2) 3) .i64 fun t61_3 => ldB h7 (Addr.add f_5 4) fun t63_0 => ldI h7 (Addr.add (Addr.add f_5 4) 1) .u64 fun t63_1 => ldI h7 (Addr.add (Addr.add f_5 4) 2) .u64 fun t63_2 => CallT Try.prog fn_ref51_inside #[.agg #[.bool t61_0, .int .u64 t61_1, .int .u64 t61_2, .int .i64 t61_3], .agg #[.bool t63_0, .int .u64 t63_1, .int .u64 t63_2]] h7 fun v h8 => ∃ t64 : Bool, v = .bool t64 ∧ if t64 = true then (Q (.bool true) h8) else (Kn1 (wrap .i64 (i_7 + 1)) h8))) else (Kn1 (wrap .i64 (i_7 + 1)) h)
def ref51_Suppressed_b2 (l_0a : Option Addr) (l_0n l_0c : Nat) (sid_1 : Int) (f_5 : Addr) (i_7 : Int) (x_8 : Addr) (Q : QT) (Kn1 : Int → Heap → Prop) (h : Heap) : Prop :=
 ldI h (Addr.add x_8 1) .i64 fun t29 => if (t29 == 1) = true then (ldB h (Addr.add x_8 2) fun t33_0 => ldI h (Addr.add (Addr.add x_8 2) 1) .u64 fun t33_1 => ldI h (Addr.add (Addr.add x_8 2) 2) .u64 fun t33_2 => ldI h (Addr.add (Addr.add x_8 2) 3) .i64 fun t33_3 => ldB h (Addr.add f_5 1) fun t35_0 => ldI h (Addr.add (Addr.add f_5 1) 1) .u64 fun t35_1 => ldI h (Addr.add (Addr.add f_5 1) 2) .u64 fun t35_2 => CallT Try.prog fn_ref51_inside #[.agg #[.bool t33_0, .int .u64 t33_1, .int .u64 t33_2, .int .i64 t33_3], .agg #[.bool t35_0, .int .u64 t35_1, .int .u64 t35_2]] h fun v h4 => ∃ t36 : Bool, v = .bool t36 ∧ if t36 = true then (Q (.bool true) h4) else (ldI h4 (Addr.add x_8 1) .i64 fun t40 => if (t40 == 2) = true then (ldB h4 (Addr.add x_8 2) fun t44_0 => ldI h4 (Addr.add (Addr.add x_8 2) 1) .u64 fun t44_1 => ldI h4 (Addr.add (Addr.add x_8 2) 2) .u64 fun t44_2 => ldI h4 (Addr.add (Addr.add x_8 2) 3) .i64 fun t44_3 => ldB h4 (Addr.add f_5 4) fun t46_0 => ldI h4 (Addr.add (Addr.add f_5 4) 1) .u64 fun t46_1 => ldI h4 (Addr.add (Addr.add f_5 4) 2) .u64 fun t46_2 => CallT Try.prog fn_ref51_inside #[.agg #[.bool t44_0, .int .u64 t44_1, .int .u64 t44_2, .int .i64 t44_3], .agg #[.bool t46_0, .int .u64 t46_1, .int .u64 t46_2]] h4 fun v h5 => ∃ t47 : Bool, v = .bool t47 ∧ if t47 = true then (Q (.bool true) h5) else (ref51_Suppressed_b3 l_0a l_0n l_0c sid_1 f_5 i_7 x_8 Q Kn1 h5)) else (ref51_Suppressed_b3 l_0a l_0n l_0c sid_1 f_5 i_7 x_8 Q Kn1 h4))) else (ldI h (Addr.add x_8 1) .i64 fun t40 => if (t40 == 2) = true then (ldB h (Addr.add x_8 2) fun t44_0 => ldI h (Addr.add (Addr.add x_8 2) 1) .u64 fun t44_1 => ldI h (Addr.add (Addr.add x_8 2) 2) .u64 fun t44_2 => ldI h (Addr.add (Addr.add x_8 2) 3) .i64 fun t44_3 => ldB h (Addr.add f_5 4) fun t46_0 => ldI h (Addr.add (Addr.add f_5 4) 1) .u64 fun t46_1 => ldI h (Addr.add (Addr.add f_5 4) 2) .u64 fun t46_2 => CallT Try.prog fn_ref51_inside #[.agg #[.bool t44_0, .int .u64 t44_1, .int .u64 t44_2, .int .i64 t44_3], .agg #[.bool t46_0, .int .u64 t46_1, .int .u64 t46_2]] h fun v h6 => ∃ t47 : Bool, v = .bool t47 ∧ if t47 = true then (Q (.bool true) h6) else (ref51_Suppressed_b3 l_0a l_0n l_0c sid_1 f_5 i_7 x_8 Q Kn1 h6)) else (ref51_Suppressed_b3 l_0a l_0n l_0c sid_1 f_5 i_7 x_8 Q Kn1 h))
def ref51_Suppressed_l1 (l_0a : Option Addr) (l_0n l_0c : Nat) (sid_1 : Int) (f_5 : Addr) (Q : QT) (i_7 : Int) (h : Heap) (Kn1 : Int → Heap → Prop) : Prop :=
 if (decide (i_7 < ((l_0n : Nat) : Int))) = true then (idxA i_7 l_0n (nn l_0a fun t17 => ldI h (Addr.add t17 ((i_7).toNat * 6)) .i64 fun t18_0 => ldI h (Addr.add (Addr.add t17 ((i_7).toNat * 6)) 1) .i64 fun t18_1 => ldB h (Addr.add (Addr.add t17 ((i_7).toNat * 6)) 2) fun t18_2 => ldI h (Addr.add (Addr.add t17 ((i_7).toNat * 6)) 3) .u64 fun t18_3 => ldI h (Addr.add (Addr.add t17 ((i_7).toNat * 6)) 4) .u64 fun t18_4 => ldI h (Addr.add (Addr.add t17 ((i_7).toNat * 6)) 5) .i64 fun t18_5 => alV h (.cells #[.int .i64 0, .int .i64 0, .bool false, .int .u64 0, .int .u64 0, .int .i64 0] T_api_Suppress) fun t8 h2 => stN h2 t8 [.int .i64 t18_0, .int .i64 t18_1, .bool t18_2, .int .u64 t18_3, .int .u64 t18_4, .int .i64 t18_5] 0 fun h3 => ldI h3 t8 .i64 fun t20 => if (t20 != 0) = true then (ldI h3 t8 .i64 fun t24 => if (t24 != sid_1) = true then (Kn1 (wrap .i64 (i_7 + 1)) h3) else (ref51_Suppressed_b2 l_0a l_0n l_0c sid_1 f_5 i_7 t8 Q Kn1 h3)) else (ref51_Suppressed_b2 l_0a l_0n l_0c sid_1 f_5 i_7 t8 Q Kn1 h3))) else (Q (.bool false) h)
def ref51_Suppressed_v (l_0a : Option Addr) (l_0n l_0c : Nat) (sid_1 f_2_0 : Int) (f_2_1 : Bool) (f_2_2 f_2_3 : Int) (f_2_4 : Bool) (f_2_5 f_2_6 f_2_7 f_2_8 : Int) (Q : QT) (h : Heap) : Prop :=
 alV h (.cells #[.int .i64 f_2_0, .bool f_2_1, .int .u64 f_2_2, .int .u64 f_2_3, .bool f_2_4, .int .u64 f_2_5, .int .u64 f_2_6, .int .i64 f_2_7, .int .i64 f_2_8] T_api_Flow) fun t5 h1 => LoopV (fun (s : Int) h Kn => ref51_Suppressed_l1 l_0a l_0n l_0c sid_1 t5 Q s h Kn) 0 h1
set_option maxRecDepth 100000 in
theorem ref51_Suppressed_s (l_0a : Option Addr) (l_0n l_0c : Nat) (sid_1 f_2_0 : Int) (f_2_1 : Bool) (f_2_2 f_2_3 : Int) (f_2_4 : Bool) (f_2_5 f_2_6 f_2_7 f_2_8 : Int) {Q : QT} {h : Heap} (hk : ref51_Suppressed_v l_0a l_0n l_0c sid_1 f_2_0 f_2_1 f_2_2 f_2_3 f_2_4 f_2_5 f_2_6 f_2_7 f_2_8 Q h) : CallT Try.prog fn_ref51_Suppressed #[.slice l_0a l_0n l_0c, .int .i64 sid_1, .agg #[.int .i64 f_2_0, .bool f_2_1, .int .u64 f_2_2, .int .u64 f_2_3, .bool f_2_4, .int .u64 f_2_5, .int .u64 f_2_6, .int .i64 f_2_7, .int .i64 f_2_8]] h Q :=
 callU follows Try.func19 (Try.call19 _) rfl rfl [] [(6, fun e h => dL (e 0) fun l_0a l_0n l_0c => dI .i64 (e 1) fun sid_1 => dA (e 5) fun f_5 => dI .i64 (e 7) fun i_7 => LoopV (fun (s : Int) h Kn => ref51_Suppressed_l1 l_0a l_0n l_0c sid_1 f_5 Q s h Kn) i_7 h)]
 trivial
 ⟨⟨by kernel_rfl, fun e h he hk => by
 have F := Ag.nil (e := e)
 have ⟨l_0a, l_0n, l_0c, F, hk⟩ := eL F hk
 have ⟨sid_1, F, hk⟩ := eI F hk
 have ⟨f_5, F, hk⟩ := eA F hk
 have ⟨i_7, F, hk⟩ := eI F hk
 exact loopU (s0 := i_7) follows (fun _ h => by cases h) he F (fun s => [(7, .int .i64 s)]) (by kernel_rfl) (F.take 1) hk (fun Kn1 e h => dI .i64 (e 7) fun i_7 => Kn1 i_7 h) (fun Kn1 e h hk => by
  have F := Ag.nil (e := e)
  have ⟨i_7, F, hk⟩ := eI F hk
  exact ⟨i_7, F, hk⟩)
  (fun Kn1 => [(14, fun e h => dL (e 0) fun l_0a l_0n l_0c => dI .i64 (e 1) fun sid_1 => dA (e 5) fun f_5 => dI .i64 (e 7) fun i_7 => dA (e 8) fun x_8 => ref51_Suppressed_b2 l_0a l_0n l_0c sid_1 f_5 i_7 x_8 Q Kn1 h), (18, fun e h => dL (e 0) fun l_0a l_0n l_0c => dI .i64 (e 1) fun sid_1 => dA (e 5) fun f_5 => dI .i64 (e 7) fun i_7 => dA (e 8) fun x_8 => ref51_Suppressed_b3 l_0a l_0n l_0c sid_1 f_5 i_7 x_8 Q Kn1 h)]) (fun Kn1 => [])
  (fun Kn1 => ⟨fun e h _ hk => by
 have F := Ag.nil (e := e)
 have ⟨l_0a, l_0n, l_0c, F, hk⟩ := eL F hk
 have ⟨sid_1, F, hk⟩ := eI F hk
 have ⟨f_5, F, hk⟩ := eA F hk
 have ⟨i_7, F, hk⟩ := eI F hk
 have ⟨x_8, F, hk⟩ := eA F hk
 exact cutU F (by as_aux_lemma => kernel_rfl) hk, fun e h _ hk => by
 have F := Ag.nil (e := e)
 have ⟨l_0a, l_0n, l_0c, F, hk⟩ := eL F hk
 have ⟨sid_1, F, hk⟩ := eI F hk
 have ⟨f_5, F, hk⟩ := eA F hk
 have ⟨i_7, F, hk⟩ := eI F hk
 have ⟨x_8, F, hk⟩ := eA F hk
 exact cutU F (by as_aux_lemma => kernel_rfl) hk, trivial⟩)
  (fun Kn1 => trivial) (fun e s h Kn1 => by as_aux_lemma => kernel_rfl)⟩, trivial⟩ (by as_aux_lemma => kernel_rfl) hk
/-! ### intrusion/threshold.counts -/
def threshold_counts_v (h_0_0 h_0_1 h_0_2 h_0_3 : Int) (Q : QT) (h : Heap) : Prop :=
 alV h (.cells #[.int .i64 h_0_0, .int .i64 h_0_1, .int .i64 h_0_2, .int .i64 h_0_3] T_api_Threshold) fun t1 h1 => ldI h1 t1 .i64 fun t4 => if (decide (t4 ≥ 1)) = true then (ldI h1 t1 .i64 fun t8 => if (decide (t8 ≤ 3)) = true then (ldI h1 (Addr.add t1 1) .i64 fun t13 => CallT Try.prog fn_threshold_by #[.int .i64 t13] h1 fun v h2 => ∃ t14 : Bool, v = .bool t14 ∧ if t14 = true then (ldI h2 (Addr.add t1 2) .i64 fun t18 => if (decide (t18 ≥ 1)) = true then (ldI h2 (Addr.add t1 2) .i64 fun t23 => if (decide (t23 ≤ 65536)) = true then (ldI h2 (Addr.add t1 3) .i64 fun t28 => if (decide (t28 ≥ 1)) = true then (ldI h2 (Addr.add t1 3) .i64 fun t33 => Q (.bool (decide (t33 ≤ 86400))) h2) else (Q (.bool false) h2)) else (Q (.bool false) h2)) else (Q (.bool false) h2)) else (Q (.bool false) h2)) else (Q (.bool false) h1)) else (Q (.bool false) h1)
set_option maxRecDepth 100000 in
theorem threshold_counts_s (h_0_0 h_0_1 h_0_2 h_0_3 : Int) {Q : QT} {h : Heap} (hk : threshold_counts_v h_0_0 h_0_1 h_0_2 h_0_3 Q h) : CallT Try.prog fn_threshold_counts #[.agg #[.int .i64 h_0_0, .int .i64 h_0_1, .int .i64 h_0_2, .int .i64 h_0_3]] h Q :=
 callU follows Try.func20 (Try.call20 _) rfl rfl [] []
 trivial
 trivial (by as_aux_lemma => kernel_rfl) hk
/-! ### intrusion/threshold.keyOf -/
def threshold_keyOf_b1 (t6 k_7 : Addr) (Q : QT) (h : Heap) : Prop :=
 ldI h k_7 .i64 fun t29_0 => ldI h (Addr.add k_7 1) .i64 fun t29_1 => ldI h (Addr.add k_7 2) .i64 fun t29_2 => ldI h (Addr.add k_7 3) .i64 fun t29_3 => ldI h (Addr.add k_7 4) .i64 fun t29_4 => ldB h (Addr.add k_7 5) fun t29_5 => ldI h (Addr.add k_7 6) .u64 fun t29_6 => ldI h (Addr.add k_7 7) .u64 fun t29_7 => ldB h (Addr.add k_7 8) fun t29_8 => ldI h (Addr.add k_7 9) .u64 fun t29_9 => ldI h (Addr.add k_7 10) .u64 fun t29_10 => stN h t6 [.int .i64 t29_0, .int .i64 t29_1, .int .i64 t29_2, .int .i64 t29_3, .int .i64 t29_4, .bool t29_5, .int .u64 t29_6, .int .u64 t29_7, .bool t29_8, .int .u64 t29_9, .int .u64 t29_10] 0 fun h10 => ldI h10 t6 .i64 fun r0_0 => ldI h10 (Addr.add t6 1) .i64 fun r0_1 => ldI h10 (Addr.add t6 2) .i64 fun r0_2 => ldI h10 (Addr.add t6 3) .i64 fun r0_3 => ldI h10 (Addr.add t6 4) .i64 fun r0_4 => ldB h10 (Addr.add t6 5) fun r0_5 => ldI h10 (Addr.add t6 6) .u64 fun r0_6 => ldI h10 (Addr.add t6 7) .u64 fun r0_7 => ldB h10 (Addr.add t6 8) fun r0_8 => ldI h10 (Addr.add t6 9) .u64 fun r0_9 => ldI h10 (Addr.add t6 10) .u64 fun r0_10 => Q (.agg #[.int .i64 r0_0, .int .i64 r0_1, .int .i64 r0_2, .int .i64 r0_3, .int .i64 r0_4, .bool r0_5, .int .u64 r0_6, .int .u64 r0_7, .bool r0_8, .int .u64 r0_9, .int .u64 r0_10]) h10
def threshold_keyOf_v (sid_0 h_1_0 h_1_1 h_1_2 h_1_3 f_2_0 : Int) (f_2_1 : Bool) (f_2_2 f_2_3 : Int) (f_2_4 : Bool) (f_2_5 f_2_6 f_2_7 f_2_8 : Int) (Q : QT) (h : Heap) : Prop :=
 alV h (.cells #[.int .i64 h_1_0, .int .i64 h_1_1, .int .i64 h_1_2, .int .i64 h_1_3] T_api_Threshold) fun t4 h1 => alV h1 (.cells #[.int .i64 f_2_0, .bool f_2_1, .int .u64 f_2_2, .int .u64 f_2_3, .bool f_2_4, .int .u64 f_2_5, .int .u64 f_2_6, .int .i64 f_2_7, .int .i64 f_2_8] T_api_Flow) fun t5 h2 => alV h2 (.cells #[.int .i64 0, .int .i64 0, .int .i64 0, .int .i64 0, .int .i64 0, .bool false, .int .u64 0, .int .u64 0, .bool false, .int .u64 0, .int .u64 0] T_threshold_key) fun t6 h3 => ldI h3 t4 .i64 fun t9_0 => ldI h3 (Addr.add t4 1) .i64 fun t9_1 => ldI h3 (Addr.add t4 2) .i64 fun t9_2 => ldI h3 (Addr.add t4 3) .i64 fun t9_3 => alV h3 (.cells #[.int .i64 0, .int .i64 0, .int .i64 0, .int .i64 0, .int .i64 0, .bool false, .int .u64 0, .int .u64 0, .bool false, .int .u64 0, .int .u64 0] T_threshold_key) fun t7 h4 => stN h4 t7 [.int .i64 sid_0, .int .i64 t9_0, .int .i64 t9_1, .int .i64 t9_2, .int .i64 t9_3, .bool false, .int .u64 0, .int .u64 0, .bool false, .int .u64 0, .int .u64 0] 0 fun h5 => ldI h5 (Addr.add t4 1) .i64 fun t12 => if (t12 == 1) = true then (ldB h5 (Addr.add t5 1) fun t22_0 => ldI h5 (Addr.add (Addr.add t5 1) 1) .u64 fun t22_1 => ldI h5 (Addr.add (Addr.add t5 1) 2) .u64 fun t22_2 => stN h5 (Addr.add t7 5) [.bool t22_0, .int .u64 t22_1, .int .u64 t22_2] 0 fun h6 => threshold_keyOf_b1 t6 t7 Q h6) else (if (t12 == 2) = true then (ldB h5 (Addr.add t5 4) fun t27_0 => ldI h5 (Addr.add (Addr.add t5 4) 1) .u64 fun t27_1 => ldI h5 (Addr.add (Addr.add t5 4) 2) .u64 fun t27_2 => stN h5 (Addr.add t7 8) [.bool t27_0, .int .u64 t27_1, .int .u64 t27_2] 0 fun h7 => threshold_keyOf_b1 t6 t7 Q h7) else (ldB h5 (Addr.add t5 1) fun t14_0 => ldI h5 (Addr.add (Addr.add t5 1) 1) .u64 fun t14_1 => ldI h5 (Addr.add (Addr.add t5 1) 2) .u64 fun t14_2 => ldB h5 (Addr.add t5 4) fun t16_0 => ldI h5 (Addr.add (Addr.add t5 4) 1) .u64 fun t16_1 => ldI h5 (Addr.add (Addr.add t5 4) 2) .u64 fun t16_2 => stN h5 (Addr.add t7 5) [.bool t14_0, .int .u64 t14_1, .int .u64 t14_2] 0 fun h8 => (ldB h8 (Addr.add t5 4) fun t916_0 => ldI h8 (Addr.add (Addr.add t5 4) 1) .u64 fun t916_1 => ldI h8 (Addr.add (Addr.add t5 4) 2) .u64 fun t916_2 => (.agg #[.bool t916_0, .int .u64 t916_1, .int .u64 t916_2] : Value) = .agg #[.bool t16_0, .int .u64 t16_1, .int .u64 t16_2]) ∧ stN h8 (Addr.add t7 8) [.bool t16_0, .int .u64 t16_1, .int .u64 t16_2] 0 fun h9 => threshold_keyOf_b1 t6 t7 Q h9))
set_option maxRecDepth 100000 in
theorem threshold_keyOf_s (sid_0 h_1_0 h_1_1 h_1_2 h_1_3 f_2_0 : Int) (f_2_1 : Bool) (f_2_2 f_2_3 : Int) (f_2_4 : Bool) (f_2_5 f_2_6 f_2_7 f_2_8 : Int) {Q : QT} {h : Heap} (hk : threshold_keyOf_v sid_0 h_1_0 h_1_1 h_1_2 h_1_3 f_2_0 f_2_1 f_2_2 f_2_3 f_2_4 f_2_5 f_2_6 f_2_7 f_2_8 Q h) : CallT Try.prog fn_threshold_keyOf #[.int .i64 sid_0, .agg #[.int .i64 h_1_0, .int .i64 h_1_1, .int .i64 h_1_2, .int .i64 h_1_3], .agg #[.int .i64 f_2_0, .bool f_2_1, .int .u64 f_2_2, .int .u64 f_2_3, .bool f_2_4, .int .u64 f_2_5, .int .u64 f_2_6, .int .i64 f_2_7, .int .i64 f_2_8]] h Q :=
 callU follows Try.func21 (Try.call21 _) rfl rfl [(18, fun e h => dA (e 6) fun t6 => dA (e 7) fun k_7 => threshold_keyOf_b1 t6 k_7 Q h)] []
 ⟨fun e h _ hk => by
 have F := Ag.nil (e := e)
 have ⟨t6, F, hk⟩ := eA F hk
 have ⟨k_7, F, hk⟩ := eA F hk
 exact cutU F (by as_aux_lemma => kernel_rfl) hk, trivial⟩
 trivial (by as_aux_lemma => kernel_rfl) hk
/-! ### (*intrusion/threshold.Table).first -/
def threshold_Table_first_b3 (t2 out_3 k_5 : Addr) (c_6 : Option Addr) (t11 : Addr) (Q : QT) (Kn1 : (Option Addr) → Heap → Prop) (h : Heap) : Prop :=
 ldI h k_5 .i64 fun t47_0 => ldI h (Addr.add k_5 1) .i64 fun t47_1 => ldI h (Addr.add k_5 2) .i64 fun t47_2 => ldI h (Addr.add k_5 3) .i64 fun t47_3 => ldI h (Addr.add k_5 4) .i64 fun t47_4 => ldB h (Addr.add k_5 5) fun t47_5 => ldI h (Addr.add k_5 6) .u64 fun t47_6 => ldI h (Addr.add k_5 7) .u64 fun t47_7 => ldB h (Addr.add k_5 8) fun t47_8 => ldI h (Addr.add k_5 9) .u64 fun t47_9 => ldI h (Addr.add k_5 10) .u64 fun t47_10 => stN h out_3 [.int .i64 t47_0, .int .i64 t47_1, .int .i64 t47_2, .int .i64 t47_3, .int .i64 t47_4, .bool t47_5, .int .u64 t47_6, .int .u64 t47_7, .bool t47_8, .int .u64 t47_9, .int .u64 t47_10] 0 fun h9 => Kn1 c_6 h9
def threshold_Table_first_b2 (t2 out_3 : Addr) (Q : QT) (h : Heap) : Prop :=
 ldI h out_3 .i64 fun t49_0 => ldI h (Addr.add out_3 1) .i64 fun t49_1 => ldI h (Addr.add out_3 2) .i64 fun t49_2 => ldI h (Addr.add out_3 3) .i64 fun t49_3 => ldI h (Addr.add out_3 4) .i64 fun t49_4 => ldB h (Addr.add out_3 5) fun t49_5 => ldI h (Addr.add out_3 6) .u64 fun t49_6 => ldI h (Addr.add out_3 7) .u64 fun t49_7 => ldB h (Addr.add out_3 8) fun t49_8 => ldI h (Addr.add out_3 9) .u64 fun t49_9 => ldI h (Addr.add out_3 10) .u64 fun t49_10 => stN h t2 [.int .i64 t49_0, .int .i64 t49_1, .int .i64 t49_2, .int .i64 t49_3, .int .i64 t49_4, .bool t49_5, .int .u64 t49_6, .int .u64 t49_7, .bool t49_8, .int .u64 t49_9, .int .u64 t49_10] 0 fun h10 => ldI h10 t2 .i64 fun r0_0 => ldI h10 (Addr.add t2 1) .i64 fun r0_1 => ldI h10 (Addr.add t2 2) .i64 fun r0_2 => ldI h10 (Addr.add t2 3) .i64 fun r0_3 => ldI h10 (Addr.add t2 4) .i64 fun r0_4 => ldB h10 (Addr.add t2 5) fun r0_5 => ldI h10 (Addr.add t2 6) .u64 fun r0_6 => ldI h10 (Addr.add t2 7) .u64 fun r0_7 => ldB h10 (Addr.add t2 8) fun r0_8 => ldI h10 (Addr.add t2 9) .u64 fun r0_9 => ldI h10 (Addr.add t2 10) .u64 fun r0_10 => Q (.agg #[.int .i64 r0_0, .int .i64 r0_1, .int .i64 r0_2, .int .i64 r0_3, .int .i64 r0_4, .bool r0_5, .int .u64 r0_6, .int .u64 r0_7, .bool r0_8, .int .u64 r0_9, .int .u64 r0_10]) h10
def threshold_Table_first_l1 (t2 out_3 t11 : Addr) (Q : QT) (least_4 : Option Addr) (h : Heap) (Kn1 : (Option Addr) → Heap → Prop) : Prop :=
 nextV Try.prog (.pointer (some t11)) false T_t h fun v h4 => (v = .tuple #[.bool false] → threshold_Table_first_b2 t2 out_3 Q h4) ∧ (v ≠ .tuple #[.bool false] → ∃ t12k t12x : Value, v = .tuple #[.bool true, t12k, t12x] ∧ entryV Try.prog (.pointer (some t11)) h4 fun v h5 => ∃ t14k t14x : Value, v = .tuple #[t14k, t14x] ∧ dG t14k fun lt15_1 => dC lt15_1 fun vt15_2 lt15_2 => dI .i64 vt15_2 fun t15_0 => dC lt15_2 fun vt15_3 lt15_3 => dI .i64 vt15_3 fun t15_1 => dC lt15_3 fun vt15_4 lt15_4 => dI .i64 vt15_4 fun t15_2 => dC lt15_4 fun vt15_5 lt15_5 => dI .i64 vt15_5 fun t15_3 => dC lt15_5 fun vt15_6 lt15_6 => dI .i64 vt15_6 fun t15_4 => dC lt15_6 fun vt15_7 lt15_7 => dB vt15_7 fun t15_5 => dC lt15_7 fun vt15_8 lt15_8 => dI .u64 vt15_8 fun t15_6 => dC lt15_8 fun vt15_9 lt15_9 => dI .u64 vt15_9 fun t15_7 => dC lt15_9 fun vt15_10 lt15_10 => dB vt15_10 fun t15_8 => dC lt15_10 fun vt15_11 lt15_11 => dI .u64 vt15_11 fun t15_9 => dC lt15_11 fun vt15_12 lt15_12 => dI .u64 vt15_12 fun t15_10 => dE lt15_12 (dP t14x fun t16 => alV h5 (.cells #[.int .i64 0, .int .i64 0, .int .i64 0, .int .i64 0, .int .i64 0, .bool false, .int .u64 0, .int .u64 0, .bool false, .int .u64 0, .int .u64 0] T_threshold_key) fun t5 h6 => stN h6 t5 [.int .i64 t15_0, .int .i64 t15_1, .int .i64 t15_2, .int .i64 t15_3, .int .i64 t15_4, .bool t15_5, .int .u64 t15_6, .int .u64 t15_7, .bool t15_8, .int .u64 t15_9, .int .u64 t15_10] 0 fun h7 => if (Option.isNone least_4) = true then (threshold_Table_first_b3 t2 out_3 t5 t16 t11 Q Kn1 h7) else (nn t16 fun t21 => ldI h7 t21 .i64 fun t23 => nn least_4 fun t25 => ldI h7 t25 .i64 fun t27 => if (decide (t23 < t27)) = true then (threshold_Table_first_b3 t2 out_3 t5 t16 t11 Q Kn1 h7) else (nn t16 fun t32 => ldI h7 t32 .i64 fun t34 => nn least_4 fun t36 => ldI h7 t36 .i64 fun t38 => if (t34 == t38) = true then (ldI h7 t5 .i64 fun t41_0 => ldI h7 (Addr.add t5 1) .i64 fun t41_1 => ldI h7 (Addr.add t5 2) .i64 fun t41_2 => ldI h7 (Addr.add t5 3) .i64 fun t41_3 => ldI h7 (Addr.add t5 4) .i64 fun t41_4 => ldB h7 (Addr.add t5 5) fun t41_5 => ldI h7 (Addr.add t5 6) .u64 fun t41_6 => ldI h7 (Addr.add t5 7) .u64 fun t41_7 => ldB h7 (Addr.add t5 8) fun t41_8 => ldI h7 (Addr.add t5 9) .u64 fun t41_9 => ldI h7 (Addr.add t5 10) .u64 fun t41_10 => ldI h7 out_3 .i64 fun t42_0 => ldI h7 (Addr.add out_3 1) .i64 fun t42_1 => ldI h7 (Addr.add out_3 2) .i64 fun t42_2 => ldI h7 (Addr.add out_3 3) .i64 fun t42_3 => ldI h7 (Addr.add out_3 4) .i64 fun t42_4 => ldB h7 (Addr.add out_3 5) fun t42_5 => ldI h7 (Addr.add out_3 6) .u64 fun t42_6 => ldI h7 (Addr.add out_3 7) .u64 fun t42_7 => ldB h7 (Addr.add out_3 8) fun t42_8 => ldI h7 (Addr.add out_3 9) .u64 fun t42_9 => ldI h7 (Addr.add out_3 10) .u64 fun t42_10 => CallT Try.prog fn_threshold_key_compare #[.agg #[.int .i64 t41_0, .int .i64 t41_1, .int .i64 t41_2, .int .i64 t41_3, .int .i64 t41_4, .bool t41_5, .int .u64 t41_6, .int .u64 t41_7, .bool t41_8, .int .u64 t41_9, .int .u64 t41_10], .agg #[.int .i64 t42_0, .int .i64 t42_1, .int .i64 t42_2, .int .i64 t42_3, .int .i64 t42_4, .bool t42_5, .int .u64 t42_6, .int .u64 t42_7, .bool t42_8, .int .u64 t42_9, .int .u64 t42_10]] h7 fun v h8 => ∃ t43 : Int, v = .int .i64 t43 ∧ if (decide (t43 < 0)) = true then (threshold_Table_first_b3 t2 out_3 t5 t16 t11 Q Kn1 h8) else (Kn1 least_4 h8)) else (Kn1 least_4 h7)))))
def threshold_Table_first_v (t_0 : Option Addr) (Q : QT) (h : Heap) : Prop :=
 alV h (.cells #[.int .i64 0, .int .i64 0, .int .i64 0, .int .i64 0, .int .i64 0, .bool false, .int .u64 0, .int .u64 0, .bool false, .int .u64 0, .int .u64 0] T_threshold_key) fun t2 h1 => alV h1 (.cells #[.int .i64 0, .int .i64 0, .int .i64 0, .int .i64 0, .int .i64 0, .bool false, .int .u64 0, .int .u64 0, .bool false, .int .u64 0, .int .u64 0] T_threshold_key) fun t3 h2 => nn t_0 fun t8 => ldM h2 (Addr.add t8 1) fun t10 => rangeV Try.prog T_map_threshold_key_p_threshold_counter (.map t10) h2 fun v h3 => ∃ t11 : Nat, v = Value.pointer (some ⟨t11, 0, none⟩) ∧ LoopV (fun (s : (Option Addr)) h Kn => threshold_Table_first_l1 t2 t3 (⟨t11, 0, none⟩ : Addr) Q s h Kn) none h3
set_option maxRecDepth 100000 in
theorem threshold_Table_first_s (t_0 : Option Addr) {Q : QT} {h : Heap} (hk : threshold_Table_first_v t_0 Q h) : CallT Try.prog fn_threshold_Table_first #[.pointer t_0] h Q :=
 callU follows Try.func22 (Try.call22 _) rfl rfl [(18, fun e h => dA (e 2) fun t2 => dA (e 3) fun out_3 => threshold_Table_first_b2 t2 out_3 Q h)] [(10, fun e h => dA (e 2) fun t2 => dA (e 3) fun out_3 => dA (e 11) fun t11 => dP (e 4) fun least_4 => LoopV (fun (s : (Option Addr)) h Kn => threshold_Table_first_l1 t2 out_3 t11 Q s h Kn) least_4 h)]
 ⟨fun e h _ hk => by
 have F := Ag.nil (e := e)
 have ⟨t2, F, hk⟩ := eA F hk
 have ⟨out_3, F, hk⟩ := eA F hk
 exact cutU F (by as_aux_lemma => kernel_rfl) hk, trivial⟩
 ⟨⟨by kernel_rfl, fun e h he hk => by
 have F := Ag.nil (e := e)
 have ⟨t2, F, hk⟩ := eA F hk
 have ⟨out_3, F, hk⟩ := eA F hk
 have ⟨t11, F, hk⟩ := eA F hk
 have ⟨least_4, F, hk⟩ := eP F hk
 exact loopU (s0 := least_4) follows (fun _ h => by cases h) he F (fun s => [(4, .pointer s)]) (by kernel_rfl) (F.take 1) hk (fun Kn1 e h => dP (e 4) fun least_4 => Kn1 least_4 h) (fun Kn1 e h hk => by
  have F := Ag.nil (e := e)
  have ⟨least_4, F, hk⟩ := eP F hk
  exact ⟨least_4, F, hk⟩)
  (fun Kn1 => [(17, fun e h => dA (e 2) fun t2 => dA (e 3) fun out_3 => dA (e 5) fun k_5 => dP (e 6) fun c_6 => dA (e 11) fun t11 => threshold_Table_first_b3 t2 out_3 k_5 c_6 t11 Q Kn1 h)]) (fun Kn1 => [])
  (fun Kn1 => ⟨fun e h _ hk => by
 have F := Ag.nil (e := e)
 have ⟨t2, F, hk⟩ := eA F hk
 have ⟨out_3, F, hk⟩ := eA F hk
 have ⟨k_5, F, hk⟩ := eA F hk
 have ⟨c_6, F, hk⟩ := eP F hk
 have ⟨t11, F, hk⟩ := eA F hk
 exact cutU F (by as_aux_lemma => kernel_rfl) hk, trivial⟩)
  (fun Kn1 => trivial) (fun e s h Kn1 => by as_aux_lemma => kernel_rfl)⟩, trivial⟩ (by as_aux_lemma => kernel_rfl) hk
/-! ### intrusion/intrusionref51.Counts -/
def ref51_Counts_v (h_0_0 h_0_1 h_0_2 h_0_3 : Int) (Q : QT) (h : Heap) : Prop :=
 alV h (.cells #[.int .i64 h_0_0, .int .i64 h_0_1, .int .i64 h_0_2, .int .i64 h_0_3] T_api_Threshold) fun t1 h1 => ldI h1 t1 .i64 fun t4 => if (decide (t4 ≥ 1)) = true then (ldI h1 t1 .i64 fun t8 => if (decide (t8 ≤ 3)) = true then (ldI h1 (Addr.add t1 1) .i64 fun t13 => if (decide (t13 ≥ 1)) = true then (ldI h1 (Addr.add t1 1) .i64 fun t18 => if (decide (t18 ≤ 3)) = true then (ldI h1 (Addr.add t1 2) .i64 fun t23 => if (decide (t23 ≥ 1)) = true then (ldI h1 (Addr.add t1 2) .i64 fun t28 => if (decide (t28 ≤ 65536)) = true then (ldI h1 (Addr.add t1 3) .i64 fun t33 => if (decide (t33 ≥ 1)) = true then (ldI h1 (Addr.add t1 3) .i64 fun t38 => Q (.bool (decide (t38 ≤ 86400))) h1) else (Q (.bool false) h1)) else (Q (.bool false) h1)) else (Q (.bool false) h1)) else (Q (.bool false) h1)) else (Q (.bool false) h1)) else (Q (.bool false) h1)) else (Q (.bool false) h1)
set_option maxRecDepth 100000 in
theorem ref51_Counts_s (h_0_0 h_0_1 h_0_2 h_0_3 : Int) {Q : QT} {h : Heap} (hk : ref51_Counts_v h_0_0 h_0_1 h_0_2 h_0_3 Q h) : CallT Try.prog fn_ref51_Counts #[.agg #[.int .i64 h_0_0, .int .i64 h_0_1, .int .i64 h_0_2, .int .i64 h_0_3]] h Q :=
 callU follows Try.func23 (Try.call23 _) rfl rfl [] []
 trivial
 trivial (by as_aux_lemma => kernel_rfl) hk
/-! ### intrusion/intrusionref51.KeyOf -/
def ref51_KeyOf_b2 (t6 k_7 : Addr) (Q : QT) (h : Heap) : Prop :=
 ldI h k_7 .i64 fun t25_0 => ldI h (Addr.add k_7 1) .i64 fun t25_1 => ldI h (Addr.add k_7 2) .i64 fun t25_2 => ldI h (Addr.add k_7 3) .i64 fun t25_3 => ldI h (Addr.add k_7 4) .i64 fun t25_4 => ldB h (Addr.add k_7 5) fun t25_5 => ldI h (Addr.add k_7 6) .u64 fun t25_6 => ldI h (Addr.add k_7 7) .u64 fun t25_7 => ldB h (Addr.add k_7 8) fun t25_8 => ldI h (Addr.add k_7 9) .u64 fun t25_9 => ldI h (Addr.add k_7 10) .u64 fun t25_10 => stN h t6 [.int .i64 t25_0, .int .i64 t25_1, .int .i64 t25_2, .int .i64 t25_3, .int .i64 t25_4, .bool t25_5, .int .u64 t25_6, .int .u64 t25_7, .bool t25_8, .int .u64 t25_9, .int .u64 t25_10] 0 fun h8 => ldI h8 t6 .i64 fun r0_0 => ldI h8 (Addr.add t6 1) .i64 fun r0_1 => ldI h8 (Addr.add t6 2) .i64 fun r0_2 => ldI h8 (Addr.add t6 3) .i64 fun r0_3 => ldI h8 (Addr.add t6 4) .i64 fun r0_4 => ldB h8 (Addr.add t6 5) fun r0_5 => ldI h8 (Addr.add t6 6) .u64 fun r0_6 => ldI h8 (Addr.add t6 7) .u64 fun r0_7 => ldB h8 (Addr.add t6 8) fun r0_8 => ldI h8 (Addr.add t6 9) .u64 fun r0_9 => ldI h8 (Addr.add t6 10) .u64 fun r0_10 => Q (.agg #[.int .i64 r0_0, .int .i64 r0_1, .int .i64 r0_2, .int .i64 r0_3, .int .i64 r0_4, .bool r0_5, .int .u64 r0_6, .int .u64 r0_7, .bool r0_8, .int .u64 r0_9, .int .u64 r0_10]) h8
def ref51_KeyOf_b1 (h_4 t6 k_7 : Addr) (Q : QT) (h : Heap) : Prop :=
 ldI h (Addr.add h_4 1) .i64 fun t21 => if (t21 == 2) = true then (stN h (Addr.add k_7 5) [.bool false, .int .u64 0, .int .u64 0] 0 fun h7 => ref51_KeyOf_b2 t6 k_7 Q h7) else (ref51_KeyOf_b2 t6 k_7 Q h)
def ref51_KeyOf_v (sid_0 h_1_0 h_1_1 h_1_2 h_1_3 f_2_0 : Int) (f_2_1 : Bool) (f_2_2 f_2_3 : Int) (f_2_4 : Bool) (f_2_5 f_2_6 f_2_7 f_2_8 : Int) (Q : QT) (h : Heap) : Prop :=
 alV h (.cells #[.int .i64 h_1_0, .int .i64 h_1_1, .int .i64 h_1_2, .int .i64 h_1_3] T_api_Threshold) fun t4 h1 => alV h1 (.cells #[.int .i64 f_2_0, .bool f_2_1, .int .u64 f_2_2, .int .u64 f_2_3, .bool f_2_4, .int .u64 f_2_5, .int .u64 f_2_6, .int .i64 f_2_7, .int .i64 f_2_8] T_api_Flow) fun t5 h2 => alV h2 (.cells #[.int .i64 0, .int .i64 0, .int .i64 0, .int .i64 0, .int .i64 0, .bool false, .int .u64 0, .int .u64 0, .bool false, .int .u64 0, .int .u64 0] T_intrusionref51_Key) fun t6 h3 => ldI h3 t4 .i64 fun t9_0 => ldI h3 (Addr.add t4 1) .i64 fun t9_1 => ldI h3 (Addr.add t4 2) .i64 fun t9_2 => ldI h3 (Addr.add t4 3) .i64 fun t9_3 => ldB h3 (Addr.add t5 1) fun t11_0 => ldI h3 (Addr.add (Addr.add t5 1) 1) .u64 fun t11_1 => ldI h3 (Addr.add (Addr.add t5 1) 2) .u64 fun t11_2 => ldB h3 (Addr.add t5 4) fun t13_0 => ldI h3 (Addr.add (Addr.add t5 4) 1) .u64 fun t13_1 => ldI h3 (Addr.add (Addr.add t5 4) 2) .u64 fun t13_2 => alV h3 (.cells #[.int .i64 0, .int .i64 0, .int .i64 0, .int .i64 0, .int .i64 0, .bool false, .int .u64 0, .int .u64 0, .bool false, .int .u64 0, .int .u64 0] T_intrusionref51_Key) fun t7 h4 => stN h4 t7 [.int .i64 sid_0, .int .i64 t9_0, .int .i64 t9_1, .int .i64 t9_2, .int .i64 t9_3, .bool t11_0, .int .u64 t11_1, .int .u64 t11_2, .bool t13_0, .int .u64 t13_1, .int .u64 t13_2] 0 fun h5 => ldI h5 (Addr.add t4 1) .i64 fun t16 => if (t16 == 1) = true then (stN h5 (Addr.add t7 8) [.bool false, .int .u64 0, .int .u64 0] 0 fun h6 => ref51_KeyOf_b1 t4 t6 t7 Q h6) else (ref51_KeyOf_b1 t4 t6 t7 Q h5)
set_option maxRecDepth 100000 in
theorem ref51_KeyOf_s (sid_0 h_1_0 h_1_1 h_1_2 h_1_3 f_2_0 : Int) (f_2_1 : Bool) (f_2_2 f_2_3 : Int) (f_2_4 : Bool) (f_2_5 f_2_6 f_2_7 f_2_8 : Int) {Q : QT} {h : Heap} (hk : ref51_KeyOf_v sid_0 h_1_0 h_1_1 h_1_2 h_1_3 f_2_0 f_2_1 f_2_2 f_2_3 f_2_4 f_2_5 f_2_6 f_2_7 f_2_8 Q h) : CallT Try.prog fn_ref51_KeyOf #[.int .i64 sid_0, .agg #[.int .i64 h_1_0, .int .i64 h_1_1, .int .i64 h_1_2, .int .i64 h_1_3], .agg #[.int .i64 f_2_0, .bool f_2_1, .int .u64 f_2_2, .int .u64 f_2_3, .bool f_2_4, .int .u64 f_2_5, .int .u64 f_2_6, .int .i64 f_2_7, .int .i64 f_2_8]] h Q :=
 callU follows Try.func24 (Try.call24 _) rfl rfl [(10, fun e h => dA (e 4) fun h_4 => dA (e 6) fun t6 => dA (e 7) fun k_7 => ref51_KeyOf_b1 h_4 t6 k_7 Q h), (14, fun e h => dA (e 6) fun t6 => dA (e 7) fun k_7 => ref51_KeyOf_b2 t6 k_7 Q h)] []
 ⟨fun e h _ hk => by
 have F := Ag.nil (e := e)
 have ⟨h_4, F, hk⟩ := eA F hk
 have ⟨t6, F, hk⟩ := eA F hk
 have ⟨k_7, F, hk⟩ := eA F hk
 exact cutU F (by as_aux_lemma => kernel_rfl) hk, fun e h _ hk => by
 have F := Ag.nil (e := e)
 have ⟨t6, F, hk⟩ := eA F hk
 have ⟨k_7, F, hk⟩ := eA F hk
 exact cutU F (by as_aux_lemma => kernel_rfl) hk, trivial⟩
 trivial (by as_aux_lemma => kernel_rfl) hk
/-! ### intrusion/intrusionref51.less -/
def ref51_less_v (a_0_0 a_0_1 a_0_2 a_0_3 a_0_4 : Int) (a_0_5 : Bool) (a_0_6 a_0_7 : Int) (a_0_8 : Bool) (a_0_9 a_0_10 b_1_0 b_1_1 b_1_2 b_1_3 b_1_4 : Int) (b_1_5 : Bool) (b_1_6 b_1_7 : Int) (b_1_8 : Bool) (b_1_9 b_1_10 : Int) (Q : QT) (h : Heap) : Prop :=
 alV h (.cells #[.int .i64 a_0_0, .int .i64 a_0_1, .int .i64 a_0_2, .int .i64 a_0_3, .int .i64 a_0_4, .bool a_0_5, .int .u64 a_0_6, .int .u64 a_0_7, .bool a_0_8, .int .u64 a_0_9, .int .u64 a_0_10] T_intrusionref51_Key) fun t2 h1 => alV h1 (.cells #[.int .i64 b_1_0, .int .i64 b_1_1, .int .i64 b_1_2, .int .i64 b_1_3, .int .i64 b_1_4, .bool b_1_5, .int .u64 b_1_6, .int .u64 b_1_7, .bool b_1_8, .int .u64 b_1_9, .int .u64 b_1_10] T_intrusionref51_Key) fun t3 h2 => ldI h2 t2 .i64 fun t6 => ldI h2 t3 .i64 fun t8 => if (t6 != t8) = true then (ldI h2 t2 .i64 fun t11 => ldI h2 t3 .i64 fun t13 => Q (.bool (decide (t11 < t13))) h2) else (ldB h2 (Addr.add t2 5) fun t16_0 => ldI h2 (Addr.add (Addr.add t2 5) 1) .u64 fun t16_1 => ldI h2 (Addr.add (Addr.add t2 5) 2) .u64 fun t16_2 => ldB h2 (Addr.add t3 5) fun t18_0 => ldI h2 (Addr.add (Addr.add t3 5) 1) .u64 fun t18_1 => ldI h2 (Addr.add (Addr.add t3 5) 2) .u64 fun t18_2 => if (!((t16_0 == t18_0) && ((t16_1 == t18_1) && ((t16_2 == t18_2) && true)))) = true then (ldB h2 (Addr.add t2 5) fun t21_0 => ldI h2 (Addr.add (Addr.add t2 5) 1) .u64 fun t21_1 => ldI h2 (Addr.add (Addr.add t2 5) 2) .u64 fun t21_2 => ldB h2 (Addr.add t3 5) fun t23_0 => ldI h2 (Addr.add (Addr.add t3 5) 1) .u64 fun t23_1 => ldI h2 (Addr.add (Addr.add t3 5) 2) .u64 fun t23_2 => CallT Try.prog fn_ref07_Before #[.agg #[.bool t21_0, .int .u64 t21_1, .int .u64 t21_2], .agg #[.bool t23_0, .int .u64 t23_1, .int .u64 t23_2]] h2 fun v h3 => ∃ t24 : Bool, v = .bool t24 ∧ Q (.bool t24) h3) else (ldB h2 (Addr.add t2 8) fun t26_0 => ldI h2 (Addr.add (Addr.add t2 8) 1) .u64 fun t26_1 => ldI h2 (Addr.add (Addr.add t2 8) 2) .u64 fun t26_2 => ldB h2 (Addr.add t3 8) fun t28_0 => ldI h2 (Addr.add (Addr.add t3 8) 1) .u64 fun t28_1 => ldI h2 (Addr.add (Addr.add t3 8) 2) .u64 fun t28_2 => if (!((t26_0 == t28_0) && ((t26_1 == t28_1) && ((t26_2 == t28_2) && true)))) = true then (ldB h2 (Addr.add t2 8) fun t31_0 => ldI h2 (Addr.add (Addr.add t2 8) 1) .u64 fun t31_1 => ldI h2 (Addr.add (Addr.add t2 8) 2) .u64 fun t31_2 => ldB h2 (Addr.add t3 8) fun t33_0 => ldI h2 (Addr.add (Addr.add t3 8) 1) .u64 fun t33_1 => ldI h2 (Addr.add (Addr.add t3 8) 2) .u64 fun t33_2 => CallT Try.prog fn_ref07_Before #[.agg #[.bool t31_0, .int .u64 t31_1, .int .u64 t31_2], .agg #[.bool t33_0, .int .u64 t33_1, .int .u64 t33_2]] h2 fun v h4 => ∃ t34 : Bool, v = .bool t34 ∧ Q (.bool t34) h4) else (ldI h2 (Addr.add t2 1) .i64 fun t37 => ldI h2 (Addr.add t3 1) .i64 fun t40 => if (t37 != t40) = true then (ldI h2 (Addr.add t2 1) .i64 fun t44 => ldI h2 (Addr.add t3 1) .i64 fun t47 => Q (.bool (decide (t44 < t47))) h2) else (ldI h2 (Addr.add (Addr.add t2 1) 1) .i64 fun t51 => ldI h2 (Addr.add (Addr.add t3 1) 1) .i64 fun t54 => if (t51 != t54) = true then (ldI h2 (Addr.add (Addr.add t2 1) 1) .i64 fun t58 => ldI h2 (Addr.add (Addr.add t3 1) 1) .i64 fun t61 => Q (.bool (decide (t58 < t61))) h2) else (ldI h2 (Addr.add (Addr.add t2 1) 2) .i64 fun t65 => ldI h2 (Addr.add (Addr.add t3 1) 2) .i64 fun t68 => if (t65 != t68) = true then (ldI h2 (Addr.add (Addr.add t2 1) 2) .i64 fun t72 => ldI h2 (Addr.add (Addr.add t3 1) 2) .i64 fun t75 => Q (.bool (decide (t72 < t75))) h2) else (ldI h2 (Addr.add (Addr.add t2 1) 3) .i64 fun t79 => ldI h2 (Addr.add (Addr.add t3 1) 3) .i64 fun t82 => Q (.bool (decide (t79 < t82))) h2))))))
set_option maxRecDepth 100000 in
theorem ref51_less_s (a_0_0 a_0_1 a_0_2 a_0_3 a_0_4 : Int) (a_0_5 : Bool) (a_0_6 a_0_7 : Int) (a_0_8 : Bool) (a_0_9 a_0_10 b_1_0 b_1_1 b_1_2 b_1_3 b_1_4 : Int) (b_1_5 : Bool) (b_1_6 b_1_7 : Int) (b_1_8 : Bool) (b_1_9 b_1_10 : Int) {Q : QT} {h : Heap} (hk : ref51_less_v a_0_0 a_0_1 a_0_2 a_0_3 a_0_4 a_0_5 a_0_6 a_0_7 a_0_8 a_0_9 a_0_10 b_1_0 b_1_1 b_1_2 b_1_3 b_1_4 b_1_5 b_1_6 b_1_7 b_1_8 b_1_9 b_1_10 Q h) : CallT Try.prog fn_ref51_less #[.agg #[.int .i64 a_0_0, .int .i64 a_0_1, .int .i64 a_0_2, .int .i64 a_0_3, .int .i64 a_0_4, .bool a_0_5, .int .u64 a_0_6, .int .u64 a_0_7, .bool a_0_8, .int .u64 a_0_9, .int .u64 a_0_10], .agg #[.int .i64 b_1_0, .int .i64 b_1_1, .int .i64 b_1_2, .int .i64 b_1_3, .int .i64 b_1_4, .bool b_1_5, .int .u64 b_1_6, .int .u64 b_1_7, .bool b_1_8, .int .u64 b_1_9, .int .u64 b_1_10]] h Q :=
 callU follows Try.func25 (Try.call25 _) rfl rfl [] []
 trivial
 trivial (by as_aux_lemma => kernel_rfl) hk
/-! ### slices.ContainsFunc[[]intrusion/api.Rule,intrusion/api.Rule] -/
def slices_ContainsFunc_api_Rule_api_Rule_v (s_0a : Option Addr) (s_0n s_0c : Nat) (f_1 : Value) (Q : QT) (h : Heap) : Prop :=
 CallT Try.prog fn_slices_IndexFunc_api_Rule_api_Rule #[.slice s_0a s_0n s_0c, f_1] h fun v h1 => ∃ t7 : Int, v = .int .i64 t7 ∧ Q (.bool (decide (t7 ≥ 0))) h1
set_option maxRecDepth 100000 in
theorem slices_ContainsFunc_api_Rule_api_Rule_s (s_0a : Option Addr) (s_0n s_0c : Nat) (f_1 : Value) {Q : QT} {h : Heap} (hk : slices_ContainsFunc_api_Rule_api_Rule_v s_0a s_0n s_0c f_1 Q h) : CallT Try.prog fn_slices_ContainsFunc_api_Rule_api_Rule #[.slice s_0a s_0n s_0c, f_1] h Q :=
 callU follows Try.func26 (Try.call26 _) rfl rfl [] []
 trivial
 trivial (by as_aux_lemma => kernel_rfl) hk
/-! ### (*intrusion/threshold.Table).Keep$1 -/
def threshold_Table_Keep_1_v (r_0_0 r_0_1 : Int) (r_0_2a : Option Addr) (r_0_2n r_0_2c : Nat) (r_0_3a : Option Addr) (r_0_3n r_0_3c : Nat) (r_0_4a : Option Addr) (r_0_4n r_0_4c : Nat) (r_0_5a : Option Addr) (r_0_5n r_0_5c : Nat) (r_0_6 : Bool) (r_0_7 r_0_8 r_0_9 : Int) (r_0_10 : ByteArray) (r_0_11 r_0_12 : Int) (r_0_13a : Option Addr) (r_0_13n r_0_13c : Nat) (r_0_14a : Option Addr) (r_0_14n r_0_14c : Nat) (r_0_15a : Option Addr) (r_0_15n r_0_15c : Nat) (r_0_16a : Option Addr) (r_0_16n r_0_16c : Nat) (r_0_17 r_0_18 r_0_19 r_0_20 : Int) (t1 : Addr) (Q : QT) (h : Heap) : Prop :=
 alV h (.cells #[.int .i64 r_0_0, .int .i64 r_0_1, .slice r_0_2a r_0_2n r_0_2c, .slice r_0_3a r_0_3n r_0_3c, .slice r_0_4a r_0_4n r_0_4c, .slice r_0_5a r_0_5n r_0_5c, .bool r_0_6, .int .i64 r_0_7, .int .i64 r_0_8, .int .i64 r_0_9, .string r_0_10, .int .i64 r_0_11, .int .i64 r_0_12, .slice r_0_13a r_0_13n r_0_13c, .slice r_0_14a r_0_14n r_0_14c, .slice r_0_15a r_0_15n r_0_15c, .slice r_0_16a r_0_16n r_0_16c, .int .i64 r_0_17, .int .i64 r_0_18, .int .i64 r_0_19, .int .i64 r_0_20] T_api_Rule) fun t2 h1 => ldI h1 (Addr.add t2 7) .i64 fun t5 => ldI h1 t1 .i64 fun t7 => if (t5 == t7) = true then (ldI h1 (Addr.add t2 17) .i64 fun t11_0 => ldI h1 (Addr.add (Addr.add t2 17) 1) .i64 fun t11_1 => ldI h1 (Addr.add (Addr.add t2 17) 2) .i64 fun t11_2 => ldI h1 (Addr.add (Addr.add t2 17) 3) .i64 fun t11_3 => ldI h1 (Addr.add t1 1) .i64 fun t13_0 => ldI h1 (Addr.add (Addr.add t1 1) 1) .i64 fun t13_1 => ldI h1 (Addr.add (Addr.add t1 1) 2) .i64 fun t13_2 => ldI h1 (Addr.add (Addr.add t1 1) 3) .i64 fun t13_3 => Q (.bool ((t11_0 == t13_0) && ((t11_1 == t13_1) && ((t11_2 == t13_2) && ((t11_3 == t13_3) && true))))) h1) else (Q (.bool false) h1)
set_option maxRecDepth 100000 in
theorem threshold_Table_Keep_1_s (r_0_0 r_0_1 : Int) (r_0_2a : Option Addr) (r_0_2n r_0_2c : Nat) (r_0_3a : Option Addr) (r_0_3n r_0_3c : Nat) (r_0_4a : Option Addr) (r_0_4n r_0_4c : Nat) (r_0_5a : Option Addr) (r_0_5n r_0_5c : Nat) (r_0_6 : Bool) (r_0_7 r_0_8 r_0_9 : Int) (r_0_10 : ByteArray) (r_0_11 r_0_12 : Int) (r_0_13a : Option Addr) (r_0_13n r_0_13c : Nat) (r_0_14a : Option Addr) (r_0_14n r_0_14c : Nat) (r_0_15a : Option Addr) (r_0_15n r_0_15c : Nat) (r_0_16a : Option Addr) (r_0_16n r_0_16c : Nat) (r_0_17 r_0_18 r_0_19 r_0_20 : Int) (t1 : Addr) {Q : QT} {h : Heap} (hk : threshold_Table_Keep_1_v r_0_0 r_0_1 r_0_2a r_0_2n r_0_2c r_0_3a r_0_3n r_0_3c r_0_4a r_0_4n r_0_4c r_0_5a r_0_5n r_0_5c r_0_6 r_0_7 r_0_8 r_0_9 r_0_10 r_0_11 r_0_12 r_0_13a r_0_13n r_0_13c r_0_14a r_0_14n r_0_14c r_0_15a r_0_15n r_0_15c r_0_16a r_0_16n r_0_16c r_0_17 r_0_18 r_0_19 r_0_20 t1 Q h) : CallT Try.prog fn_threshold_Table_Keep_1 #[.agg #[.int .i64 r_0_0, .int .i64 r_0_1, .slice r_0_2a r_0_2n r_0_2c, .slice r_0_3a r_0_3n r_0_3c, .slice r_0_4a r_0_4n r_0_4c, .slice r_0_5a r_0_5n r_0_5c, .bool r_0_6, .int .i64 r_0_7, .int .i64 r_0_8, .int .i64 r_0_9, .string r_0_10, .int .i64 r_0_11, .int .i64 r_0_12, .slice r_0_13a r_0_13n r_0_13c, .slice r_0_14a r_0_14n r_0_14c, .slice r_0_15a r_0_15n r_0_15c, .slice r_0_16a r_0_16n r_0_16c, .int .i64 r_0_17, .int .i64 r_0_18, .int .i64 r_0_19, .int .i64 r_0_20], .pointer (some t1)] h Q :=
 callU follows Try.func27 (Try.call27 _) rfl rfl [] []
 trivial
 trivial (by as_aux_lemma => kernel_rfl) hk
/-! ### intrusion/address.ValidPrefix -/
def address_ValidPrefix_v (p_0_0 : Bool) (p_0_1 p_0_2 p_0_3 : Int) (Q : QT) (h : Heap) : Prop :=
 alV h (.cells #[.bool p_0_0, .int .u64 p_0_1, .int .u64 p_0_2, .int .i64 p_0_3] T_api_Prefix) fun t1 h1 => ldB h1 t1 fun t6_0 => ldI h1 (Addr.add t1 1) .u64 fun t6_1 => ldI h1 (Addr.add t1 2) .u64 fun t6_2 => CallT Try.prog fn_address_Valid #[.agg #[.bool t6_0, .int .u64 t6_1, .int .u64 t6_2]] h1 fun v h2 => ∃ t7 : Bool, v = .bool t7 ∧ if (!t7) = true then (Q (.bool false) h2) else (ldI h2 (Addr.add t1 3) .i64 fun t11 => if (decide (t11 < 0)) = true then (Q (.bool false) h2) else (ldI h2 (Addr.add t1 3) .i64 fun t16 => ldB h2 t1 fun t18_0 => ldI h2 (Addr.add t1 1) .u64 fun t18_1 => ldI h2 (Addr.add t1 2) .u64 fun t18_2 => CallT Try.prog fn_address_size #[.agg #[.bool t18_0, .int .u64 t18_1, .int .u64 t18_2]] h2 fun v h3 => ∃ t19 : Int, v = .int .i64 t19 ∧ (ldI h3 (Addr.add t1 3) .i64 fun t916 => (.int .i64 t916 : Value) = .int .i64 t16) ∧ if (decide (t16 > t19)) = true then (Q (.bool false) h3) else (ldB h3 t1 fun t24_0 => ldI h3 (Addr.add t1 1) .u64 fun t24_1 => ldI h3 (Addr.add t1 2) .u64 fun t24_2 => ldI h3 (Addr.add t1 3) .i64 fun t26 => CallT Try.prog fn_address_mask #[.agg #[.bool t24_0, .int .u64 t24_1, .int .u64 t24_2], .int .i64 t26] h3 fun v h4 => ∃ t27_0 : Int, ∃ t27_1 : Int, v = .tuple #[.int .u64 t27_0, .int .u64 t27_1] ∧ ldI h4 (Addr.add t1 1) .u64 fun t32 => if ((wrap .u64 (BitVec.toNat (BitVec.ofInt (IntKind.bits .u64) t32 &&& BitVec.ofInt (IntKind.bits .u64) t27_0) : Int)) == 0) = true then (ldI h4 (Addr.add t1 2) .u64 fun t39 => Q (.bool ((wrap .u64 (BitVec.toNat (BitVec.ofInt (IntKind.bits .u64) t39 &&& BitVec.ofInt (IntKind.bits .u64) t27_1) : Int)) == 0)) h4) else (Q (.bool false) h4))))
set_option maxRecDepth 100000 in
theorem address_ValidPrefix_s (p_0_0 : Bool) (p_0_1 p_0_2 p_0_3 : Int) {Q : QT} {h : Heap} (hk : address_ValidPrefix_v p_0_0 p_0_1 p_0_2 p_0_3 Q h) : CallT Try.prog fn_address_ValidPrefix #[.agg #[.bool p_0_0, .int .u64 p_0_1, .int .u64 p_0_2, .int .i64 p_0_3]] h Q :=
 callU follows Try.func28 (Try.call28 _) rfl rfl [] []
 trivial
 trivial (by as_aux_lemma => kernel_rfl) hk
/-! ### intrusion/address.Contains -/
def address_Contains_v (p_0_0 : Bool) (p_0_1 p_0_2 p_0_3 : Int) (a_1_0 : Bool) (a_1_1 a_1_2 : Int) (Q : QT) (h : Heap) : Prop :=
 alV h (.cells #[.bool p_0_0, .int .u64 p_0_1, .int .u64 p_0_2, .int .i64 p_0_3] T_api_Prefix) fun t2 h1 => alV h1 (.cells #[.bool a_1_0, .int .u64 a_1_1, .int .u64 a_1_2] T_api_Addr) fun t3 h2 => ldB h2 t2 fun t9 => ldB h2 t3 fun t11 => if (!(t9 == t11)) = true then (Q (.bool false) h2) else (ldB h2 t3 fun t14_0 => ldI h2 (Addr.add t3 1) .u64 fun t14_1 => ldI h2 (Addr.add t3 2) .u64 fun t14_2 => ldI h2 (Addr.add t2 3) .i64 fun t16 => CallT Try.prog fn_address_mask #[.agg #[.bool t14_0, .int .u64 t14_1, .int .u64 t14_2], .int .i64 t16] h2 fun v h3 => ∃ t17_0 : Int, ∃ t17_1 : Int, v = .tuple #[.int .u64 t17_0, .int .u64 t17_1] ∧ ldI h3 (Addr.add t3 1) .u64 fun t21 => ldI h3 (Addr.add t2 1) .u64 fun t26 => if ((wrap .u64 (BitVec.toNat (BitVec.ofInt (IntKind.bits .u64) t21 &&& ~~~BitVec.ofInt (IntKind.bits .u64) t17_0) : Int)) == (wrap .u64 (BitVec.toNat (BitVec.ofInt (IntKind.bits .u64) t26 &&& ~~~BitVec.ofInt (IntKind.bits .u64) t17_0) : Int))) = true then (ldI h3 (Addr.add t3 2) .u64 fun t32 => ldI h3 (Addr.add t2 2) .u64 fun t37 => Q (.bool ((wrap .u64 (BitVec.toNat (BitVec.ofInt (IntKind.bits .u64) t32 &&& ~~~BitVec.ofInt (IntKind.bits .u64) t17_1) : Int)) == (wrap .u64 (BitVec.toNat (BitVec.ofInt (IntKind.bits .u64) t37 &&& ~~~BitVec.ofInt (IntKind.bits .u64) t17_1) : Int)))) h3) else (Q (.bool false) h3))
set_option maxRecDepth 100000 in
theorem address_Contains_s (p_0_0 : Bool) (p_0_1 p_0_2 p_0_3 : Int) (a_1_0 : Bool) (a_1_1 a_1_2 : Int) {Q : QT} {h : Heap} (hk : address_Contains_v p_0_0 p_0_1 p_0_2 p_0_3 a_1_0 a_1_1 a_1_2 Q h) : CallT Try.prog fn_address_Contains #[.agg #[.bool p_0_0, .int .u64 p_0_1, .int .u64 p_0_2, .int .i64 p_0_3], .agg #[.bool a_1_0, .int .u64 a_1_1, .int .u64 a_1_2]] h Q :=
 callU follows Try.func29 (Try.call29 _) rfl rfl [] []
 trivial
 trivial (by as_aux_lemma => kernel_rfl) hk
/-! ### intrusion/intrusionref51.inside -/
def ref51_inside_v (p_0_0 : Bool) (p_0_1 p_0_2 p_0_3 : Int) (a_1_0 : Bool) (a_1_1 a_1_2 : Int) (Q : QT) (h : Heap) : Prop :=
 alV h (.cells #[.bool p_0_0, .int .u64 p_0_1, .int .u64 p_0_2, .int .i64 p_0_3] T_api_Prefix) fun t2 h1 => alV h1 (.cells #[.bool a_1_0, .int .u64 a_1_1, .int .u64 a_1_2] T_api_Addr) fun t3 h2 => ldB h2 t2 fun t5_0 => ldI h2 (Addr.add t2 1) .u64 fun t5_1 => ldI h2 (Addr.add t2 2) .u64 fun t5_2 => ldI h2 (Addr.add t2 3) .i64 fun t5_3 => ldB h2 t3 fun t8_0 => ldI h2 (Addr.add t3 1) .u64 fun t8_1 => ldI h2 (Addr.add t3 2) .u64 fun t8_2 => alV h2 (.cells #[.bool t5_0, .int .u64 t5_1, .int .u64 t5_2, .int .i64 t5_3] T_api_Prefix) fun t6 h3 => (ldB h3 t3 fun t98_0 => ldI h3 (Addr.add t3 1) .u64 fun t98_1 => ldI h3 (Addr.add t3 2) .u64 fun t98_2 => (.agg #[.bool t98_0, .int .u64 t98_1, .int .u64 t98_2] : Value) = .agg #[.bool t8_0, .int .u64 t8_1, .int .u64 t8_2]) ∧ CallT Try.prog fn_ref07_Of #[.slice (some t6) 1 1] h3 fun v h4 => ∃ t7a : Option Addr, ∃ t7n : Nat, ∃ t7c : Nat, v = .slice t7a t7n t7c ∧ (ldB h4 t3 fun t98_0 => ldI h4 (Addr.add t3 1) .u64 fun t98_1 => ldI h4 (Addr.add t3 2) .u64 fun t98_2 => (.agg #[.bool t98_0, .int .u64 t98_1, .int .u64 t98_2] : Value) = .agg #[.bool t8_0, .int .u64 t8_1, .int .u64 t8_2]) ∧ CallT Try.prog fn_ref07_Contains #[.slice t7a t7n t7c, .agg #[.bool t8_0, .int .u64 t8_1, .int .u64 t8_2]] h4 fun v h5 => ∃ t9 : Bool, v = .bool t9 ∧ Q (.bool t9) h5
set_option maxRecDepth 100000 in
theorem ref51_inside_s (p_0_0 : Bool) (p_0_1 p_0_2 p_0_3 : Int) (a_1_0 : Bool) (a_1_1 a_1_2 : Int) {Q : QT} {h : Heap} (hk : ref51_inside_v p_0_0 p_0_1 p_0_2 p_0_3 a_1_0 a_1_1 a_1_2 Q h) : CallT Try.prog fn_ref51_inside #[.agg #[.bool p_0_0, .int .u64 p_0_1, .int .u64 p_0_2, .int .i64 p_0_3], .agg #[.bool a_1_0, .int .u64 a_1_1, .int .u64 a_1_2]] h Q :=
 callU follows Try.func30 (Try.call30 _) rfl rfl [] []
 trivial
 trivial (by as_aux_lemma => kernel_rfl) hk
/-! ### intrusion/threshold.by -/
def threshold_by_v (n_0 : Int) (Q : QT) (h : Heap) : Prop :=
 if (decide (n_0 ≥ 1)) = true then (Q (.bool (decide (n_0 ≤ 3))) h) else (Q (.bool false) h)
set_option maxRecDepth 100000 in
theorem threshold_by_s (n_0 : Int) {Q : QT} {h : Heap} (hk : threshold_by_v n_0 Q h) : CallT Try.prog fn_threshold_by #[.int .i64 n_0] h Q :=
 callU follows Try.func31 (Try.call31 _) rfl rfl [] []
 trivial
 trivial (by as_aux_lemma => kernel_rfl) hk
/-! ### (intrusion/threshold.key).compare -/
def threshold_key_compare_b1 (k_2 o_3 x_5 y_6 : Addr) (Q : QT) (h : Heap) : Prop :=
 ldI h k_2 .i64 fun t12 => ldI h o_3 .i64 fun t14 => ldB h (Addr.add k_2 5) fun t17_0 => ldI h (Addr.add (Addr.add k_2 5) 1) .u64 fun t17_1 => ldI h (Addr.add (Addr.add k_2 5) 2) .u64 fun t17_2 => ldB h (Addr.add o_3 5) fun t19_0 => ldI h (Addr.add (Addr.add o_3 5) 1) .u64 fun t19_1 => ldI h (Addr.add (Addr.add o_3 5) 2) .u64 fun t19_2 => ldB h (Addr.add k_2 8) fun t22_0 => ldI h (Addr.add (Addr.add k_2 8) 1) .u64 fun t22_1 => ldI h (Addr.add (Addr.add k_2 8) 2) .u64 fun t22_2 => ldB h (Addr.add o_3 8) fun t24_0 => ldI h (Addr.add (Addr.add o_3 8) 1) .u64 fun t24_1 => ldI h (Addr.add (Addr.add o_3 8) 2) .u64 fun t24_2 => ldI h x_5 .i64 fun t27 => ldI h y_6 .i64 fun t29 => ldI h (Addr.add x_5 1) .i64 fun t32 => ldI h (Addr.add y_6 1) .i64 fun t34 => ldI h (Addr.add x_5 2) .i64 fun t37 => ldI h (Addr.add y_6 2) .i64 fun t39 => ldI h (Addr.add x_5 3) .i64 fun t42 => ldI h (Addr.add y_6 3) .i64 fun t44 => CallT Try.prog fn_cmp_Compare_int #[.int .i64 t12, .int .i64 t14] h fun v h11 => ∃ t15 : Int, v = .int .i64 t15 ∧ (ldB h11 (Addr.add k_2 5) fun t917_0 => ldI h11 (Addr.add (Addr.add k_2 5) 1) .u64 fun t917_1 => ldI h11 (Addr.add (Addr.add k_2 5) 2) .u64 fun t917_2 => (.agg #[.bool t917_0, .int .u64 t917_1, .int .u64 t917_2] : Value) = .agg #[.bool t17_0, .int .u64 t17_1, .int .u64 t17_2]) ∧ (ldB h11 (Addr.add o_3 5) fun t919_0 => ldI h11 (Addr.add (Addr.add o_3 5) 1) .u64 fun t919_1 => ldI h11 (Addr.add (Addr.add o_3 5) 2) .u64 fun t919_2 => (.agg #[.bool t919_0, .int .u64 t919_1, .int .u64 t919_2] : Value) = .agg #[.bool t19_0, .int .u64 t19_1, .int .u64 t19_2]) ∧ (ldB h11 (Addr.add k_2 8) fun t922_0 => ldI h11 (Addr.add (Addr.add k_2 8) 1) .u64 fun t922_1 => ldI h11 (Addr.add (Addr.add k_2 8) 2) .u64 fun t922_2 => (.agg #[.bool t922_0, .int .u64 t922_1, .int .u64 t922_2] : Value) = .agg #[.bool t22_0, .int .u64 t22_1, .int .u64 t22_2]) ∧ (ldB h11 (Addr.add o_3 8) fun t924_0 => ldI h11 (Addr.add (Addr.add o_3 8) 1) .u64 fun t924_1 => ldI h11 (Addr.add (Addr.add o_3 8) 2) .u64 fun t924_2 => (.agg #[.bool t924_0, .int .u64 t924_1, .int .u64 t924_2] : Value) = .agg #[.bool t24_0, .int .u64 t24_1, .int .u64 t24_2]) ∧ (ldI h11 x_5 .i64 fun t927 => (.int .i64 t927 : Value) = .int .i64 t27) ∧ (ldI h11 y_6 .i64 fun t929 => (.int .i64 t929 : Value) = .int .i64 t29) ∧ (ldI h11 (Addr.add x_5 1) .i64 fun t932 => (.int .i64 t932 : Value) = .int .i64 t32) ∧ (ldI h11 (Addr.add y_6 1) .i64 fun t934 => (.int .i64 t934 : Value) = .int .i64 t34) ∧ (ldI h11 (Addr.add x_5 2) .i64 fun t937 => (.int .i64 t937 : Value) = .int .i64 t37) ∧ (ldI h11 (Addr.add y_6 2) .i64 fun t939 => (.int .i64 t939 : Value) = .int .i64 t39) ∧ (ldI h11 (Addr.add x_5 3) .i64 fun t942 => (.int .i64 t942 : Value) = .int .i64 t42) ∧ (ldI h11 (Addr.add y_6 3) .i64 fun t944 => (.int .i64 t944 : Value) = .int .i64 t44) ∧ CallT Try.prog fn_address_Compare #[.agg #[.bool t17_0, .int .u64 t17_1, .int .u64 t17_2], .agg #[.bool t19_0, .int .u64 t19_1, .int .u64 t19_2]] h11 fun v h12 => ∃ t20 : Int, v = .int .i64 t20 ∧ (ldB h12 (Addr.add k_2 8) fun t922_0 => ldI h12 (Addr.add (Addr.add k_2 8) 1) .u64 fun t922_1 => ldI h12 (Addr.add (Addr.add k_2 8) 2) .u64 fun t922_2 => (.agg #[.bool t922_0, .int .u64 t922_1, .int .u64 t922_2] : Value) = .agg #[.bool t22_0, .int .u64 t22_1, .int .u64 t22_2]) ∧ (ldB h12 (Addr.add o_3 8) fun t924_0 => ldI h12 (Addr.add (Addr.add o_3 8) 1) .u64 fun t924_1 => ldI h12 (Addr.add (Addr.add o_3 8) 2) .u64 fun t924_2 => (.agg #[.bool t924_0, .int .u64 t924_1, .int .u64 t924_2] : Value) = .agg #[.bool t24_0, .int .u64 t24_1, .int .u64 t24_2]) ∧ (ldI h12 x_5 .i64 fun t927 => (.int .i64 t927 : Value) = .int .i64 t27) ∧ (ldI h12 y_6 .i64 fun t929 => (.int .i64 t929 : Value) = .int .i64 t29) ∧ (ldI h12 (Addr.add x_5 1) .i64 fun t932 => (.int .i64 t932 : Value) = .int .i64 t32) ∧ (ldI h12 (Addr.add y_6 1) .i64 fun t934 => (.int .i64 t934 : Value) = .int .i64 t34) ∧ (ldI h12 (Addr.add x_5 2) .i64 fun t937 => (.int .i64 t937 : Value) = .int .i64 t37) ∧ (ldI h12 (Addr.add y_6 2) .i64 fun t939 => (.int .i64 t939 : Value) = .int .i64 t39) ∧ (ldI h12 (Addr.add x_5 3) .i64 fun t942 => (.int .i64 t942 : Value) = .int .i64 t42) ∧ (ldI h12 (Addr.add y_6 3) .i64 fun t944 => (.int .i64 t944 : Value) = .int .i64 t44) ∧ CallT Try.prog fn_address_Compare #[.agg #[.bool t22_0, .int .u64 t22_1, .int .u64 t22_2], .agg #[.bool t24_0, .int .u64 t24_1, .int .u64 t24_2]] h12 fun v h13 => ∃ t25 : Int, v = .int .i64 t25 ∧ (ldI h13 x_5 .i64 fun t927 => (.int .i64 t927 : Value) = .int .i64 t27) ∧ (ldI h13 y_6 .i64 fun t929 => (.int .i64 t929 : Value) = .int .i64 t29) ∧ (ldI h13 (Addr.add x_5 1) .i64 fun t932 => (.int .i64 t932 : Value) = .int .i64 t32) ∧ (ldI h13 (Addr.add y_6 1) .i64 fun t934 => (.int .i64 t934 : Value) = .int .i64 t34) ∧ (ldI h13 (Addr.add x_5 2) .i64 fun t937 => (.int .i64 t937 : Value) = .int .i64 t37) ∧ (ldI h13 (Addr.add y_6 2) .i64 fun t939 => (.int .i64 t939 : Value) = .int .i64 t39) ∧ (ldI h13 (Addr.add x_5 3) .i64 fun t942 => (.int .i64 t942 : Value) = .int .i64 t42) ∧ (ldI h13 (Addr.add y_6 3) .i64 fun t944 => (.int .i64 t944 : Value) = .int .i64 t44) ∧ CallT Try.prog fn_cmp_Compare_int #[.int .i64 t27, .int .i64 t29] h13 fun v h14 => ∃ t30 : Int, v = .int .i64 t30 ∧ (ldI h14 (Addr.add x_5 1) .i64 fun t932 => (.int .i64 t932 : Value) = .int .i64 t32) ∧ (ldI h14 (Addr.add y_6 1) .i64 fun t934 => (.int .i64 t934 : Value) = .int .i64 t34) ∧ (ldI h14 (Addr.add x_5 2) .i64 fun t937 => (.int .i64 t937 : Value) = .int .i64 t37) ∧ (ldI h14 (Addr.add y_6 2) .i64 fun t939 => (.int .i64 t939 : Value) = .int .i64 t39) ∧ (ldI h14 (Addr.add x_5 3) .i64 fun t942 => (.int .i64 t942 : Value) = .int .i64 t42) ∧ (ldI h14 (Addr.add y_6 3) .i64 fun t944 => (.int .i64 t944 : Value) = .int .i64 t44) ∧ CallT Try.prog fn_cmp_Compare_int #[.int .i64 t32, .int .i64 t34] h14 fun v h15 => ∃ t35 : Int, v = .int .i64 t35 ∧ (ldI h15 (Addr.add x_5 2) .i64 fun t937 => (.int .i64 t937 : Value) = .int .i64 t37) ∧ (ldI h15 (Addr.add y_6 2) .i64 fun t939 => (.int .i64 t939 : Value) = .int .i64 t39) ∧ (ldI h15 (Addr.add x_5 3) .i64 fun t942 => (.int .i64 t942 : Value) = .int .i64 t42) ∧ (ldI h15 (Addr.add y_6 3) .i64 fun t944 => (.int .i64 t944 : Value) = .int .i64 t44) ∧ CallT Try.prog fn_cmp_Compare_int #[.int .i64 t37, .int .i64 t39] h15 fun v h16 => ∃ t40 : Int, v = .int .i64 t40 ∧ (ldI h16 (Addr.add x_5 3) .i64 fun t942 => (.int .i64 t942 : Value) = .int .i64 t42) ∧ (ldI h16 (Addr.add y_6 3) .i64 fun t944 => (.int .i64 t944 : Value) = .int .i64 t44) ∧ CallT Try.prog fn_cmp_Compare_int #[.int .i64 t42, .int .i64 t44] h16 fun v h17 => ∃ t45 : Int, v = .int .i64 t45 ∧ alV h17 (.cells #[.int .i64 t15, .int .i64 t20, .int .i64 t25, .int .i64 t30, .int .i64 t35, .int .i64 t40, .int .i64 t45] T_int) fun t46 h18 => CallT Try.prog fn_cmp_Or_int #[.slice (some t46) 7 7] h18 fun v h19 => ∃ t47 : Int, v = .int .i64 t47 ∧ Q (.int .i64 t47) h19
def threshold_key_compare_v (k_0_0 k_0_1 k_0_2 k_0_3 k_0_4 : Int) (k_0_5 : Bool) (k_0_6 k_0_7 : Int) (k_0_8 : Bool) (k_0_9 k_0_10 o_1_0 o_1_1 o_1_2 o_1_3 o_1_4 : Int) (o_1_5 : Bool) (o_1_6 o_1_7 : Int) (o_1_8 : Bool) (o_1_9 o_1_10 : Int) (Q : QT) (h : Heap) : Prop :=
 alV h (.cells #[.int .i64 k_0_0, .int .i64 k_0_1, .int .i64 k_0_2, .int .i64 k_0_3, .int .i64 k_0_4, .bool k_0_5, .int .u64 k_0_6, .int .u64 k_0_7, .bool k_0_8, .int .u64 k_0_9, .int .u64 k_0_10] T_threshold_key) fun t2 h1 => alV h1 (.cells #[.int .i64 o_1_0, .int .i64 o_1_1, .int .i64 o_1_2, .int .i64 o_1_3, .int .i64 o_1_4, .bool o_1_5, .int .u64 o_1_6, .int .u64 o_1_7, .bool o_1_8, .int .u64 o_1_9, .int .u64 o_1_10] T_threshold_key) fun t3 h2 => ldI h2 (Addr.add t2 1) .i64 fun t8_0 => ldI h2 (Addr.add (Addr.add t2 1) 1) .i64 fun t8_1 => ldI h2 (Addr.add (Addr.add t2 1) 2) .i64 fun t8_2 => ldI h2 (Addr.add (Addr.add t2 1) 3) .i64 fun t8_3 => ldI h2 (Addr.add t3 1) .i64 fun t10_0 => ldI h2 (Addr.add (Addr.add t3 1) 1) .i64 fun t10_1 => ldI h2 (Addr.add (Addr.add t3 1) 2) .i64 fun t10_2 => ldI h2 (Addr.add (Addr.add t3 1) 3) .i64 fun t10_3 => (alV h2 (.cells #[.int .i64 0, .int .i64 0, .int .i64 0, .int .i64 0] T_api_Threshold) fun t5 h3 => (ldI h3 (Addr.add t2 1) .i64 fun t98_0 => ldI h3 (Addr.add (Addr.add t2 1) 1) .i64 fun t98_1 => ldI h3 (Addr.add (Addr.add t2 1) 2) .i64 fun t98_2 => ldI h3 (Addr.add (Addr.add t2 1) 3) .i64 fun t98_3 => (.agg #[.int .i64 t98_0, .int .i64 t98_1, .int .i64 t98_2, .int .i64 t98_3] : Value) = .agg #[.int .i64 t8_0, .int .i64 t8_1, .int .i64 t8_2, .int .i64 t8_3]) ∧ (ldI h3 (Addr.add t3 1) .i64 fun t910_0 => ldI h3 (Addr.add (Addr.add t3 1) 1) .i64 fun t910_1 => ldI h3 (Addr.add (Addr.add t3 1) 2) .i64 fun t910_2 => ldI h3 (Addr.add (Addr.add t3 1) 3) .i64 fun t910_3 => (.agg #[.int .i64 t910_0, .int .i64 t910_1, .int .i64 t910_2, .int .i64 t910_3] : Value) = .agg #[.int .i64 t10_0, .int .i64 t10_1, .int .i64 t10_2, .int .i64 t10_3]) ∧ alV h3 (.cells #[.int .i64 0, .int .i64 0, .int .i64 0, .int .i64 0] T_api_Threshold) fun t6 h4 => (ldI h4 (Addr.add t2 1) .i64 fun t98_0 => ldI h4 (Addr.add (Addr.add t2 1) 1) .i64 fun t98_1 => ldI h4 (Addr.add (Addr.add t2 1) 2) .i64 fun t98_2 => ldI h4 (Addr.add (Addr.add t2 1) 3) .i64 fun t98_3 => (.agg #[.int .i64 t98_0, .int .i64 t98_1, .int .i64 t98_2, .int .i64 t98_3] : Value) = .agg #[.int .i64 t8_0, .int .i64 t8_1, .int .i64 t8_2, .int .i64 t8_3]) ∧ (ldI h4 (Addr.add t3 1) .i64 fun t910_0 => ldI h4 (Addr.add (Addr.add t3 1) 1) .i64 fun t910_1 => ldI h4 (Addr.add (Addr.add t3 1) 2) .i64 fun t910_2 => ldI h4 (Addr.add (Addr.add t3 1) 3) .i64 fun t910_3 => (.agg #[.int .i64 t910_0, .int .i64 t910_1, .int .i64 t910_2, .int .i64 t910_3] : Value) = .agg #[.int .i64 t10_0, .int .i64 t10_1, .int .i64 t10_2, .int .i64 t10_3]) ∧ stN h4 t5 [.int .i64 t8_0, .int .i64 t8_1, .int .i64 t8_2, .int .i64 t8_3] 0 fun h5 => (ldI h5 (Addr.add t3 1) .i64 fun t910_0 => ldI h5 (Addr.add (Addr.add t3 1) 1) .i64 fun t910_1 => ldI h5 (Addr.add (Addr.add t3 1) 2) .i64 fun t910_2 => ldI h5 (Addr.add (Addr.add t3 1) 3) .i64 fun t910_3 => (.agg #[.int .i64 t910_0, .int .i64 t910_1, .int .i64 t910_2, .int .i64 t910_3] : Value) = .agg #[.int .i64 t10_0, .int .i64 t10_1, .int .i64 t10_2, .int .i64 t10_3]) ∧ stN h5 t6 [.int .i64 t10_0, .int .i64 t10_1, .int .i64 t10_2, .int .i64 t10_3] 0 fun h6 => threshold_key_compare_b1 t2 t3 t5 t6 Q h6) ∧ (alV h2 (.cells #[.int .i64 0, .int .i64 0, .int .i64 0, .int .i64 0] T_api_Threshold) fun t6 h7 => (ldI h7 (Addr.add t2 1) .i64 fun t98_0 => ldI h7 (Addr.add (Addr.add t2 1) 1) .i64 fun t98_1 => ldI h7 (Addr.add (Addr.add t2 1) 2) .i64 fun t98_2 => ldI h7 (Addr.add (Addr.add t2 1) 3) .i64 fun t98_3 => (.agg #[.int .i64 t98_0, .int .i64 t98_1, .int .i64 t98_2, .int .i64 t98_3] : Value) = .agg #[.int .i64 t8_0, .int .i64 t8_1, .int .i64 t8_2, .int .i64 t8_3]) ∧ (ldI h7 (Addr.add t3 1) .i64 fun t910_0 => ldI h7 (Addr.add (Addr.add t3 1) 1) .i64 fun t910_1 => ldI h7 (Addr.add (Addr.add t3 1) 2) .i64 fun t910_2 => ldI h7 (Addr.add (Addr.add t3 1) 3) .i64 fun t910_3 => (.agg #[.int .i64 t910_0, .int .i64 t910_1, .int .i64 t910_2, .int .i64 t910_3] : Value) = .agg #[.int .i64 t10_0, .int .i64 t10_1, .int .i64 t10_2, .int .i64 t10_3]) ∧ alV h7 (.cells #[.int .i64 0, .int .i64 0, .int .i64 0, .int .i64 0] T_api_Threshold) fun t5 h8 => (ldI h8 (Addr.add t2 1) .i64 fun t98_0 => ldI h8 (Addr.add (Addr.add t2 1) 1) .i64 fun t98_1 => ldI h8 (Addr.add (Addr.add t2 1) 2) .i64 fun t98_2 => ldI h8 (Addr.add (Addr.add t2 1) 3) .i64 fun t98_3 => (.agg #[.int .i64 t98_0, .int .i64 t98_1, .int .i64 t98_2, .int .i64 t98_3] : Value) = .agg #[.int .i64 t8_0, .int .i64 t8_1, .int .i64 t8_2, .int .i64 t8_3]) ∧ (ldI h8 (Addr.add t3 1) .i64 fun t910_0 => ldI h8 (Addr.add (Addr.add t3 1) 1) .i64 fun t910_1 => ldI h8 (Addr.add (Addr.add t3 1) 2) .i64 fun t910_2 => ldI h8 (Addr.add (Addr.add t3 1) 3) .i64 fun t910_3 => (.agg #[.int .i64 t910_0, .int .i64 t910_1, .int .i64 t910_2, .int .i64 t910_3] : Value) = .agg #[.int .i64 t10_0, .int .i64 t10_1, .int .i64 t10_2, .int .i64 t10_3]) ∧ stN h8 t5 [.int .i64 t8_0, .int .i64 t8_1, .int .i64 t8_2, .int .i64 t8_3] 0 fun h9 => (ldI h9 (Addr.add t3 1) .i64 fun t910_0 => ldI h9 (Addr.add (Addr.add t3 1) 1) .i64 fun t910_1 => ldI h9 (Addr.add (Addr.add t3 1) 2) .i64 fun t910_2 => ldI h9 (Addr.add (Addr.add t3 1) 3) .i64 fun t910_3 => (.agg #[.int .i64 t910_0, .int .i64 t910_1, .int .i64 t910_2, .int .i64 t910_3] : Value) = .agg #[.int .i64 t10_0, .int .i64 t10_1, .int .i64 t10_2, .int .i64 t10_3]) ∧ stN h9 t6 [.int .i64 t10_0, .int .i64 t10_1, .int .i64 t10_2, .int .i64 t10_3] 0 fun h10 => threshold_key_compare_b1 t2 t3 t5 t6 Q h10)
set_option maxRecDepth 100000 in
theorem threshold_key_compare_s (k_0_0 k_0_1 k_0_2 k_0_3 k_0_4 : Int) (k_0_5 : Bool) (k_0_6 k_0_7 : Int) (k_0_8 : Bool) (k_0_9 k_0_10 o_1_0 o_1_1 o_1_2 o_1_3 o_1_4 : Int) (o_1_5 : Bool) (o_1_6 o_1_7 : Int) (o_1_8 : Bool) (o_1_9 o_1_10 : Int) {Q : QT} {h : Heap} (hk : threshold_key_compare_v k_0_0 k_0_1 k_0_2 k_0_3 k_0_4 k_0_5 k_0_6 k_0_7 k_0_8 k_0_9 k_0_10 o_1_0 o_1_1 o_1_2 o_1_3 o_1_4 o_1_5 o_1_6 o_1_7 o_1_8 o_1_9 o_1_10 Q h) : CallT Try.prog fn_threshold_key_compare #[.agg #[.int .i64 k_0_0, .int .i64 k_0_1, .int .i64 k_0_2, .int .i64 k_0_3, .int .i64 k_0_4, .bool k_0_5, .int .u64 k_0_6, .int .u64 k_0_7, .bool k_0_8, .int .u64 k_0_9, .int .u64 k_0_10], .agg #[.int .i64 o_1_0, .int .i64 o_1_1, .int .i64 o_1_2, .int .i64 o_1_3, .int .i64 o_1_4, .bool o_1_5, .int .u64 o_1_6, .int .u64 o_1_7, .bool o_1_8, .int .u64 o_1_9, .int .u64 o_1_10]] h Q :=
 callU follows Try.func32 (Try.call32 _) rfl rfl [(6, fun e h => dA (e 2) fun k_2 => dA (e 3) fun o_3 => dA (e 5) fun x_5 => dA (e 6) fun y_6 => threshold_key_compare_b1 k_2 o_3 x_5 y_6 Q h)] []
 ⟨fun e h _ hk => by
 have F := Ag.nil (e := e)
 have ⟨k_2, F, hk⟩ := eA F hk
 have ⟨o_3, F, hk⟩ := eA F hk
 have ⟨x_5, F, hk⟩ := eA F hk
 have ⟨y_6, F, hk⟩ := eA F hk
 exact cutU F (by as_aux_lemma => kernel_rfl) hk, trivial⟩
 trivial (by as_aux_lemma => kernel_rfl) hk
/-! ### intrusion/intrusionref07.Before -/
def ref07_Before_v (a_0_0 : Bool) (a_0_1 a_0_2 : Int) (b_1_0 : Bool) (b_1_1 b_1_2 : Int) (Q : QT) (h : Heap) : Prop :=
 alV h (.cells #[.bool a_0_0, .int .u64 a_0_1, .int .u64 a_0_2] T_api_Addr) fun t2 h1 => alV h1 (.cells #[.bool b_1_0, .int .u64 b_1_1, .int .u64 b_1_2] T_api_Addr) fun t3 h2 => ldB h2 t2 fun t6 => ldB h2 t3 fun t8 => if (!(t6 == t8)) = true then (ldB h2 t3 fun t11 => Q (.bool t11) h2) else (ldI h2 (Addr.add t2 1) .u64 fun t13 => ldI h2 (Addr.add t3 1) .u64 fun t15 => if (t13 != t15) = true then (ldI h2 (Addr.add t2 1) .u64 fun t18 => ldI h2 (Addr.add t3 1) .u64 fun t20 => Q (.bool (decide (t18 < t20))) h2) else (ldI h2 (Addr.add t2 2) .u64 fun t23 => ldI h2 (Addr.add t3 2) .u64 fun t25 => Q (.bool (decide (t23 < t25))) h2))
set_option maxRecDepth 100000 in
theorem ref07_Before_s (a_0_0 : Bool) (a_0_1 a_0_2 : Int) (b_1_0 : Bool) (b_1_1 b_1_2 : Int) {Q : QT} {h : Heap} (hk : ref07_Before_v a_0_0 a_0_1 a_0_2 b_1_0 b_1_1 b_1_2 Q h) : CallT Try.prog fn_ref07_Before #[.agg #[.bool a_0_0, .int .u64 a_0_1, .int .u64 a_0_2], .agg #[.bool b_1_0, .int .u64 b_1_1, .int .u64 b_1_2]] h Q :=
 callU follows Try.func33 (Try.call33 _) rfl rfl [] []
 trivial
 trivial (by as_aux_lemma => kernel_rfl) hk
/-! ### slices.IndexFunc[[]intrusion/api.Rule,intrusion/api.Rule] -/
def slices_IndexFunc_api_Rule_api_Rule_l1 (s_0a : Option Addr) (s_0n s_0c : Nat) (f_1 : Value) (t7 : Int) (Q : QT) (t8 : Int) (h : Heap) (Kn1 : Int → Heap → Prop) : Prop :=
 if (decide (t8 < t7)) = true then (idxA t8 s_0n (nn s_0a fun t14 => ldI h (Addr.add t14 ((t8).toNat * 21)) .i64 fun t15_0 => ldI h (Addr.add (Addr.add t14 ((t8).toNat * 21)) 1) .i64 fun t15_1 => ldL h (Addr.add (Addr.add t14 ((t8).toNat * 21)) 2) fun t15_2a t15_2n t15_2c => ldL h (Addr.add (Addr.add t14 ((t8).toNat * 21)) 3) fun t15_3a t15_3n t15_3c => ldL h (Addr.add (Addr.add t14 ((t8).toNat * 21)) 4) fun t15_4a t15_4n t15_4c => ldL h (Addr.add (Addr.add t14 ((t8).toNat * 21)) 5) fun t15_5a t15_5n t15_5c => ldB h (Addr.add (Addr.add t14 ((t8).toNat * 21)) 6) fun t15_6 => ldI h (Addr.add (Addr.add t14 ((t8).toNat * 21)) 7) .i64 fun t15_7 => ldI h (Addr.add (Addr.add t14 ((t8).toNat * 21)) 8) .i64 fun t15_8 => ldI h (Addr.add (Addr.add t14 ((t8).toNat * 21)) 9) .i64 fun t15_9 => ldS h (Addr.add (Addr.add t14 ((t8).toNat * 21)) 10) fun t15_10 => ldI h (Addr.add (Addr.add t14 ((t8).toNat * 21)) 11) .i64 fun t15_11 => ldI h (Addr.add (Addr.add t14 ((t8).toNat * 21)) 12) .i64 fun t15_12 => ldL h (Addr.add (Addr.add t14 ((t8).toNat * 21)) 13) fun t15_13a t15_13n t15_13c => ldL h (Addr.add (Addr.add t14 ((t8).toNat * 21)) 14) fun t15_14a t15_14n t15_14c => ldL h (Addr.add (Addr.add t14 ((t8).toNat * 21)) 15) fun t15_15a t15_15n t15_15c => ldL h (Addr.add (Addr.add t14 ((t8).toNat * 21)) 16) fun t15_16a t15_16n t15_16c => ldI h (Addr.add (Addr.add t14 ((t8).toNat * 21)) 17) .i64 fun t15_17 => ldI h (Addr.add (Addr.add t14 ((t8).toNat * 21)) 18) .i64 fun t15_18 => ldI h (Addr.add (Addr.add t14 ((t8).toNat * 21)) 19) .i64 fun t15_19 => ldI h (Addr.add (Addr.add t14 ((t8).toNat * 21)) 20) .i64 fun t15_20 => CallV Try.prog f_1 #[.agg #[.int .i64 t15_0, .int .i64 t15_1, .slice t15_2a t15_2n t15_2c, .slice t15_3a t15_3n t15_3c, .slice t15_4a t15_4n t15_4c, .slice t15_5a t15_5n t15_5c, .bool t15_6, .int .i64 t15_7, .int .i64 t15_8, .int .i64 t15_9, .string t15_10, .int .i64 t15_11, .int .i64 t15_12, .slice t15_13a t15_13n t15_13c, .slice t15_14a t15_14n t15_14c, .slice t15_15a t15_15n t15_15c, .slice t15_16a t15_16n t15_16c, .int .i64 t15_17, .int .i64 t15_18, .int .i64 t15_19, .int .i64 t15_20]] h fun v h1 => ∃ t16 : Bool, v = .bool t16 ∧ if t16 = true then (Q (.int .i64 t8) h1) else (Kn1 (wrap .i64 (t8 + 1)) h1))) else (Q (.int .i64 (-1)) h)
def slices_IndexFunc_api_Rule_api_Rule_v (s_0a : Option Addr) (s_0n s_0c : Nat) (f_1 : Value) (Q : QT) (h : Heap) : Prop :=
 LoopV (fun (s : Int) h Kn => slices_IndexFunc_api_Rule_api_Rule_l1 s_0a s_0n s_0c f_1 ((s_0n : Nat) : Int) Q s h Kn) 0 h
set_option maxRecDepth 100000 in
theorem slices_IndexFunc_api_Rule_api_Rule_s (s_0a : Option Addr) (s_0n s_0c : Nat) (f_1 : Value) {Q : QT} {h : Heap} (hk : slices_IndexFunc_api_Rule_api_Rule_v s_0a s_0n s_0c f_1 Q h) : CallT Try.prog fn_slices_IndexFunc_api_Rule_api_Rule #[.slice s_0a s_0n s_0c, f_1] h Q :=
 callU follows Try.func34 (Try.call34 _) rfl rfl [] [(6, fun e h => dL (e 0) fun s_0a s_0n s_0c => dV (e 1) fun f_1 => dI .i64 (e 7) fun t7 => dI .i64 (e 8) fun t8 => LoopV (fun (s : Int) h Kn => slices_IndexFunc_api_Rule_api_Rule_l1 s_0a s_0n s_0c f_1 t7 Q s h Kn) t8 h)]
 trivial
 ⟨⟨by kernel_rfl, fun e h he hk => by
 have F := Ag.nil (e := e)
 have ⟨s_0a, s_0n, s_0c, F, hk⟩ := eL F hk
 have ⟨f_1, F, hk⟩ := eV F hk
 have ⟨t7, F, hk⟩ := eI F hk
 have ⟨t8, F, hk⟩ := eI F hk
 exact loopU (s0 := t8) follows (fun _ h => by cases h) he F (fun s => [(8, .int .i64 s)]) (by kernel_rfl) (F.take 1) hk (fun Kn1 e h => dI .i64 (e 8) fun t8 => Kn1 t8 h) (fun Kn1 e h hk => by
  have F := Ag.nil (e := e)
  have ⟨t8, F, hk⟩ := eI F hk
  exact ⟨t8, F, hk⟩)
  (fun Kn1 => []) (fun Kn1 => [])
  (fun Kn1 => trivial)
  (fun Kn1 => trivial) (fun e s h Kn1 => by as_aux_lemma => kernel_rfl)⟩, trivial⟩ (by as_aux_lemma => kernel_rfl) hk
/-! ### intrusion/address.Valid -/
def address_Valid_v (a_0_0 : Bool) (a_0_1 a_0_2 : Int) (Q : QT) (h : Heap) : Prop :=
 alV h (.cells #[.bool a_0_0, .int .u64 a_0_1, .int .u64 a_0_2] T_api_Addr) fun t1 h1 => ldB h1 t1 fun t4 => if t4 = true then (Q (.bool true) h1) else (ldI h1 (Addr.add t1 1) .u64 fun t7 => if (t7 == 0) = true then (ldI h1 (Addr.add t1 2) .u64 fun t11 => Q (.bool (decide (t11 ≤ 4294967295))) h1) else (Q (.bool false) h1))
set_option maxRecDepth 100000 in
theorem address_Valid_s (a_0_0 : Bool) (a_0_1 a_0_2 : Int) {Q : QT} {h : Heap} (hk : address_Valid_v a_0_0 a_0_1 a_0_2 Q h) : CallT Try.prog fn_address_Valid #[.agg #[.bool a_0_0, .int .u64 a_0_1, .int .u64 a_0_2]] h Q :=
 callU follows Try.func35 (Try.call35 _) rfl rfl [] []
 trivial
 trivial (by as_aux_lemma => kernel_rfl) hk
/-! ### intrusion/address.size -/
def address_size_v (a_0_0 : Bool) (a_0_1 a_0_2 : Int) (Q : QT) (h : Heap) : Prop :=
 alV h (.cells #[.bool a_0_0, .int .u64 a_0_1, .int .u64 a_0_2] T_api_Addr) fun t1 h1 => ldB h1 t1 fun t4 => if t4 = true then (Q (.int .i64 128) h1) else (Q (.int .i64 32) h1)
set_option maxRecDepth 100000 in
theorem address_size_s (a_0_0 : Bool) (a_0_1 a_0_2 : Int) {Q : QT} {h : Heap} (hk : address_size_v a_0_0 a_0_1 a_0_2 Q h) : CallT Try.prog fn_address_size #[.agg #[.bool a_0_0, .int .u64 a_0_1, .int .u64 a_0_2]] h Q :=
 callU follows Try.func36 (Try.call36 _) rfl rfl [] []
 trivial
 trivial (by as_aux_lemma => kernel_rfl) hk
/-! ### intrusion/address.mask -/
def address_mask_v (a_0_0 : Bool) (a_0_1 a_0_2 bits_1 : Int) (Q : QT) (h : Heap) : Prop :=
 alV h (.cells #[.bool a_0_0, .int .u64 a_0_1, .int .u64 a_0_2] T_api_Addr) fun t2 h1 => ldB h1 t2 fun t7_0 => ldI h1 (Addr.add t2 1) .u64 fun t7_1 => ldI h1 (Addr.add t2 2) .u64 fun t7_2 => CallT Try.prog fn_address_size #[.agg #[.bool t7_0, .int .u64 t7_1, .int .u64 t7_2]] h1 fun v h2 => ∃ t8 : Int, v = .int .i64 t8 ∧ CallT Try.prog fn_address_low #[.int .i64 (wrap .i64 ((wrap .i64 (t8 - bits_1)) - 64))] h2 fun v h3 => ∃ t13 : Int, v = .int .u64 t13 ∧ CallT Try.prog fn_address_low #[.int .i64 (wrap .i64 (t8 - bits_1))] h3 fun v h4 => ∃ t15 : Int, v = .int .u64 t15 ∧ Q (.tuple #[.int .u64 t13, .int .u64 t15]) h4
set_option maxRecDepth 100000 in
theorem address_mask_s (a_0_0 : Bool) (a_0_1 a_0_2 bits_1 : Int) {Q : QT} {h : Heap} (hk : address_mask_v a_0_0 a_0_1 a_0_2 bits_1 Q h) : CallT Try.prog fn_address_mask #[.agg #[.bool a_0_0, .int .u64 a_0_1, .int .u64 a_0_2], .int .i64 bits_1] h Q :=
 callU follows Try.func37 (Try.call37 _) rfl rfl [] []
 trivial
 trivial (by as_aux_lemma => kernel_rfl) hk
/-! ### intrusion/intrusionref07.Contains -/
def ref07_Contains_l1 (l_0a : Option Addr) (l_0n l_0c : Nat) (a_3 : Addr) (Q : QT) (i_5 : Int) (h : Heap) (Kn1 : Int → Heap → Prop) : Prop :=
 if (decide (i_5 < ((l_0n : Nat) : Int))) = true then (ldB h a_3 fun t12_0 => ldI h (Addr.add a_3 1) .u64 fun t12_1 => ldI h (Addr.add a_3 2) .u64 fun t12_2 => CallT Try.prog fn_ref07_Fine #[.agg #[.bool t12_0, .int .u64 t12_1, .int .u64 t12_2]] h fun v h2 => ∃ t13 : Bool, v = .bool t13 ∧ if t13 = true then (idxA i_5 l_0n (nn l_0a fun t17 => ldB h2 (Addr.add t17 ((i_5).toNat * 6)) fun t18_0 => ldI h2 (Addr.add (Addr.add t17 ((i_5).toNat * 6)) 1) .u64 fun t18_1 => ldI h2 (Addr.add (Addr.add t17 ((i_5).toNat * 6)) 2) .u64 fun t18_2 => ldB h2 (Addr.add (Addr.add t17 ((i_5).toNat * 6)) 3) fun t18_3 => ldI h2 (Addr.add (Addr.add t17 ((i_5).toNat * 6)) 4) .u64 fun t18_4 => ldI h2 (Addr.add (Addr.add t17 ((i_5).toNat * 6)) 5) .u64 fun t18_5 => CallT Try.prog fn_ref07_Some #[.agg #[.bool t18_0, .int .u64 t18_1, .int .u64 t18_2, .bool t18_3, .int .u64 t18_4, .int .u64 t18_5]] h2 fun v h3 => ∃ t19 : Bool, v = .bool t19 ∧ if t19 = true then (idxA i_5 l_0n (nn l_0a fun t24 => ldB h3 (Addr.add t24 ((i_5).toNat * 6)) fun t27 => ldB h3 a_3 fun t29 => if (t27 == t29) = true then (ldB h3 a_3 fun t33_0 => ldI h3 (Addr.add a_3 1) .u64 fun t33_1 => ldI h3 (Addr.add a_3 2) .u64 fun t33_2 => idxA i_5 l_0n (nn l_0a fun t36 => ldB h3 (Addr.add t36 ((i_5).toNat * 6)) fun t38_0 => ldI h3 (Addr.add (Addr.add t36 ((i_5).toNat * 6)) 1) .u64 fun t38_1 => ldI h3 (Addr.add (Addr.add t36 ((i_5).toNat * 6)) 2) .u64 fun t38_2 => CallT Try.prog fn_ref07_Before #[.agg #[.bool t33_0, .int .u64 t33_1, .int .u64 t33_2], .agg #[.bool t38_0, .int .u64 t38_1, .int .u64 t38_2]] h3 fun v h4 => ∃ t39 : Bool, v = .bool t39 ∧ if (!t39) = true then (idxA i_5 l_0n (nn l_0a fun t45 => ldB h4 (Addr.add (Addr.add t45 ((i_5).toNat * 6)) 3) fun t47_0 => ldI h4 (Addr.add (Addr.add (Addr.add t45 ((i_5).toNat * 6)) 3) 1) .u64 fun t47_1 => ldI h4 (Addr.add (Addr.add (Addr.add t45 ((i_5).toNat * 6)) 3) 2) .u64 fun t47_2 => ldB h4 a_3 fun t48_0 => ldI h4 (Addr.add a_3 1) .u64 fun t48_1 => ldI h4 (Addr.add a_3 2) .u64 fun t48_2 => CallT Try.prog fn_ref07_Before #[.agg #[.bool t47_0, .int .u64 t47_1, .int .u64 t47_2], .agg #[.bool t48_0, .int .u64 t48_1, .int .u64 t48_2]] h4 fun v h5 => ∃ t49 : Bool, v = .bool t49 ∧ if (!t49) = true then (Q (.bool true) h5) else (Kn1 (wrap .i64 (i_5 + 1)) h5))) else (Kn1 (wrap .i64 (i_5 + 1)) h4))) else (Kn1 (wrap .i64 (i_5 + 1)) h3))) else (Kn1 (wrap .i64 (i_5 + 1)) h3))) else (Kn1 (wrap .i64 (i_5 + 1)) h2)) else (Q (.bool false) h)
def ref07_Contains_v (l_0a : Option Addr) (l_0n l_0c : Nat) (a_1_0 : Bool) (a_1_1 a_1_2 : Int) (Q : QT) (h : Heap) : Prop :=
 alV h (.cells #[.bool a_1_0, .int .u64 a_1_1, .int .u64 a_1_2] T_api_Addr) fun t3 h1 => LoopV (fun (s : Int) h Kn => ref07_Contains_l1 l_0a l_0n l_0c t3 Q s h Kn) 0 h1
set_option maxRecDepth 100000 in
theorem ref07_Contains_s (l_0a : Option Addr) (l_0n l_0c : Nat) (a_1_0 : Bool) (a_1_1 a_1_2 : Int) {Q : QT} {h : Heap} (hk : ref07_Contains_v l_0a l_0n l_0c a_1_0 a_1_1 a_1_2 Q h) : CallT Try.prog fn_ref07_Contains #[.slice l_0a l_0n l_0c, .agg #[.bool a_1_0, .int .u64 a_1_1, .int .u64 a_1_2]] h Q :=
 callU follows Try.func38 (Try.call38 _) rfl rfl [] [(6, fun e h => dL (e 0) fun l_0a l_0n l_0c => dA (e 3) fun a_3 => dI .i64 (e 5) fun i_5 => LoopV (fun (s : Int) h Kn => ref07_Contains_l1 l_0a l_0n l_0c a_3 Q s h Kn) i_5 h)]
 trivial
 ⟨⟨by kernel_rfl, fun e h he hk => by
 have F := Ag.nil (e := e)
 have ⟨l_0a, l_0n, l_0c, F, hk⟩ := eL F hk
 have ⟨a_3, F, hk⟩ := eA F hk
 have ⟨i_5, F, hk⟩ := eI F hk
 exact loopU (s0 := i_5) follows (fun _ h => by cases h) he F (fun s => [(5, .int .i64 s)]) (by kernel_rfl) (F.take 1) hk (fun Kn1 e h => dI .i64 (e 5) fun i_5 => Kn1 i_5 h) (fun Kn1 e h hk => by
  have F := Ag.nil (e := e)
  have ⟨i_5, F, hk⟩ := eI F hk
  exact ⟨i_5, F, hk⟩)
  (fun Kn1 => []) (fun Kn1 => [])
  (fun Kn1 => trivial)
  (fun Kn1 => trivial) (fun e s h Kn1 => by as_aux_lemma => kernel_rfl)⟩, trivial⟩ (by as_aux_lemma => kernel_rfl) hk
/-! ### intrusion/intrusionref07.Of -/
def ref07_Of_l1 (l_0a : Option Addr) (l_0n l_0c : Nat) (Q : QT) (out_3a : Option Addr) (out_3n out_3c : Nat) (i_4 : Int) (h : Heap) (Kn1 : (Option Addr) × Nat × Nat × Int → Heap → Prop) : Prop :=
 if (decide (i_4 < ((l_0n : Nat) : Int))) = true then (idxA i_4 l_0n (nn l_0a fun t13 => ldB h (Addr.add t13 ((i_4).toNat * 4)) fun t14_0 => ldI h (Addr.add (Addr.add t13 ((i_4).toNat * 4)) 1) .u64 fun t14_1 => ldI h (Addr.add (Addr.add t13 ((i_4).toNat * 4)) 2) .u64 fun t14_2 => ldI h (Addr.add (Addr.add t13 ((i_4).toNat * 4)) 3) .i64 fun t14_3 => CallT Try.prog fn_ref07_Right #[.agg #[.bool t14_0, .int .u64 t14_1, .int .u64 t14_2, .int .i64 t14_3]] h fun v h1 => ∃ t15 : Bool, v = .bool t15 ∧ if t15 = true then (idxA i_4 l_0n (nn l_0a fun t19 => ldB h1 (Addr.add t19 ((i_4).toNat * 4)) fun t20_0 => ldI h1 (Addr.add (Addr.add t19 ((i_4).toNat * 4)) 1) .u64 fun t20_1 => ldI h1 (Addr.add (Addr.add t19 ((i_4).toNat * 4)) 2) .u64 fun t20_2 => ldI h1 (Addr.add (Addr.add t19 ((i_4).toNat * 4)) 3) .i64 fun t20_3 => CallT Try.prog fn_ref07_Block #[.agg #[.bool t20_0, .int .u64 t20_1, .int .u64 t20_2, .int .i64 t20_3]] h1 fun v h2 => ∃ t21_0 : Bool, ∃ t21_1 : Int, ∃ t21_2 : Int, ∃ t21_3 : Bool, ∃ t21_4 : Int, ∃ t21_5 : Int, v = .agg #[.bool t21_0, .int .u64 t21_1, .int .u64 t21_2, .bool t21_3, .int .u64 t21_4, .int .u64 t21_5] ∧ CallT Try.prog fn_ref07_add #[.slice out_3a out_3n out_3c, .agg #[.bool t21_0, .int .u64 t21_1, .int .u64 t21_2, .bool t21_3, .int .u64 t21_4, .int .u64 t21_5]] h2 fun v h3 => ∃ t22a : Option Addr, ∃ t22n : Nat, ∃ t22c : Nat, v = .slice t22a t22n t22c ∧ Kn1 (t22a, t22n, t22c, wrap .i64 (i_4 + 1)) h3)) else (Kn1 (out_3a, out_3n, out_3c, wrap .i64 (i_4 + 1)) h1))) else (Q (.slice out_3a out_3n out_3c) h)
def ref07_Of_v (l_0a : Option Addr) (l_0n l_0c : Nat) (Q : QT) (h : Heap) : Prop :=
 LoopV (fun (s : (Option Addr) × Nat × Nat × Int) h Kn => ref07_Of_l1 l_0a l_0n l_0c Q s.1 s.2.1 s.2.2.1 s.2.2.2 h Kn) (none, 0, 0, 0) h
set_option maxRecDepth 100000 in
theorem ref07_Of_s (l_0a : Option Addr) (l_0n l_0c : Nat) {Q : QT} {h : Heap} (hk : ref07_Of_v l_0a l_0n l_0c Q h) : CallT Try.prog fn_ref07_Of #[.slice l_0a l_0n l_0c] h Q :=
 callU follows Try.func39 (Try.call39 _) rfl rfl [] [(8, fun e h => dL (e 0) fun l_0a l_0n l_0c => dL (e 3) fun out_3a out_3n out_3c => dI .i64 (e 4) fun i_4 => LoopV (fun (s : (Option Addr) × Nat × Nat × Int) h Kn => ref07_Of_l1 l_0a l_0n l_0c Q s.1 s.2.1 s.2.2.1 s.2.2.2 h Kn) (out_3a, out_3n, out_3c, i_4) h)]
 trivial
 ⟨⟨by kernel_rfl, fun e h he hk => by
 have F := Ag.nil (e := e)
 have ⟨l_0a, l_0n, l_0c, F, hk⟩ := eL F hk
 have ⟨out_3a, out_3n, out_3c, F, hk⟩ := eL F hk
 have ⟨i_4, F, hk⟩ := eI F hk
 exact loopU (s0 := (out_3a, out_3n, out_3c, i_4)) follows (fun _ h => by cases h) he F (fun s => [(4, .int .i64 s.2.2.2), (3, .slice s.1 s.2.1 s.2.2.1)]) (by kernel_rfl) (F.take 2) hk (fun Kn1 e h => dL (e 3) fun out_3a out_3n out_3c => dI .i64 (e 4) fun i_4 => Kn1 (out_3a, out_3n, out_3c, i_4) h) (fun Kn1 e h hk => by
  have F := Ag.nil (e := e)
  have ⟨out_3a, out_3n, out_3c, F, hk⟩ := eL F hk
  have ⟨i_4, F, hk⟩ := eI F hk
  exact ⟨(out_3a, out_3n, out_3c, i_4), F, hk⟩)
  (fun Kn1 => []) (fun Kn1 => [])
  (fun Kn1 => trivial)
  (fun Kn1 => trivial) (fun e s h Kn1 => by as_aux_lemma => kernel_rfl)⟩, trivial⟩ (by as_aux_lemma => kernel_rfl) hk
/-! ### cmp.Or[int] -/
def cmp_Or_int_l1 (zero_3 : Int) (t6a : Option Addr) (t6n t6c : Nat) (t7 : Int) (Q : QT) (t8 : Int) (h : Heap) (Kn1 : Int → Heap → Prop) : Prop :=
 if (decide (t8 < t7)) = true then (idxA t8 t6n (nn t6a fun t10 => ldI h (Addr.add t10 ((t8).toNat * 1)) .i64 fun t11 => if (t11 != zero_3) = true then (Q (.int .i64 t11) h) else (Kn1 (wrap .i64 (t8 + 1)) h))) else (Q (.int .i64 zero_3) h)
def cmp_Or_int_v (vals_0a : Option Addr) (vals_0n vals_0c : Nat) (Q : QT) (h : Heap) : Prop :=
 LoopV (fun (s : Int) h Kn => cmp_Or_int_l1 0 vals_0a vals_0n vals_0c ((vals_0n : Nat) : Int) Q s h Kn) 0 h
set_option maxRecDepth 100000 in
theorem cmp_Or_int_s (vals_0a : Option Addr) (vals_0n vals_0c : Nat) {Q : QT} {h : Heap} (hk : cmp_Or_int_v vals_0a vals_0n vals_0c Q h) : CallT Try.prog fn_cmp_Or_int #[.slice vals_0a vals_0n vals_0c] h Q :=
 callU follows Try.func40 (Try.call40 _) rfl rfl [] [(8, fun e h => dI .i64 (e 3) fun zero_3 => dL (e 6) fun t6a t6n t6c => dI .i64 (e 7) fun t7 => dI .i64 (e 8) fun t8 => LoopV (fun (s : Int) h Kn => cmp_Or_int_l1 zero_3 t6a t6n t6c t7 Q s h Kn) t8 h)]
 trivial
 ⟨⟨by kernel_rfl, fun e h he hk => by
 have F := Ag.nil (e := e)
 have ⟨zero_3, F, hk⟩ := eI F hk
 have ⟨t6a, t6n, t6c, F, hk⟩ := eL F hk
 have ⟨t7, F, hk⟩ := eI F hk
 have ⟨t8, F, hk⟩ := eI F hk
 exact loopU (s0 := t8) follows (fun _ h => by cases h) he F (fun s => [(8, .int .i64 s)]) (by kernel_rfl) (F.take 1) hk (fun Kn1 e h => dI .i64 (e 8) fun t8 => Kn1 t8 h) (fun Kn1 e h hk => by
  have F := Ag.nil (e := e)
  have ⟨t8, F, hk⟩ := eI F hk
  exact ⟨t8, F, hk⟩)
  (fun Kn1 => []) (fun Kn1 => [])
  (fun Kn1 => trivial)
  (fun Kn1 => trivial) (fun e s h Kn1 => by as_aux_lemma => kernel_rfl)⟩, trivial⟩ (by as_aux_lemma => kernel_rfl) hk
/-! ### cmp.Compare[int] -/
def cmp_Compare_int_v (x_0 y_1 : Int) (Q : QT) (h : Heap) : Prop :=
 CallT Try.prog fn_cmp_isNaN_int #[.int .i64 x_0] h fun v h1 => ∃ t8 : Bool, v = .bool t8 ∧ CallT Try.prog fn_cmp_isNaN_int #[.int .i64 y_1] h1 fun v h2 => ∃ t10 : Bool, v = .bool t10 ∧ if t8 = true then (if t10 = true then (Q (.int .i64 0) h2) else (Q (.int .i64 (-1)) h2)) else (if t10 = true then (Q (.int .i64 1) h2) else (if (decide (x_0 < y_1)) = true then (Q (.int .i64 (-1)) h2) else (if (decide (x_0 > y_1)) = true then (Q (.int .i64 1) h2) else (Q (.int .i64 0) h2))))
set_option maxRecDepth 100000 in
theorem cmp_Compare_int_s (x_0 y_1 : Int) {Q : QT} {h : Heap} (hk : cmp_Compare_int_v x_0 y_1 Q h) : CallT Try.prog fn_cmp_Compare_int #[.int .i64 x_0, .int .i64 y_1] h Q :=
 callU follows Try.func41 (Try.call41 _) rfl rfl [] []
 trivial
 trivial (by as_aux_lemma => kernel_rfl) hk
/-! ### intrusion/address.Compare -/
def address_Compare_v (a_0_0 : Bool) (a_0_1 a_0_2 : Int) (b_1_0 : Bool) (b_1_1 b_1_2 : Int) (Q : QT) (h : Heap) : Prop :=
 alV h (.cells #[.bool a_0_0, .int .u64 a_0_1, .int .u64 a_0_2] T_api_Addr) fun t2 h1 => alV h1 (.cells #[.bool b_1_0, .int .u64 b_1_1, .int .u64 b_1_2] T_api_Addr) fun t3 h2 => ldB h2 t2 fun t6_0 => ldI h2 (Addr.add t2 1) .u64 fun t6_1 => ldI h2 (Addr.add t2 2) .u64 fun t6_2 => ldB h2 t3 fun t7_0 => ldI h2 (Addr.add t3 1) .u64 fun t7_1 => ldI h2 (Addr.add t3 2) .u64 fun t7_2 => if ((t6_0 == t7_0) && ((t6_1 == t7_1) && ((t6_2 == t7_2) && true))) = true then (Q (.int .i64 0) h2) else (ldB h2 t2 fun t11 => ldB h2 t3 fun t13 => if (!(t11 == t13)) = true then (ldB h2 t3 fun t16 => if t16 = true then (Q (.int .i64 (-1)) h2) else (Q (.int .i64 1) h2)) else (ldI h2 (Addr.add t2 1) .u64 fun t19 => ldI h2 (Addr.add t3 1) .u64 fun t21 => if (t19 != t21) = true then (ldI h2 (Addr.add t2 1) .u64 fun t24 => ldI h2 (Addr.add t3 1) .u64 fun t26 => if (decide (t24 < t26)) = true then (Q (.int .i64 (-1)) h2) else (Q (.int .i64 1) h2)) else (ldI h2 (Addr.add t2 2) .u64 fun t30 => ldI h2 (Addr.add t3 2) .u64 fun t32 => if (decide (t30 < t32)) = true then (Q (.int .i64 (-1)) h2) else (Q (.int .i64 1) h2))))
set_option maxRecDepth 100000 in
theorem address_Compare_s (a_0_0 : Bool) (a_0_1 a_0_2 : Int) (b_1_0 : Bool) (b_1_1 b_1_2 : Int) {Q : QT} {h : Heap} (hk : address_Compare_v a_0_0 a_0_1 a_0_2 b_1_0 b_1_1 b_1_2 Q h) : CallT Try.prog fn_address_Compare #[.agg #[.bool a_0_0, .int .u64 a_0_1, .int .u64 a_0_2], .agg #[.bool b_1_0, .int .u64 b_1_1, .int .u64 b_1_2]] h Q :=
 callU follows Try.func42 (Try.call42 _) rfl rfl [] []
 trivial
 trivial (by as_aux_lemma => kernel_rfl) hk
/-! ### intrusion/address.low -/
def address_low_v (n_0 : Int) (Q : QT) (h : Heap) : Prop :=
 if (decide (n_0 ≥ 64)) = true then (Q (.int .u64 18446744073709551615) h) else (if (decide (n_0 ≤ 0)) = true then (Q (.int .u64 0) h) else (0 ≤ n_0 ∧ Q (.int .u64 (wrap .u64 ((wrap .u64 (1 * 2 ^ (min (Int.toNat n_0) (IntKind.bits .u64)))) - 1))) h))
set_option maxRecDepth 100000 in
theorem address_low_s (n_0 : Int) {Q : QT} {h : Heap} (hk : address_low_v n_0 Q h) : CallT Try.prog fn_address_low #[.int .i64 n_0] h Q :=
 callU follows Try.func43 (Try.call43 _) rfl rfl [] []
 trivial
 trivial (by as_aux_lemma => kernel_rfl) hk
/-! ### intrusion/intrusionref07.Fine -/
def ref07_Fine_v (a_0_0 : Bool) (a_0_1 a_0_2 : Int) (Q : QT) (h : Heap) : Prop :=
 alV h (.cells #[.bool a_0_0, .int .u64 a_0_1, .int .u64 a_0_2] T_api_Addr) fun t1 h1 => ldB h1 t1 fun t4 => if t4 = true then (Q (.bool true) h1) else (ldI h1 (Addr.add t1 1) .u64 fun t7 => if (t7 == 0) = true then (ldI h1 (Addr.add t1 2) .u64 fun t11 => Q (.bool (decide (t11 < 4294967296))) h1) else (Q (.bool false) h1))
set_option maxRecDepth 100000 in
theorem ref07_Fine_s (a_0_0 : Bool) (a_0_1 a_0_2 : Int) {Q : QT} {h : Heap} (hk : ref07_Fine_v a_0_0 a_0_1 a_0_2 Q h) : CallT Try.prog fn_ref07_Fine #[.agg #[.bool a_0_0, .int .u64 a_0_1, .int .u64 a_0_2]] h Q :=
 callU follows Try.func44 (Try.call44 _) rfl rfl [] []
 trivial
 trivial (by as_aux_lemma => kernel_rfl) hk
/-! ### intrusion/intrusionref07.Some -/
def ref07_Some_v (r_0_0 : Bool) (r_0_1 r_0_2 : Int) (r_0_3 : Bool) (r_0_4 r_0_5 : Int) (Q : QT) (h : Heap) : Prop :=
 alV h (.cells #[.bool r_0_0, .int .u64 r_0_1, .int .u64 r_0_2, .bool r_0_3, .int .u64 r_0_4, .int .u64 r_0_5] T_api_Range) fun t1 h1 => ldB h1 t1 fun t4_0 => ldI h1 (Addr.add t1 1) .u64 fun t4_1 => ldI h1 (Addr.add t1 2) .u64 fun t4_2 => CallT Try.prog fn_ref07_Fine #[.agg #[.bool t4_0, .int .u64 t4_1, .int .u64 t4_2]] h1 fun v h2 => ∃ t5 : Bool, v = .bool t5 ∧ if t5 = true then (ldB h2 (Addr.add t1 3) fun t8_0 => ldI h2 (Addr.add (Addr.add t1 3) 1) .u64 fun t8_1 => ldI h2 (Addr.add (Addr.add t1 3) 2) .u64 fun t8_2 => CallT Try.prog fn_ref07_Fine #[.agg #[.bool t8_0, .int .u64 t8_1, .int .u64 t8_2]] h2 fun v h3 => ∃ t9 : Bool, v = .bool t9 ∧ if t9 = true then (ldB h3 t1 fun t14 => ldB h3 (Addr.add t1 3) fun t17 => if (t14 == t17) = true then (ldB h3 (Addr.add t1 3) fun t22_0 => ldI h3 (Addr.add (Addr.add t1 3) 1) .u64 fun t22_1 => ldI h3 (Addr.add (Addr.add t1 3) 2) .u64 fun t22_2 => ldB h3 t1 fun t24_0 => ldI h3 (Addr.add t1 1) .u64 fun t24_1 => ldI h3 (Addr.add t1 2) .u64 fun t24_2 => CallT Try.prog fn_ref07_Before #[.agg #[.bool t22_0, .int .u64 t22_1, .int .u64 t22_2], .agg #[.bool t24_0, .int .u64 t24_1, .int .u64 t24_2]] h3 fun v h4 => ∃ t25 : Bool, v = .bool t25 ∧ Q (.bool (!t25)) h4) else (Q (.bool false) h3)) else (Q (.bool false) h3)) else (Q (.bool false) h2)
set_option maxRecDepth 100000 in
theorem ref07_Some_s (r_0_0 : Bool) (r_0_1 r_0_2 : Int) (r_0_3 : Bool) (r_0_4 r_0_5 : Int) {Q : QT} {h : Heap} (hk : ref07_Some_v r_0_0 r_0_1 r_0_2 r_0_3 r_0_4 r_0_5 Q h) : CallT Try.prog fn_ref07_Some #[.agg #[.bool r_0_0, .int .u64 r_0_1, .int .u64 r_0_2, .bool r_0_3, .int .u64 r_0_4, .int .u64 r_0_5]] h Q :=
 callU follows Try.func45 (Try.call45 _) rfl rfl [] []
 trivial
 trivial (by as_aux_lemma => kernel_rfl) hk
/-! ### intrusion/intrusionref07.Right -/
def ref07_Right_v (p_0_0 : Bool) (p_0_1 p_0_2 p_0_3 : Int) (Q : QT) (h : Heap) : Prop :=
 alV h (.cells #[.bool p_0_0, .int .u64 p_0_1, .int .u64 p_0_2, .int .i64 p_0_3] T_api_Prefix) fun t1 h1 => ldB h1 t1 fun t6_0 => ldI h1 (Addr.add t1 1) .u64 fun t6_1 => ldI h1 (Addr.add t1 2) .u64 fun t6_2 => CallT Try.prog fn_ref07_Fine #[.agg #[.bool t6_0, .int .u64 t6_1, .int .u64 t6_2]] h1 fun v h2 => ∃ t7 : Bool, v = .bool t7 ∧ if (!t7) = true then (Q (.bool false) h2) else (ldI h2 (Addr.add t1 3) .i64 fun t11 => if (decide (t11 < 0)) = true then (Q (.bool false) h2) else (ldI h2 (Addr.add t1 3) .i64 fun t16 => ldB h2 t1 fun t18_0 => ldI h2 (Addr.add t1 1) .u64 fun t18_1 => ldI h2 (Addr.add t1 2) .u64 fun t18_2 => CallT Try.prog fn_ref07_Size #[.agg #[.bool t18_0, .int .u64 t18_1, .int .u64 t18_2]] h2 fun v h3 => ∃ t19 : Int, v = .int .i64 t19 ∧ (ldI h3 (Addr.add t1 3) .i64 fun t916 => (.int .i64 t916 : Value) = .int .i64 t16) ∧ if (decide (t16 > t19)) = true then (Q (.bool false) h3) else (ldB h3 t1 fun t24_0 => ldI h3 (Addr.add t1 1) .u64 fun t24_1 => ldI h3 (Addr.add t1 2) .u64 fun t24_2 => ldI h3 (Addr.add t1 3) .i64 fun t27 => CallT Try.prog fn_ref07_Size #[.agg #[.bool t24_0, .int .u64 t24_1, .int .u64 t24_2]] h3 fun v h4 => ∃ t25 : Int, v = .int .i64 t25 ∧ (ldI h4 (Addr.add t1 3) .i64 fun t927 => (.int .i64 t927 : Value) = .int .i64 t27) ∧ CallT Try.prog fn_ref07_Mask #[.int .i64 (wrap .i64 (t25 - t27))] h4 fun v h5 => ∃ t29_0 : Int, ∃ t29_1 : Int, v = .tuple #[.int .u64 t29_0, .int .u64 t29_1] ∧ ldI h5 (Addr.add t1 1) .u64 fun t34 => if ((wrap .u64 (BitVec.toNat (BitVec.ofInt (IntKind.bits .u64) t34 &&& BitVec.ofInt (IntKind.bits .u64) t29_0) : Int)) == 0) = true then (ldI h5 (Addr.add t1 2) .u64 fun t41 => Q (.bool ((wrap .u64 (BitVec.toNat (BitVec.ofInt (IntKind.bits .u64) t41 &&& BitVec.ofInt (IntKind.bits .u64) t29_1) : Int)) == 0)) h5) else (Q (.bool false) h5))))
set_option maxRecDepth 100000 in
theorem ref07_Right_s (p_0_0 : Bool) (p_0_1 p_0_2 p_0_3 : Int) {Q : QT} {h : Heap} (hk : ref07_Right_v p_0_0 p_0_1 p_0_2 p_0_3 Q h) : CallT Try.prog fn_ref07_Right #[.agg #[.bool p_0_0, .int .u64 p_0_1, .int .u64 p_0_2, .int .i64 p_0_3]] h Q :=
 callU follows Try.func46 (Try.call46 _) rfl rfl [] []
 trivial
 trivial (by as_aux_lemma => kernel_rfl) hk
/-! ### intrusion/intrusionref07.add -/
def ref07_add_b6 (l_0a : Option Addr) (l_0n l_0c : Nat) (r_3 : Addr) (out_5a : Option Addr) (out_5n out_5c : Nat) (done_6 : Bool) (i_7 : Int) (x_8 : Addr) (Q : QT) (Kn1 : (Option Addr) × Nat × Nat × Bool × Int → Heap → Prop) (h : Heap) : Prop :=
 ldB h x_8 fun t34_0 => ldI h (Addr.add x_8 1) .u64 fun t34_1 => ldI h (Addr.add x_8 2) .u64 fun t34_2 => ldB h (Addr.add x_8 3) fun t34_3 => ldI h (Addr.add x_8 4) .u64 fun t34_4 => ldI h (Addr.add x_8 5) .u64 fun t34_5 => alV h (.cells #[.bool t34_0, .int .u64 t34_1, .int .u64 t34_2, .bool t34_3, .int .u64 t34_4, .int .u64 t34_5] T_api_Range) fun t35 h6 => bltV Try.prog .append #[T_sl_api_Range, T_sl_api_Range] T_sl_api_Range #[false, false] #[.slice out_5a out_5n out_5c, .slice (some t35) 1 1] h6 fun v h7 => ∃ t36a : Option Addr, ∃ t36n : Nat, ∃ t36c : Nat, v = .slice t36a t36n t36c ∧ Kn1 (t36a, t36n, t36c, done_6, wrap .i64 (i_7 + 1)) h7
def ref07_add_b2 (l_0a : Option Addr) (l_0n l_0c : Nat) (r_3 : Addr) (out_5a : Option Addr) (out_5n out_5c : Nat) (done_6 : Bool) (i_7 : Int) (x_8 : Addr) (Q : QT) (Kn1 : (Option Addr) × Nat × Nat × Bool × Int → Heap → Prop) (h : Heap) : Prop :=
 ldB h (Addr.add r_3 3) fun t62_0 => ldI h (Addr.add (Addr.add r_3 3) 1) .u64 fun t62_1 => ldI h (Addr.add (Addr.add r_3 3) 2) .u64 fun t62_2 => ldB h (Addr.add x_8 3) fun t64_0 => ldI h (Addr.add (Addr.add x_8 3) 1) .u64 fun t64_1 => ldI h (Addr.add (Addr.add x_8 3) 2) .u64 fun t64_2 => CallT Try.prog fn_ref07_Before #[.agg #[.bool t62_0, .int .u64 t62_1, .int .u64 t62_2], .agg #[.bool t64_0, .int .u64 t64_1, .int .u64 t64_2]] h fun v h14 => ∃ t65 : Bool, v = .bool t65 ∧ if t65 = true then (ldB h14 (Addr.add x_8 3) fun t67_0 => ldI h14 (Addr.add (Addr.add x_8 3) 1) .u64 fun t67_1 => ldI h14 (Addr.add (Addr.add x_8 3) 2) .u64 fun t67_2 => stN h14 (Addr.add r_3 3) [.bool t67_0, .int .u64 t67_1, .int .u64 t67_2] 0 fun h15 => Kn1 (out_5a, out_5n, out_5c, done_6, wrap .i64 (i_7 + 1)) h15) else (Kn1 (out_5a, out_5n, out_5c, done_6, wrap .i64 (i_7 + 1)) h14)
def ref07_add_b5 (l_0a : Option Addr) (l_0n l_0c : Nat) (r_3 : Addr) (out_5a : Option Addr) (out_5n out_5c : Nat) (done_6 : Bool) (i_7 : Int) (x_8 : Addr) (Q : QT) (Kn1 : (Option Addr) × Nat × Nat × Bool × Int → Heap → Prop) (h : Heap) : Prop :=
 ldB h x_8 fun t54_0 => ldI h (Addr.add x_8 1) .u64 fun t54_1 => ldI h (Addr.add x_8 2) .u64 fun t54_2 => ldB h r_3 fun t56_0 => ldI h (Addr.add r_3 1) .u64 fun t56_1 => ldI h (Addr.add r_3 2) .u64 fun t56_2 => CallT Try.prog fn_ref07_Before #[.agg #[.bool t54_0, .int .u64 t54_1, .int .u64 t54_2], .agg #[.bool t56_0, .int .u64 t56_1, .int .u64 t56_2]] h fun v h12 => ∃ t57 : Bool, v = .bool t57 ∧ if t57 = true then (ldB h12 x_8 fun t59_0 => ldI h12 (Addr.add x_8 1) .u64 fun t59_1 => ldI h12 (Addr.add x_8 2) .u64 fun t59_2 => stN h12 r_3 [.bool t59_0, .int .u64 t59_1, .int .u64 t59_2] 0 fun h13 => ref07_add_b2 l_0a l_0n l_0c r_3 out_5a out_5n out_5c done_6 i_7 x_8 Q Kn1 h13) else (ref07_add_b2 l_0a l_0n l_0c r_3 out_5a out_5n out_5c done_6 i_7 x_8 Q Kn1 h12)
def ref07_add_b4 (l_0a : Option Addr) (l_0n l_0c : Nat) (r_3 : Addr) (out_5a : Option Addr) (out_5n out_5c : Nat) (done_6 : Bool) (i_7 : Int) (x_8 : Addr) (Q : QT) (Kn1 : (Option Addr) × Nat × Nat × Bool × Int → Heap → Prop) (h : Heap) : Prop :=
 ldB h (Addr.add r_3 3) fun t38_0 => ldI h (Addr.add (Addr.add r_3 3) 1) .u64 fun t38_1 => ldI h (Addr.add (Addr.add r_3 3) 2) .u64 fun t38_2 => ldB h x_8 fun t40_0 => ldI h (Addr.add x_8 1) .u64 fun t40_1 => ldI h (Addr.add x_8 2) .u64 fun t40_2 => CallT Try.prog fn_ref07_Before #[.agg #[.bool t38_0, .int .u64 t38_1, .int .u64 t38_2], .agg #[.bool t40_0, .int .u64 t40_1, .int .u64 t40_2]] h fun v h8 => ∃ t41 : Bool, v = .bool t41 ∧ if t41 = true then (ldB h8 r_3 fun t43_0 => ldI h8 (Addr.add r_3 1) .u64 fun t43_1 => ldI h8 (Addr.add r_3 2) .u64 fun t43_2 => ldB h8 (Addr.add r_3 3) fun t43_3 => ldI h8 (Addr.add r_3 4) .u64 fun t43_4 => ldI h8 (Addr.add r_3 5) .u64 fun t43_5 => ldB h8 x_8 fun t44_0 => ldI h8 (Addr.add x_8 1) .u64 fun t44_1 => ldI h8 (Addr.add x_8 2) .u64 fun t44_2 => ldB h8 (Addr.add x_8 3) fun t44_3 => ldI h8 (Addr.add x_8 4) .u64 fun t44_4 => ldI h8 (Addr.add x_8 5) .u64 fun t44_5 => CallT Try.prog fn_ref07_joined #[.agg #[.bool t43_0, .int .u64 t43_1, .int .u64 t43_2, .bool t43_3, .int .u64 t43_4, .int .u64 t43_5], .agg #[.bool t44_0, .int .u64 t44_1, .int .u64 t44_2, .bool t44_3, .int .u64 t44_4, .int .u64 t44_5]] h8 fun v h9 => ∃ t45 : Bool, v = .bool t45 ∧ if (!t45) = true then (ldB h9 r_3 fun t49_0 => ldI h9 (Addr.add r_3 1) .u64 fun t49_1 => ldI h9 (Addr.add r_3 2) .u64 fun t49_2 => ldB h9 (Addr.add r_3 3) fun t49_3 => ldI h9 (Addr.add r_3 4) .u64 fun t49_4 => ldI h9 (Addr.add r_3 5) .u64 fun t49_5 => ldB h9 x_8 fun t50_0 => ldI h9 (Addr.add x_8 1) .u64 fun t50_1 => ldI h9 (Addr.add x_8 2) .u64 fun t50_2 => ldB h9 (Addr.add x_8 3) fun t50_3 => ldI h9 (Addr.add x_8 4) .u64 fun t50_4 => ldI h9 (Addr.add x_8 5) .u64 fun t50_5 => alV h9 (.cells #[.bool t49_0, .int .u64 t49_1, .int .u64 t49_2, .bool t49_3, .int .u64 t49_4, .int .u64 t49_5, .bool t50_0, .int .u64 t50_1, .int .u64 t50_2, .bool t50_3, .int .u64 t50_4, .int .u64 t50_5] T_api_Range) fun t51 h10 => bltV Try.prog .append #[T_sl_api_Range, T_sl_api_Range] T_sl_api_Range #[false, false] #[.slice out_5a out_5n out_5c, .slice (some t51) 2 2] h10 fun v h11 => ∃ t52a : Option Addr, ∃ t52n : Nat, ∃ t52c : Nat, v = .slice t52a t52n t52c ∧ Kn1 (t52a, t52n, t52c, true, wrap .i64 (i_7 + 1)) h11) else (ref07_add_b5 l_0a l_0n l_0c r_3 out_5a out_5n out_5c done_6 i_7 x_8 Q Kn1 h9)) else (ref07_add_b5 l_0a l_0n l_0c r_3 out_5a out_5n out_5c done_6 i_7 x_8 Q Kn1 h8)
def ref07_add_b3 (r_3 : Addr) (out_5a : Option Addr) (out_5n out_5c : Nat) (done_6 : Bool) (Q : QT) (h : Heap) : Prop :=
 if (!done_6) = true then (ldB h r_3 fun t72_0 => ldI h (Addr.add r_3 1) .u64 fun t72_1 => ldI h (Addr.add r_3 2) .u64 fun t72_2 => ldB h (Addr.add r_3 3) fun t72_3 => ldI h (Addr.add r_3 4) .u64 fun t72_4 => ldI h (Addr.add r_3 5) .u64 fun t72_5 => alV h (.cells #[.bool t72_0, .int .u64 t72_1, .int .u64 t72_2, .bool t72_3, .int .u64 t72_4, .int .u64 t72_5] T_api_Range) fun t73 h16 => bltV Try.prog .append #[T_sl_api_Range, T_sl_api_Range] T_sl_api_Range #[false, false] #[.slice out_5a out_5n out_5c, .slice (some t73) 1 1] h16 fun v h17 => ∃ t74a : Option Addr, ∃ t74n : Nat, ∃ t74c : Nat, v = .slice t74a t74n t74c ∧ Q (.slice t74a t74n t74c) h17) else (Q (.slice out_5a out_5n out_5c) h)
def ref07_add_l1 (l_0a : Option Addr) (l_0n l_0c : Nat) (r_3 : Addr) (Q : QT) (out_5a : Option Addr) (out_5n out_5c : Nat) (done_6 : Bool) (i_7 : Int) (h : Heap) (Kn1 : (Option Addr) × Nat × Nat × Bool × Int → Heap → Prop) : Prop :=
 if (decide (i_7 < ((l_0n : Nat) : Int))) = true then (idxA i_7 l_0n (nn l_0a fun t17 => ldB h (Addr.add t17 ((i_7).toNat * 6)) fun t18_0 => ldI h (Addr.add (Addr.add t17 ((i_7).toNat * 6)) 1) .u64 fun t18_1 => ldI h (Addr.add (Addr.add t17 ((i_7).toNat * 6)) 2) .u64 fun t18_2 => ldB h (Addr.add (Addr.add t17 ((i_7).toNat * 6)) 3) fun t18_3 => ldI h (Addr.add (Addr.add t17 ((i_7).toNat * 6)) 4) .u64 fun t18_4 => ldI h (Addr.add (Addr.add t17 ((i_7).toNat * 6)) 5) .u64 fun t18_5 => alV h (.cells #[.bool false, .int .u64 0, .int .u64 0, .bool false, .int .u64 0, .int .u64 0] T_api_Range) fun t8 h2 => stN h2 t8 [.bool t18_0, .int .u64 t18_1, .int .u64 t18_2, .bool t18_3, .int .u64 t18_4, .int .u64 t18_5] 0 fun h3 => if done_6 = true then (ref07_add_b6 l_0a l_0n l_0c r_3 out_5a out_5n out_5c done_6 i_7 t8 Q Kn1 h3) else (ldB h3 (Addr.add t8 3) fun t22_0 => ldI h3 (Addr.add (Addr.add t8 3) 1) .u64 fun t22_1 => ldI h3 (Addr.add (Addr.add t8 3) 2) .u64 fun t22_2 => ldB h3 r_3 fun t24_0 => ldI h3 (Addr.add r_3 1) .u64 fun t24_1 => ldI h3 (Addr.add r_3 2) .u64 fun t24_2 => CallT Try.prog fn_ref07_Before #[.agg #[.bool t22_0, .int .u64 t22_1, .int .u64 t22_2], .agg #[.bool t24_0, .int .u64 t24_1, .int .u64 t24_2]] h3 fun v h4 => ∃ t25 : Bool, v = .bool t25 ∧ if t25 = true then (ldB h4 t8 fun t27_0 => ldI h4 (Addr.add t8 1) .u64 fun t27_1 => ldI h4 (Addr.add t8 2) .u64 fun t27_2 => ldB h4 (Addr.add t8 3) fun t27_3 => ldI h4 (Addr.add t8 4) .u64 fun t27_4 => ldI h4 (Addr.add t8 5) .u64 fun t27_5 => ldB h4 r_3 fun t28_0 => ldI h4 (Addr.add r_3 1) .u64 fun t28_1 => ldI h4 (Addr.add r_3 2) .u64 fun t28_2 => ldB h4 (Addr.add r_3 3) fun t28_3 => ldI h4 (Addr.add r_3 4) .u64 fun t28_4 => ldI h4 (Addr.add r_3 5) .u64 fun t28_5 => CallT Try.prog fn_ref07_joined #[.agg #[.bool t27_0, .int .u64 t27_1, .int .u64 t27_2, .bool t27_3, .int .u64 t27_4, .int .u64 t27_5], .agg #[.bool t28_0, .int .u64 t28_1, .int .u64 t28_2, .bool t28_3, .int .u64 t28_4, .int .u64 t28_5]] h4 fun v h5 => ∃ t29 : Bool, v = .bool t29 ∧ if (!t29) = true then (ref07_add_b6 l_0a l_0n l_0c r_3 out_5a out_5n out_5c done_6 i_7 t8 Q Kn1 h5) else (ref07_add_b4 l_0a l_0n l_0c r_3 out_5a out_5n out_5c done_6 i_7 t8 Q Kn1 h5)) else (ref07_add_b4 l_0a l_0n l_0c r_3 out_5a out_5n out_5c done_6 i_7 t8 Q Kn1 h4)))) else (ref07_add_b3 r_3 out_5a out_5n out_5c done_6 Q h)
def ref07_add_v (l_0a : Option Addr) (l_0n l_0c : Nat) (r_1_0 : Bool) (r_1_1 r_1_2 : Int) (r_1_3 : Bool) (r_1_4 r_1_5 : Int) (Q : QT) (h : Heap) : Prop :=
 alV h (.cells #[.bool r_1_0, .int .u64 r_1_1, .int .u64 r_1_2, .bool r_1_3, .int .u64 r_1_4, .int .u64 r_1_5] T_api_Range) fun t3 h1 => LoopV (fun (s : (Option Addr) × Nat × Nat × Bool × Int) h Kn => ref07_add_l1 l_0a l_0n l_0c t3 Q s.1 s.2.1 s.2.2.1 s.2.2.2.1 s.2.2.2.2 h Kn) (none, 0, 0, false, 0) h1
set_option maxRecDepth 100000 in
theorem ref07_add_s (l_0a : Option Addr) (l_0n l_0c : Nat) (r_1_0 : Bool) (r_1_1 r_1_2 : Int) (r_1_3 : Bool) (r_1_4 r_1_5 : Int) {Q : QT} {h : Heap} (hk : ref07_add_v l_0a l_0n l_0c r_1_0 r_1_1 r_1_2 r_1_3 r_1_4 r_1_5 Q h) : CallT Try.prog fn_ref07_add #[.slice l_0a l_0n l_0c, .agg #[.bool r_1_0, .int .u64 r_1_1, .int .u64 r_1_2, .bool r_1_3, .int .u64 r_1_4, .int .u64 r_1_5]] h Q :=
 callU follows Try.func47 (Try.call47 _) rfl rfl [(34, fun e h => dA (e 3) fun r_3 => dL (e 5) fun out_5a out_5n out_5c => dB (e 6) fun done_6 => ref07_add_b3 r_3 out_5a out_5n out_5c done_6 Q h)] [(10, fun e h => dL (e 0) fun l_0a l_0n l_0c => dA (e 3) fun r_3 => dL (e 5) fun out_5a out_5n out_5c => dB (e 6) fun done_6 => dI .i64 (e 7) fun i_7 => LoopV (fun (s : (Option Addr) × Nat × Nat × Bool × Int) h Kn => ref07_add_l1 l_0a l_0n l_0c r_3 Q s.1 s.2.1 s.2.2.1 s.2.2.2.1 s.2.2.2.2 h Kn) (out_5a, out_5n, out_5c, done_6, i_7) h)]
 ⟨fun e h _ hk => by
 have F := Ag.nil (e := e)
 have ⟨r_3, F, hk⟩ := eA F hk
 have ⟨out_5a, out_5n, out_5c, F, hk⟩ := eL F hk
 have ⟨done_6, F, hk⟩ := eB F hk
 exact cutU F (by as_aux_lemma => kernel_rfl) hk, trivial⟩
 ⟨⟨by kernel_rfl, fun e h he hk => by
 have F := Ag.nil (e := e)
 have ⟨l_0a, l_0n, l_0c, F, hk⟩ := eL F hk
 have ⟨r_3, F, hk⟩ := eA F hk
 have ⟨out_5a, out_5n, out_5c, F, hk⟩ := eL F hk
 have ⟨done_6, F, hk⟩ := eB F hk
 have ⟨i_7, F, hk⟩ := eI F hk
 exact loopU (s0 := (out_5a, out_5n, out_5c, done_6, i_7)) follows (fun _ h => by cases h) he F (fun s => [(7, .int .i64 s.2.2.2.2), (6, .bool s.2.2.2.1), (5, .slice s.1 s.2.1 s.2.2.1)]) (by kernel_rfl) (F.take 3) hk (fun Kn1 e h => dL (e 5) fun out_5a out_5n out_5c => dB (e 6) fun done_6 => dI .i64 (e 7) fun i_7 => Kn1 (out_5a, out_5n, out_5c, done_6, i_7) h) (fun Kn1 e h hk => by
  have F := Ag.nil (e := e)
  have ⟨out_5a, out_5n, out_5c, F, hk⟩ := eL F hk
  have ⟨done_6, F, hk⟩ := eB F hk
  have ⟨i_7, F, hk⟩ := eI F hk
  exact ⟨(out_5a, out_5n, out_5c, done_6, i_7), F, hk⟩)
  (fun Kn1 => [(19, fun e h => dL (e 0) fun l_0a l_0n l_0c => dA (e 3) fun r_3 => dL (e 5) fun out_5a out_5n out_5c => dB (e 6) fun done_6 => dI .i64 (e 7) fun i_7 => dA (e 8) fun x_8 => ref07_add_b6 l_0a l_0n l_0c r_3 out_5a out_5n out_5c done_6 i_7 x_8 Q Kn1 h), (20, fun e h => dL (e 0) fun l_0a l_0n l_0c => dA (e 3) fun r_3 => dL (e 5) fun out_5a out_5n out_5c => dB (e 6) fun done_6 => dI .i64 (e 7) fun i_7 => dA (e 8) fun x_8 => ref07_add_b4 l_0a l_0n l_0c r_3 out_5a out_5n out_5c done_6 i_7 x_8 Q Kn1 h), (26, fun e h => dL (e 0) fun l_0a l_0n l_0c => dA (e 3) fun r_3 => dL (e 5) fun out_5a out_5n out_5c => dB (e 6) fun done_6 => dI .i64 (e 7) fun i_7 => dA (e 8) fun x_8 => ref07_add_b5 l_0a l_0n l_0c r_3 out_5a out_5n out_5c done_6 i_7 x_8 Q Kn1 h), (30, fun e h => dL (e 0) fun l_0a l_0n l_0c => dA (e 3) fun r_3 => dL (e 5) fun out_5a out_5n out_5c => dB (e 6) fun done_6 => dI .i64 (e 7) fun i_7 => dA (e 8) fun x_8 => ref07_add_b2 l_0a l_0n l_0c r_3 out_5a out_5n out_5c done_6 i_7 x_8 Q Kn1 h)]) (fun Kn1 => [])
  (fun Kn1 => ⟨fun e h _ hk => by
 have F := Ag.nil (e := e)
 have ⟨l_0a, l_0n, l_0c, F, hk⟩ := eL F hk
 have ⟨r_3, F, hk⟩ := eA F hk
 have ⟨out_5a, out_5n, out_5c, F, hk⟩ := eL F hk
 have ⟨done_6, F, hk⟩ := eB F hk
 have ⟨i_7, F, hk⟩ := eI F hk
 have ⟨x_8, F, hk⟩ := eA F hk
 exact cutU F (by as_aux_lemma => kernel_rfl) hk, fun e h _ hk => by
 have F := Ag.nil (e := e)
 have ⟨l_0a, l_0n, l_0c, F, hk⟩ := eL F hk
 have ⟨r_3, F, hk⟩ := eA F hk
 have ⟨out_5a, out_5n, out_5c, F, hk⟩ := eL F hk
 have ⟨done_6, F, hk⟩ := eB F hk
 have ⟨i_7, F, hk⟩ := eI F hk
 have ⟨x_8, F, hk⟩ := eA F hk
 exact cutU F (by as_aux_lemma => kernel_rfl) hk, fun e h _ hk => by
 have F := Ag.nil (e := e)
 have ⟨l_0a, l_0n, l_0c, F, hk⟩ := eL F hk
 have ⟨r_3, F, hk⟩ := eA F hk
 have ⟨out_5a, out_5n, out_5c, F, hk⟩ := eL F hk
 have ⟨done_6, F, hk⟩ := eB F hk
 have ⟨i_7, F, hk⟩ := eI F hk
 have ⟨x_8, F, hk⟩ := eA F hk
 exact cutU F (by as_aux_lemma => kernel_rfl) hk, fun e h _ hk => by
 have F := Ag.nil (e := e)
 have ⟨l_0a, l_0n, l_0c, F, hk⟩ := eL F hk
 have ⟨r_3, F, hk⟩ := eA F hk
 have ⟨out_5a, out_5n, out_5c, F, hk⟩ := eL F hk
 have ⟨done_6, F, hk⟩ := eB F hk
 have ⟨i_7, F, hk⟩ := eI F hk
 have ⟨x_8, F, hk⟩ := eA F hk
 exact cutU F (by as_aux_lemma => kernel_rfl) hk, trivial⟩)
  (fun Kn1 => trivial) (fun e s h Kn1 => by as_aux_lemma => kernel_rfl)⟩, trivial⟩ (by as_aux_lemma => kernel_rfl) hk
/-! ### intrusion/intrusionref07.Block -/
def ref07_Block_v (p_0_0 : Bool) (p_0_1 p_0_2 p_0_3 : Int) (Q : QT) (h : Heap) : Prop :=
 alV h (.cells #[.bool p_0_0, .int .u64 p_0_1, .int .u64 p_0_2, .int .i64 p_0_3] T_api_Prefix) fun t1 h1 => alV h1 (.cells #[.bool false, .int .u64 0, .int .u64 0, .bool false, .int .u64 0, .int .u64 0] T_api_Range) fun t2 h2 => ldB h2 t1 fun t7_0 => ldI h2 (Addr.add t1 1) .u64 fun t7_1 => ldI h2 (Addr.add t1 2) .u64 fun t7_2 => ldI h2 (Addr.add t1 3) .i64 fun t10 => CallT Try.prog fn_ref07_Size #[.agg #[.bool t7_0, .int .u64 t7_1, .int .u64 t7_2]] h2 fun v h3 => ∃ t8 : Int, v = .int .i64 t8 ∧ (ldI h3 (Addr.add t1 3) .i64 fun t910 => (.int .i64 t910 : Value) = .int .i64 t10) ∧ CallT Try.prog fn_ref07_Mask #[.int .i64 (wrap .i64 (t8 - t10))] h3 fun v h4 => ∃ t12_0 : Int, ∃ t12_1 : Int, v = .tuple #[.int .u64 t12_0, .int .u64 t12_1] ∧ ldB h4 t1 fun t16_0 => ldI h4 (Addr.add t1 1) .u64 fun t16_1 => ldI h4 (Addr.add t1 2) .u64 fun t16_2 => ldB h4 t1 fun t19 => ldI h4 (Addr.add t1 1) .u64 fun t22 => ldI h4 (Addr.add t1 2) .u64 fun t27 => stN h4 t2 [.bool t16_0, .int .u64 t16_1, .int .u64 t16_2, .bool t19, .int .u64 (wrap .u64 (BitVec.toNat (BitVec.ofInt (IntKind.bits .u64) t22 ||| BitVec.ofInt (IntKind.bits .u64) t12_0) : Int)), .int .u64 (wrap .u64 (BitVec.toNat (BitVec.ofInt (IntKind.bits .u64) t27 ||| BitVec.ofInt (IntKind.bits .u64) t12_1) : Int))] 0 fun h5 => ldB h5 t2 fun r0_0 => ldI h5 (Addr.add t2 1) .u64 fun r0_1 => ldI h5 (Addr.add t2 2) .u64 fun r0_2 => ldB h5 (Addr.add t2 3) fun r0_3 => ldI h5 (Addr.add t2 4) .u64 fun r0_4 => ldI h5 (Addr.add t2 5) .u64 fun r0_5 => Q (.agg #[.bool r0_0, .int .u64 r0_1, .int .u64 r0_2, .bool r0_3, .int .u64 r0_4, .int .u64 r0_5]) h5
set_option maxRecDepth 100000 in
theorem ref07_Block_s (p_0_0 : Bool) (p_0_1 p_0_2 p_0_3 : Int) {Q : QT} {h : Heap} (hk : ref07_Block_v p_0_0 p_0_1 p_0_2 p_0_3 Q h) : CallT Try.prog fn_ref07_Block #[.agg #[.bool p_0_0, .int .u64 p_0_1, .int .u64 p_0_2, .int .i64 p_0_3]] h Q :=
 callU follows Try.func48 (Try.call48 _) rfl rfl [] []
 trivial
 trivial (by as_aux_lemma => kernel_rfl) hk
/-! ### cmp.isNaN[int] -/
def cmp_isNaN_int_v (x_0 : Int) (Q : QT) (h : Heap) : Prop :=
 Q (.bool (x_0 != x_0)) h
set_option maxRecDepth 100000 in
theorem cmp_isNaN_int_s (x_0 : Int) {Q : QT} {h : Heap} (hk : cmp_isNaN_int_v x_0 Q h) : CallT Try.prog fn_cmp_isNaN_int #[.int .i64 x_0] h Q :=
 callU follows Try.func49 (Try.call49 _) rfl rfl [] []
 trivial
 trivial (by as_aux_lemma => kernel_rfl) hk
/-! ### intrusion/intrusionref07.Size -/
def ref07_Size_v (a_0_0 : Bool) (a_0_1 a_0_2 : Int) (Q : QT) (h : Heap) : Prop :=
 alV h (.cells #[.bool a_0_0, .int .u64 a_0_1, .int .u64 a_0_2] T_api_Addr) fun t1 h1 => ldB h1 t1 fun t4 => if t4 = true then (Q (.int .i64 128) h1) else (Q (.int .i64 32) h1)
set_option maxRecDepth 100000 in
theorem ref07_Size_s (a_0_0 : Bool) (a_0_1 a_0_2 : Int) {Q : QT} {h : Heap} (hk : ref07_Size_v a_0_0 a_0_1 a_0_2 Q h) : CallT Try.prog fn_ref07_Size #[.agg #[.bool a_0_0, .int .u64 a_0_1, .int .u64 a_0_2]] h Q :=
 callU follows Try.func50 (Try.call50 _) rfl rfl [] []
 trivial
 trivial (by as_aux_lemma => kernel_rfl) hk
/-! ### intrusion/intrusionref07.Mask -/
def ref07_Mask_v (k_0 : Int) (Q : QT) (h : Heap) : Prop :=
 if (decide (k_0 ≤ 64)) = true then (CallT Try.prog fn_ref07_low #[.int .i64 k_0] h fun v h1 => ∃ t7 : Int, v = .int .u64 t7 ∧ Q (.tuple #[.int .u64 0, .int .u64 t7]) h1) else (CallT Try.prog fn_ref07_low #[.int .i64 (wrap .i64 (k_0 - 64))] h fun v h2 => ∃ t10 : Int, v = .int .u64 t10 ∧ CallT Try.prog fn_ref07_low #[.int .i64 64] h2 fun v h3 => ∃ t11 : Int, v = .int .u64 t11 ∧ Q (.tuple #[.int .u64 t10, .int .u64 t11]) h3)
set_option maxRecDepth 100000 in
theorem ref07_Mask_s (k_0 : Int) {Q : QT} {h : Heap} (hk : ref07_Mask_v k_0 Q h) : CallT Try.prog fn_ref07_Mask #[.int .i64 k_0] h Q :=
 callU follows Try.func51 (Try.call51 _) rfl rfl [] []
 trivial
 trivial (by as_aux_lemma => kernel_rfl) hk
/-! ### intrusion/intrusionref07.joined -/
def ref07_joined_v (a_0_0 : Bool) (a_0_1 a_0_2 : Int) (a_0_3 : Bool) (a_0_4 a_0_5 : Int) (b_1_0 : Bool) (b_1_1 b_1_2 : Int) (b_1_3 : Bool) (b_1_4 b_1_5 : Int) (Q : QT) (h : Heap) : Prop :=
 alV h (.cells #[.bool a_0_0, .int .u64 a_0_1, .int .u64 a_0_2, .bool a_0_3, .int .u64 a_0_4, .int .u64 a_0_5] T_api_Range) fun t2 h1 => alV h1 (.cells #[.bool b_1_0, .int .u64 b_1_1, .int .u64 b_1_2, .bool b_1_3, .int .u64 b_1_4, .int .u64 b_1_5] T_api_Range) fun t3 h2 => ldB h2 t2 fun t7 => ldB h2 t3 fun t10 => if (!(t7 == t10)) = true then (Q (.bool false) h2) else (ldB h2 (Addr.add t2 3) fun t13_0 => ldI h2 (Addr.add (Addr.add t2 3) 1) .u64 fun t13_1 => ldI h2 (Addr.add (Addr.add t2 3) 2) .u64 fun t13_2 => ldB h2 t3 fun t15_0 => ldI h2 (Addr.add t3 1) .u64 fun t15_1 => ldI h2 (Addr.add t3 2) .u64 fun t15_2 => CallT Try.prog fn_ref07_Before #[.agg #[.bool t13_0, .int .u64 t13_1, .int .u64 t13_2], .agg #[.bool t15_0, .int .u64 t15_1, .int .u64 t15_2]] h2 fun v h3 => ∃ t16 : Bool, v = .bool t16 ∧ if (!t16) = true then (Q (.bool true) h3) else (ldB h3 (Addr.add t2 3) fun t20_0 => ldI h3 (Addr.add (Addr.add t2 3) 1) .u64 fun t20_1 => ldI h3 (Addr.add (Addr.add t2 3) 2) .u64 fun t20_2 => CallT Try.prog fn_ref07_Last #[.agg #[.bool t20_0, .int .u64 t20_1, .int .u64 t20_2]] h3 fun v h4 => ∃ t21 : Bool, v = .bool t21 ∧ if (!t21) = true then (ldB h4 (Addr.add t2 3) fun t25_0 => ldI h4 (Addr.add (Addr.add t2 3) 1) .u64 fun t25_1 => ldI h4 (Addr.add (Addr.add t2 3) 2) .u64 fun t25_2 => ldB h4 t3 fun t28_0 => ldI h4 (Addr.add t3 1) .u64 fun t28_1 => ldI h4 (Addr.add t3 2) .u64 fun t28_2 => CallT Try.prog fn_ref07_After #[.agg #[.bool t25_0, .int .u64 t25_1, .int .u64 t25_2]] h4 fun v h5 => ∃ t26_0 : Bool, ∃ t26_1 : Int, ∃ t26_2 : Int, v = .agg #[.bool t26_0, .int .u64 t26_1, .int .u64 t26_2] ∧ (ldB h5 t3 fun t928_0 => ldI h5 (Addr.add t3 1) .u64 fun t928_1 => ldI h5 (Addr.add t3 2) .u64 fun t928_2 => (.agg #[.bool t928_0, .int .u64 t928_1, .int .u64 t928_2] : Value) = .agg #[.bool t28_0, .int .u64 t28_1, .int .u64 t28_2]) ∧ Q (.bool ((t26_0 == t28_0) && ((t26_1 == t28_1) && ((t26_2 == t28_2) && true)))) h5) else (Q (.bool false) h4)))
set_option maxRecDepth 100000 in
theorem ref07_joined_s (a_0_0 : Bool) (a_0_1 a_0_2 : Int) (a_0_3 : Bool) (a_0_4 a_0_5 : Int) (b_1_0 : Bool) (b_1_1 b_1_2 : Int) (b_1_3 : Bool) (b_1_4 b_1_5 : Int) {Q : QT} {h : Heap} (hk : ref07_joined_v a_0_0 a_0_1 a_0_2 a_0_3 a_0_4 a_0_5 b_1_0 b_1_1 b_1_2 b_1_3 b_1_4 b_1_5 Q h) : CallT Try.prog fn_ref07_joined #[.agg #[.bool a_0_0, .int .u64 a_0_1, .int .u64 a_0_2, .bool a_0_3, .int .u64 a_0_4, .int .u64 a_0_5], .agg #[.bool b_1_0, .int .u64 b_1_1, .int .u64 b_1_2, .bool b_1_3, .int .u64 b_1_4, .int .u64 b_1_5]] h Q :=
 callU follows Try.func52 (Try.call52 _) rfl rfl [] []
 trivial
 trivial (by as_aux_lemma => kernel_rfl) hk
/-! ### intrusion/intrusionref07.low -/
def ref07_low_v (k_0 : Int) (Q : QT) (h : Heap) : Prop :=
 if (decide (k_0 ≥ 64)) = true then (Q (.int .u64 18446744073709551615) h) else (0 ≤ (wrap .u64 k_0) ∧ Q (.int .u64 (wrap .u64 ((wrap .u64 (1 * 2 ^ (min (Int.toNat (wrap .u64 k_0)) (IntKind.bits .u64)))) - 1))) h)
set_option maxRecDepth 100000 in
theorem ref07_low_s (k_0 : Int) {Q : QT} {h : Heap} (hk : ref07_low_v k_0 Q h) : CallT Try.prog fn_ref07_low #[.int .i64 k_0] h Q :=
 callU follows Try.func53 (Try.call53 _) rfl rfl [] []
 trivial
 trivial (by as_aux_lemma => kernel_rfl) hk
/-! ### intrusion/intrusionref07.Last -/
def ref07_Last_v (a_0_0 : Bool) (a_0_1 a_0_2 : Int) (Q : QT) (h : Heap) : Prop :=
 alV h (.cells #[.bool a_0_0, .int .u64 a_0_1, .int .u64 a_0_2] T_api_Addr) fun t1 h1 => ldB h1 t1 fun t4 => if t4 = true then (ldI h1 (Addr.add t1 1) .u64 fun t6 => if ((wrap .u64 (t6 + 1)) == 0) = true then (ldI h1 (Addr.add t1 2) .u64 fun t11 => Q (.bool ((wrap .u64 (t11 + 1)) == 0)) h1) else (Q (.bool false) h1)) else (ldI h1 (Addr.add t1 2) .u64 fun t16 => Q (.bool (t16 == 4294967295)) h1)
set_option maxRecDepth 100000 in
theorem ref07_Last_s (a_0_0 : Bool) (a_0_1 a_0_2 : Int) {Q : QT} {h : Heap} (hk : ref07_Last_v a_0_0 a_0_1 a_0_2 Q h) : CallT Try.prog fn_ref07_Last #[.agg #[.bool a_0_0, .int .u64 a_0_1, .int .u64 a_0_2]] h Q :=
 callU follows Try.func54 (Try.call54 _) rfl rfl [] []
 trivial
 trivial (by as_aux_lemma => kernel_rfl) hk
/-! ### intrusion/intrusionref07.After -/
def ref07_After_b1 (t2 n_3 : Addr) (Q : QT) (h : Heap) : Prop :=
 ldB h n_3 fun t19_0 => ldI h (Addr.add n_3 1) .u64 fun t19_1 => ldI h (Addr.add n_3 2) .u64 fun t19_2 => stN h t2 [.bool t19_0, .int .u64 t19_1, .int .u64 t19_2] 0 fun h6 => ldB h6 t2 fun r0_0 => ldI h6 (Addr.add t2 1) .u64 fun r0_1 => ldI h6 (Addr.add t2 2) .u64 fun r0_2 => Q (.agg #[.bool r0_0, .int .u64 r0_1, .int .u64 r0_2]) h6
def ref07_After_v (a_0_0 : Bool) (a_0_1 a_0_2 : Int) (Q : QT) (h : Heap) : Prop :=
 alV h (.cells #[.bool a_0_0, .int .u64 a_0_1, .int .u64 a_0_2] T_api_Addr) fun t1 h1 => alV h1 (.cells #[.bool false, .int .u64 0, .int .u64 0] T_api_Addr) fun t2 h2 => ldB h2 t1 fun t5 => ldI h2 (Addr.add t1 1) .u64 fun t7 => ldI h2 (Addr.add t1 2) .u64 fun t9 => alV h2 (.cells #[.bool false, .int .u64 0, .int .u64 0] T_api_Addr) fun t3 h3 => stN h3 t3 [.bool t5, .int .u64 t7, .int .u64 (wrap .u64 (t9 + 1))] 0 fun h4 => ldI h4 (Addr.add t3 2) .u64 fun t13 => if (t13 == 0) = true then (ldI h4 (Addr.add t3 1) .u64 fun t16 => st1 h4 (Addr.add t3 1) (.int .u64 (wrap .u64 (t16 + 1))) fun h5 => ref07_After_b1 t2 t3 Q h5) else (ref07_After_b1 t2 t3 Q h4)
set_option maxRecDepth 100000 in
theorem ref07_After_s (a_0_0 : Bool) (a_0_1 a_0_2 : Int) {Q : QT} {h : Heap} (hk : ref07_After_v a_0_0 a_0_1 a_0_2 Q h) : CallT Try.prog fn_ref07_After #[.agg #[.bool a_0_0, .int .u64 a_0_1, .int .u64 a_0_2]] h Q :=
 callU follows Try.func55 (Try.call55 _) rfl rfl [(10, fun e h => dA (e 2) fun t2 => dA (e 3) fun n_3 => ref07_After_b1 t2 n_3 Q h)] []
 ⟨fun e h _ hk => by
 have F := Ag.nil (e := e)
 have ⟨t2, F, hk⟩ := eA F hk
 have ⟨n_3, F, hk⟩ := eA F hk
 exact cutU F (by as_aux_lemma => kernel_rfl) hk, trivial⟩
 trivial (by as_aux_lemma => kernel_rfl) hk
end Go.Proofs.Ytfcnplakgmdfiaa
