/-
  Printed by wip/tool/gen2.py: verification conditions, and the proof that each suffices.
-/
import Derived.Test.YtbmifkjdjekenaaProg
import Derived.Test.YtbmifkjdjekenaaVcTree
namespace Go.Proofs.Ytbmifkjdjekenaa
set_option linter.unusedSimpArgs false
set_option linter.unusedVariables false
set_option maxRecDepth 20000
open Go IntKind
abbrev fn_main_main : FuncId := 0
abbrev fn_gosem_cut : FuncId := 1
abbrev fn_gosem_cut_init : FuncId := 2
abbrev fn_law22_FlowtableEvicts : FuncId := 3
abbrev fn_law22_FlowtableBoth : FuncId := 4
abbrev fn_law22_FlowtablePlays : FuncId := 5
abbrev fn_law22_awake : FuncId := 6
abbrev fn_flowtable_New : FuncId := 7
abbrev fn_flowtable_Table_Ids : FuncId := 8
abbrev fn_flowtable_Table_Open : FuncId := 9
abbrev fn_law22_flow : FuncId := 10
abbrev fn_flowtable_Table_Find : FuncId := 11
abbrev fn_flowtable_Reverse : FuncId := 12
abbrev fn_flowtable_Table_Key : FuncId := 13
abbrev fn_ref22_New : FuncId := 14
abbrev fn_ref22_Table_Open : FuncId := 15
abbrev fn_flowtable_Table_Touch : FuncId := 16
abbrev fn_ref22_Table_Touch : FuncId := 17
abbrev fn_flowtable_Table_Remove : FuncId := 18
abbrev fn_ref22_Table_Remove : FuncId := 19
abbrev fn_ref22_Same : FuncId := 20
abbrev fn_flowtable_Table_Expire : FuncId := 21
abbrev fn_ref22_Table_Expire : FuncId := 22
abbrev fn_ref22_Table_Find : FuncId := 23
abbrev fn_ref22_Table_Key : FuncId := 24
abbrev fn_ref22_Table_Ids : FuncId := 25
abbrev fn_ref22_Reverse : FuncId := 26
abbrev fn_flowtable_bound : FuncId := 27
abbrev fn_slices_Sort_int_int : FuncId := 28
abbrev fn_flowtable_Table_late : FuncId := 29
abbrev fn_flowtable_port : FuncId := 30
abbrev fn_flowtable_Table_least : FuncId := 31
abbrev fn_flowtable_Table_drop : FuncId := 32
abbrev fn_flowtable_keyOf : FuncId := 33
abbrev fn_ref22_limit : FuncId := 34
abbrev fn_ref22_Table_wrong : FuncId := 35
abbrev fn_ref22_Table_without : FuncId := 36
abbrev fn_slices_pdqsortOrdered_int : FuncId := 37
abbrev fn_math_bits_Len : FuncId := 38
abbrev fn_address_Compare : FuncId := 39
abbrev fn_slices_insertionSortOrdered_int : FuncId := 40
abbrev fn_slices_heapSortOrdered_int : FuncId := 41
abbrev fn_slices_breakPatternsOrdered_int : FuncId := 42
abbrev fn_slices_choosePivotOrdered_int : FuncId := 43
abbrev fn_slices_reverseRangeOrdered_int : FuncId := 44
abbrev fn_slices_partialInsertionSortOrdered_int : FuncId := 45
abbrev fn_cmp_Less_int : FuncId := 46
abbrev fn_slices_partitionEqualOrdered_int : FuncId := 47
abbrev fn_slices_partitionOrdered_int : FuncId := 48
abbrev fn_math_bits_Len32 : FuncId := 49
abbrev fn_math_bits_Len64 : FuncId := 50
abbrev fn_slices_siftDownOrdered_int : FuncId := 51
abbrev fn_slices_nextPowerOfTwo : FuncId := 52
abbrev fn_slices_xorshift_Next : FuncId := 53
abbrev fn_slices_medianAdjacentOrdered_int : FuncId := 54
abbrev fn_slices_medianOrdered_int : FuncId := 55
abbrev fn_cmp_isNaN_int : FuncId := 56
abbrev fn_slices_order2Ordered_int : FuncId := 57
abbrev fn_runtime_boundsError_Error : FuncId := 58
abbrev fn_runtime_boundsError_RuntimeError : FuncId := 59
abbrev fn_runtime_errorString_Error : FuncId := 60
abbrev fn_runtime_errorString_RuntimeError : FuncId := 61
abbrev fn_runtime_plainError_Error : FuncId := 62
abbrev fn_runtime_plainError_RuntimeError : FuncId := 63
abbrev fn_runtime_errorAddressString_Error : FuncId := 64
abbrev fn_runtime_errorAddressString_RuntimeError : FuncId := 65
abbrev fn_runtime_TypeAssertionError_Error : FuncId := 66
abbrev fn_runtime_TypeAssertionError_RuntimeError : FuncId := 67
abbrev fn_runtime_PanicNilError_Error : FuncId := 68
abbrev fn_runtime_PanicNilError_RuntimeError : FuncId := 69
abbrev fn_internal_abi_Type_Align : FuncId := 70
abbrev fn_internal_runtime_maps_unhashableTypeError_Error : FuncId := 71
abbrev fn_internal_runtime_maps_unhashableTypeError_RuntimeError : FuncId := 72
abbrev fn_api_Errno_Error : FuncId := 73
abbrev fn_internal_abi_Kind_String : FuncId := 74
abbrev T_t : TypeId := 0
abbrev T_func : TypeId := 1
abbrev T_int64 : TypeId := 2
abbrev T_int : TypeId := 3
abbrev T_bool : TypeId := 4
abbrev T_uint8 : TypeId := 5
abbrev T_abi_BoundsErrorCode : TypeId := 6
abbrev T_struct_x_int64_y_int_signed_bool_code_abi_BoundsErrorCode : TypeId := 7
abbrev T_runtime_boundsError : TypeId := 8
abbrev T_string : TypeId := 9
abbrev T_runtime_errorString : TypeId := 10
abbrev T_runtime_plainError : TypeId := 11
abbrev T_uintptr : TypeId := 12
abbrev T_struct_msg_string_addr_uintptr : TypeId := 13
abbrev T_runtime_errorAddressString : TypeId := 14
abbrev T_p_runtime_TypeAssertionError : TypeId := 15
abbrev T_p_runtime_PanicNilError : TypeId := 16
abbrev T_p_abi_Type : TypeId := 17
abbrev T_struct_typ_p_abi_Type : TypeId := 18
abbrev T_maps_unhashableTypeError : TypeId := 19
abbrev T_interface : TypeId := 20
abbrev T_int32 : TypeId := 21
abbrev T_sl_uint8 : TypeId := 22
abbrev T_func_bool : TypeId := 23
abbrev T_p_flowtable_Table : TypeId := 24
abbrev T_func_int_int_p_flowtable_Table : TypeId := 25
abbrev T_64_int : TypeId := 26
abbrev T_sl_int : TypeId := 27
abbrev T_func_sl_int : TypeId := 28
abbrev T_api_Errno : TypeId := 29
abbrev T_int_int_api_Errno : TypeId := 30
abbrev T_func_int_api_Flow_int_int_int_api_Errno : TypeId := 31
abbrev T_uint64 : TypeId := 32
abbrev T_struct_V6_bool_Hi_uint64_Lo_uint64 : TypeId := 33
abbrev T_api_Addr : TypeId := 34
abbrev T_struct_Proto_int_Src_api_Addr_Dst_api_Addr_Sport_int_Dport : TypeId := 35
abbrev T_api_Flow : TypeId := 36
abbrev T_func_int_api_Flow : TypeId := 37
abbrev T_func_uint8_sl_uint8_bool : TypeId := 38
abbrev T_int_int_bool : TypeId := 39
abbrev T_func_api_Flow_int_int_bool : TypeId := 40
abbrev T_func_api_Flow_api_Flow : TypeId := 41
abbrev T_api_Flow_bool : TypeId := 42
abbrev T_func_int_api_Flow_bool : TypeId := 43
abbrev T_func_api_Flow_uint8_bool : TypeId := 44
abbrev T_sl_intrusionlaw22_Call : TypeId := 45
abbrev T_p_intrusionref22_Table : TypeId := 46
abbrev T_func_int_int_p_intrusionref22_Table : TypeId := 47
abbrev T_struct_Kind_int_At_int_Id_int_Value_int_F_api_Flow : TypeId := 48
abbrev T_intrusionlaw22_Call : TypeId := 49
abbrev T_func_int_int_api_Errno : TypeId := 50
abbrev T_func_int_api_Errno : TypeId := 51
abbrev T_func_sl_int_sl_int_bool : TypeId := 52
abbrev T_func_int_sl_int : TypeId := 53
abbrev T_func_int_int_sl_intrusionlaw22_Call_bool : TypeId := 54
abbrev T_func_int_int_int : TypeId := 55
abbrev T_map_int_p_flowtable_flow : TypeId := 56
abbrev T_map_flowtable_pair_int : TypeId := 57
abbrev T_struct_most_int_timeout_int_time_int_next_int_flows_map_in : TypeId := 58
abbrev T_flowtable_Table : TypeId := 59
abbrev T_func_sl_int_2 : TypeId := 60
abbrev T_func_int_bool : TypeId := 61
abbrev T_func_int : TypeId := 62
abbrev T_struct_key_api_Flow_value_int_last_int : TypeId := 63
abbrev T_flowtable_flow : TypeId := 64
abbrev T_p_flowtable_flow : TypeId := 65
abbrev T_func_int_2 : TypeId := 66
abbrev T_struct_proto_int_addr_api_Addr_port_int : TypeId := 67
abbrev T_flowtable_end : TypeId := 68
abbrev T_2_flowtable_end : TypeId := 69
abbrev T_flowtable_pair : TypeId := 70
abbrev T_func_api_Flow_flowtable_pair : TypeId := 71
abbrev T_int_bool : TypeId := 72
abbrev T_func_int_int_int_int : TypeId := 73
abbrev T_sl_intrusionref22_Entry : TypeId := 74
abbrev T_struct_Max_int_Timeout_int_Time_int_Used_int_L_sl_intrusio : TypeId := 75
abbrev T_intrusionref22_Table : TypeId := 76
abbrev T_struct_Id_int_Value_int_Last_int_F_api_Flow : TypeId := 77
abbrev T_intrusionref22_Entry : TypeId := 78
abbrev T_func_sl_int_int_int_int : TypeId := 79
abbrev T_func_uint_int : TypeId := 80
abbrev T_uint : TypeId := 81
abbrev T_func_api_Addr_api_Addr_int : TypeId := 82
abbrev T_func_sl_int_int_int : TypeId := 83
abbrev T_slices_sortedHint : TypeId := 84
abbrev T_int_slices_sortedHint : TypeId := 85
abbrev T_func_sl_int_int_int_int_slices_sortedHint : TypeId := 86
abbrev T_func_sl_int_int_int_bool : TypeId := 87
abbrev T_func_int_int_bool : TypeId := 88
abbrev T_func_sl_int_int_int_int_int : TypeId := 89
abbrev T_func_sl_int_int_int_int_int_bool : TypeId := 90
abbrev T_func_uint32_int : TypeId := 91
abbrev T_uint32 : TypeId := 92
abbrev T_func_uint64_int : TypeId := 93
abbrev T_slices_xorshift : TypeId := 94
abbrev T_func_int_uint : TypeId := 95
abbrev T_func_uint64 : TypeId := 96
abbrev T_func_sl_int_int_p_int_int : TypeId := 97
abbrev T_p_int : TypeId := 98
abbrev T_func_sl_int_int_int_int_p_int_int : TypeId := 99
abbrev T_p_slices_xorshift : TypeId := 100
abbrev T_int_int : TypeId := 101
abbrev T_func_sl_int_int_int_p_int_int_int : TypeId := 102
abbrev T_func_string : TypeId := 103
abbrev T_struct__interface_p_abi_Type_concrete_p_abi_Type_asserted_ : TypeId := 104
abbrev T_runtime_TypeAssertionError : TypeId := 105
abbrev T_0_p_runtime_PanicNilError : TypeId := 106
abbrev T_struct___0_p_runtime_PanicNilError : TypeId := 107
abbrev T_runtime_PanicNilError : TypeId := 108
abbrev T_abi_TFlag : TypeId := 109
abbrev T_abi_Kind : TypeId := 110
abbrev T_func_unsafe_Pointer_unsafe_Pointer_bool : TypeId := 111
abbrev T_p_uint8 : TypeId := 112
abbrev T_abi_NameOff : TypeId := 113
abbrev T_abi_TypeOff : TypeId := 114
abbrev T_struct_Size__uintptr_PtrBytes_uintptr_Hash_uint32_TFlag_ab : TypeId := 115
abbrev T_abi_Type : TypeId := 116
abbrev T_unsafe_Pointer : TypeId := 117
theorem follows : Try.prog.follows .mixedOrders = true := by kernel_rfl
variable [Gh]
/-! ### intrusion/intrusionlaw22.FlowtableEvicts -/
def law22_FlowtableEvicts_l5 (values_1a : Option Addr) (values_1n values_1c : Nat) (n_5 : Int) (t_6 : Option Addr) (value_7 : Addr) (last_8 i_9 v_10 : Int) (before_11a : Option Addr) (before_11n before_11c : Nat) (Q : QT) (Kn1 : Int × Int → Heap → Prop) (k_16 : Int) (h : Heap) (Kn5 : Int → Heap → Prop) : Prop :=
 if (decide (k_16 < ((before_11n : Nat) : Int))) = true then (idxA k_16 before_11n (nn before_11a fun t89 => ldI h (Addr.add t89 ((k_16).toNat * 1)) .i64 fun t90 => idxA t90 64 (ldI h (Addr.add value_7 ((t90).toNat * 1)) .i64 fun t92 => if (decide (t92 ≤ v_10)) = true then (Q (.bool false) h) else (Kn5 (wrap .i64 (k_16 + 1)) h)))) else (Kn1 (last_8, wrap .i64 (i_9 + 1)) h)
def law22_FlowtableEvicts_b8 (values_1a : Option Addr) (values_1n values_1c : Nat) (n_5 : Int) (t_6 : Option Addr) (value_7 : Addr) (i_9 v_10 id_12 : Int) (Q : QT) (Kn1 : Int × Int → Heap → Prop) (h : Heap) : Prop :=
 idxA id_12 64 (st1 h (Addr.add value_7 ((id_12).toNat * 1)) (.int .i64 v_10) fun h8 => Kn1 (id_12, wrap .i64 (i_9 + 1)) h8)
def law22_FlowtableEvicts_l7 (values_1a : Option Addr) (values_1n values_1c : Nat) (n_5 : Int) (t_6 : Option Addr) (value_7 : Addr) (i_9 v_10 : Int) (before_11a : Option Addr) (before_11n before_11c : Nat) (id_12 out_13 : Int) (Q : QT) (Kn1 : Int × Int → Heap → Prop) (k_17 : Int) (h : Heap) (Kn7 : Int → Heap → Prop) : Prop :=
 if (decide (k_17 < ((before_11n : Nat) : Int))) = true then (if (out_13 != 0) = true then (idxA k_17 before_11n (nn before_11a fun t133 => ldI h (Addr.add t133 ((k_17).toNat * 1)) .i64 fun t134 => idxA t134 64 (ldI h (Addr.add value_7 ((t134).toNat * 1)) .i64 fun t136 => idxA out_13 64 (ldI h (Addr.add value_7 ((out_13).toNat * 1)) .i64 fun t139 => if (decide (t136 < t139)) = true then (Q (.bool false) h) else (idxA k_17 before_11n (nn before_11a fun t144 => ldI h (Addr.add t144 ((k_17).toNat * 1)) .i64 fun t145 => idxA t145 64 (ldI h (Addr.add value_7 ((t145).toNat * 1)) .i64 fun t147 => idxA out_13 64 (ldI h (Addr.add value_7 ((out_13).toNat * 1)) .i64 fun t150 => if (t147 == t150) = true then (idxA k_17 before_11n (nn before_11a fun t155 => ldI h (Addr.add t155 ((k_17).toNat * 1)) .i64 fun t156 => if (decide (t156 < out_13)) = true then (Q (.bool false) h) else (Kn7 (wrap .i64 (k_17 + 1)) h))) else (Kn7 (wrap .i64 (k_17 + 1)) h))))))))) else (Kn7 (wrap .i64 (k_17 + 1)) h)) else (law22_FlowtableEvicts_b8 values_1a values_1n values_1c n_5 t_6 value_7 i_9 v_10 id_12 Q Kn1 h)
def law22_FlowtableEvicts_b6 (values_1a : Option Addr) (values_1n values_1c : Nat) (n_5 : Int) (t_6 : Option Addr) (value_7 : Addr) (last_8 i_9 v_10 : Int) (before_11a : Option Addr) (before_11n before_11c : Nat) (id_12 out_13 e_14 : Int) (Q : QT) (Kn1 : Int × Int → Heap → Prop) (h : Heap) : Prop :=
 if (e_14 != 0) = true then (Q (.bool false) h) else (if (decide (id_12 ≤ last_8)) = true then (Q (.bool false) h) else (if (decide (id_12 > 60)) = true then (Q (.bool false) h) else (CallT Try.prog fn_flowtable_Table_Ids #[.pointer t_6] h fun v h7 => ∃ t108a : Option Addr, ∃ t108n : Nat, ∃ t108c : Nat, v = .slice t108a t108n t108c ∧ if (decide (((t108n : Nat) : Int) > n_5)) = true then (Q (.bool false) h7) else (if (!((out_13 != 0) == (((before_11n : Nat) : Int) == n_5))) = true then (Q (.bool false) h7) else (LoopV (fun (s : Int) h Kn => law22_FlowtableEvicts_l7 values_1a values_1n values_1c n_5 t_6 value_7 i_9 v_10 before_11a before_11n before_11c id_12 out_13 Q Kn1 s h Kn) 0 h7)))))
def law22_FlowtableEvicts_b3 (values_1a : Option Addr) (values_1n values_1c : Nat) (n_5 : Int) (t_6 : Option Addr) (value_7 : Addr) (last_8 i_9 v_10 : Int) (before_11a : Option Addr) (before_11n before_11c : Nat) (id_12 out_13 e_14 : Int) (Q : QT) (Kn1 : Int × Int → Heap → Prop) (h : Heap) : Prop :=
 if (e_14 == 11) = true then (LoopV (fun (s : Int) h Kn => law22_FlowtableEvicts_l5 values_1a values_1n values_1c n_5 t_6 value_7 last_8 i_9 v_10 before_11a before_11n before_11c Q Kn1 s h Kn) 0 h) else (law22_FlowtableEvicts_b6 values_1a values_1n values_1c n_5 t_6 value_7 last_8 i_9 v_10 before_11a before_11n before_11c id_12 out_13 e_14 Q Kn1 h)
def law22_FlowtableEvicts_l2 (values_1a : Option Addr) (values_1n values_1c : Nat) (n_5 : Int) (t_6 : Option Addr) (value_7 : Addr) (last_8 i_9 v_10 : Int) (before_11a : Option Addr) (before_11n before_11c : Nat) (id_12 out_13 e_14 : Int) (Q : QT) (Kn1 : Int × Int → Heap → Prop) (k_15 : Int) (h : Heap) (Kn2 : Int → Heap → Prop) : Prop :=
 if (decide (k_15 < ((before_11n : Nat) : Int))) = true then (idxA k_15 before_11n (nn before_11a fun t69 => ldI h (Addr.add t69 ((k_15).toNat * 1)) .i64 fun t70 => if (decide (t70 < 1)) = true then (Q (.bool false) h) else (idxA k_15 before_11n (nn before_11a fun t75 => ldI h (Addr.add t75 ((k_15).toNat * 1)) .i64 fun t76 => if (decide (t76 > 60)) = true then (Q (.bool false) h) else (Kn2 (wrap .i64 (k_15 + 1)) h))))) else (law22_FlowtableEvicts_b3 values_1a values_1n values_1c n_5 t_6 value_7 last_8 i_9 v_10 before_11a before_11n before_11c id_12 out_13 e_14 Q Kn1 h)
def law22_FlowtableEvicts_b4 (Q : QT) (h : Heap) : Prop :=
 CallT Try.prog fn_law22_awake #[] h fun v h9 => ∃ t166 : Bool, v = .bool t166 ∧ Q (.bool t166) h9
def law22_FlowtableEvicts_l1 (values_1a : Option Addr) (values_1n values_1c : Nat) (n_5 : Int) (t_6 : Option Addr) (value_7 : Addr) (Q : QT) (last_8 i_9 : Int) (h : Heap) (Kn1 : Int × Int → Heap → Prop) : Prop :=
 if (decide (i_9 < ((values_1n : Nat) : Int))) = true then (idxA i_9 values_1n (nn values_1a fun t38 => ldI h (Addr.add t38 ((i_9).toNat * 1)) .u8 fun t39 => (4 : Int) ≠ 0 ∧ CallT Try.prog fn_flowtable_Table_Ids #[.pointer t_6] h fun v h4 => ∃ t43a : Option Addr, ∃ t43n : Nat, ∃ t43c : Nat, v = .slice t43a t43n t43c ∧ CallT Try.prog fn_law22_flow #[.int .i64 (wrap .i64 (i_9 + 1))] h4 fun v h5 => ∃ t49_0 : Int, ∃ t49_1 : Bool, ∃ t49_2 : Int, ∃ t49_3 : Int, ∃ t49_4 : Bool, ∃ t49_5 : Int, ∃ t49_6 : Int, ∃ t49_7 : Int, ∃ t49_8 : Int, v = .agg #[.int .i64 t49_0, .bool t49_1, .int .u64 t49_2, .int .u64 t49_3, .bool t49_4, .int .u64 t49_5, .int .u64 t49_6, .int .i64 t49_7, .int .i64 t49_8] ∧ CallT Try.prog fn_flowtable_Table_Open #[.pointer t_6, .int .i64 i_9, .agg #[.int .i64 t49_0, .bool t49_1, .int .u64 t49_2, .int .u64 t49_3, .bool t49_4, .int .u64 t49_5, .int .u64 t49_6, .int .i64 t49_7, .int .i64 t49_8], .int .i64 (Int.tmod (wrap .i64 t39) 4)] h5 fun v h6 => ∃ t51_0 : Int, ∃ t51_1 : Int, ∃ t51_2 : Int, v = .tuple #[.int .i64 t51_0, .int .i64 t51_1, .int .i64 t51_2] ∧ if (decide (t51_1 < 0)) = true then (Q (.bool false) h6) else (if (decide (t51_1 > 60)) = true then (Q (.bool false) h6) else (LoopV (fun (s : Int) h Kn => law22_FlowtableEvicts_l2 values_1a values_1n values_1c n_5 t_6 value_7 last_8 i_9 (Int.tmod (wrap .i64 t39) 4) t43a t43n t43c t51_0 t51_1 t51_2 Q Kn1 s h Kn) 0 h6)))) else (law22_FlowtableEvicts_b4 Q h)
def law22_FlowtableEvicts_v (max_0 : Int) (values_1a : Option Addr) (values_1n values_1c : Nat) (Q : QT) (h : Heap) : Prop :=
 if (decide (((values_1n : Nat) : Int) > 60)) = true then (CallT Try.prog fn_law22_awake #[] h fun v h1 => ∃ t21 : Bool, v = .bool t21 ∧ Q (.bool t21) h1) else ((8 : Int) ≠ 0 ∧ CallT Try.prog fn_flowtable_New #[.int .i64 (wrap .i64 (1 + (Int.tmod (wrap .i64 max_0) 8))), .int .i64 1000] h fun v h2 => ∃ t27 : Option Addr, v = .pointer t27 ∧ if (Option.isNone t27) = true then (Q (.bool false) h2) else (alV h2 (.cells #[.int .i64 0, .int .i64 0, .int .i64 0, .int .i64 0, .int .i64 0, .int .i64 0, .int .i64 0, .int .i64 0, .int .i64 0, .int .i64 0, .int .i64 0, .int .i64 0, .int .i64 0, .int .i64 0, .int .i64 0, .int .i64 0, .int .i64 0, .int .i64 0, .int .i64 0, .int .i64 0, .int .i64 0, .int .i64 0, .int .i64 0, .int .i64 0, .int .i64 0, .int .i64 0, .int .i64 0, .int .i64 0, .int .i64 0, .int .i64 0, .int .i64 0, .int .i64 0, .int .i64 0, .int .i64 0, .int .i64 0, .int .i64 0, .int .i64 0, .int .i64 0, .int .i64 0, .int .i64 0, .int .i64 0, .int .i64 0, .int .i64 0, .int .i64 0, .int .i64 0, .int .i64 0, .int .i64 0, .int .i64 0, .int .i64 0, .int .i64 0, .int .i64 0, .int .i64 0, .int .i64 0, .int .i64 0, .int .i64 0, .int .i64 0, .int .i64 0, .int .i64 0, .int .i64 0, .int .i64 0, .int .i64 0, .int .i64 0, .int .i64 0, .int .i64 0] T_64_int) fun t7 h3 => LoopV (fun (s : Int × Int) h Kn => law22_FlowtableEvicts_l1 values_1a values_1n values_1c (wrap .i64 (1 + (Int.tmod (wrap .i64 max_0) 8))) t27 t7 Q s.1 s.2 h Kn) (0, 0) h3))
set_option maxRecDepth 100000 in
theorem law22_FlowtableEvicts_s (max_0 : Int) (values_1a : Option Addr) (values_1n values_1c : Nat) {Q : QT} {h : Heap} (hk : law22_FlowtableEvicts_v max_0 values_1a values_1n values_1c Q h) : CallT Try.prog fn_law22_FlowtableEvicts #[.int .u8 max_0, .slice values_1a values_1n values_1c] h Q :=
 callU follows Try.func3 (Try.call3 _) rfl rfl [(76, fun e h => law22_FlowtableEvicts_b4 Q h)] [(22, fun e h => dL (e 1) fun values_1a values_1n values_1c => dI .i64 (e 5) fun n_5 => dP (e 6) fun t_6 => dA (e 7) fun value_7 => dI .i64 (e 8) fun last_8 => dI .i64 (e 9) fun i_9 => LoopV (fun (s : Int × Int) h Kn => law22_FlowtableEvicts_l1 values_1a values_1n values_1c n_5 t_6 value_7 Q s.1 s.2 h Kn) (last_8, i_9) h)]
 ⟨fun e h _ hk => by
 have F := Ag.nil (e := e)
 exact cutU F (by as_aux_lemma => kernel_rfl) hk, trivial⟩
 ⟨⟨by kernel_rfl, fun e h he hk => by
 have F := Ag.nil (e := e)
 have ⟨values_1a, values_1n, values_1c, F, hk⟩ := eL F hk
 have ⟨n_5, F, hk⟩ := eI F hk
 have ⟨t_6, F, hk⟩ := eP F hk
 have ⟨value_7, F, hk⟩ := eA F hk
 have ⟨last_8, F, hk⟩ := eI F hk
 have ⟨i_9, F, hk⟩ := eI F hk
 exact loopU (s0 := (last_8, i_9)) follows (fun _ h => by cases h) he F (fun s => [(9, .int .i64 s.2), (8, .int .i64 s.1)]) (by kernel_rfl) (F.take 2) hk (fun Kn1 e h => dI .i64 (e 8) fun last_8 => dI .i64 (e 9) fun i_9 => Kn1 (last_8, i_9) h) (fun Kn1 e h hk => by
  have F := Ag.nil (e := e)
  have ⟨last_8, F, hk⟩ := eI F hk
  have ⟨i_9, F, hk⟩ := eI F hk
  exact ⟨(last_8, i_9), F, hk⟩)
  (fun Kn1 => [(46, fun e h => dL (e 1) fun values_1a values_1n values_1c => dI .i64 (e 5) fun n_5 => dP (e 6) fun t_6 => dA (e 7) fun value_7 => dI .i64 (e 8) fun last_8 => dI .i64 (e 9) fun i_9 => dI .i64 (e 10) fun v_10 => dL (e 11) fun before_11a before_11n before_11c => dI .i64 (e 12) fun id_12 => dI .i64 (e 13) fun out_13 => dI .i64 (e 14) fun e_14 => law22_FlowtableEvicts_b3 values_1a values_1n values_1c n_5 t_6 value_7 last_8 i_9 v_10 before_11a before_11n before_11c id_12 out_13 e_14 Q Kn1 h), (58, fun e h => dL (e 1) fun values_1a values_1n values_1c => dI .i64 (e 5) fun n_5 => dP (e 6) fun t_6 => dA (e 7) fun value_7 => dI .i64 (e 8) fun last_8 => dI .i64 (e 9) fun i_9 => dI .i64 (e 10) fun v_10 => dL (e 11) fun before_11a before_11n before_11c => dI .i64 (e 12) fun id_12 => dI .i64 (e 13) fun out_13 => dI .i64 (e 14) fun e_14 => law22_FlowtableEvicts_b6 values_1a values_1n values_1c n_5 t_6 value_7 last_8 i_9 v_10 before_11a before_11n before_11c id_12 out_13 e_14 Q Kn1 h), (72, fun e h => dL (e 1) fun values_1a values_1n values_1c => dI .i64 (e 5) fun n_5 => dP (e 6) fun t_6 => dA (e 7) fun value_7 => dI .i64 (e 9) fun i_9 => dI .i64 (e 10) fun v_10 => dI .i64 (e 12) fun id_12 => law22_FlowtableEvicts_b8 values_1a values_1n values_1c n_5 t_6 value_7 i_9 v_10 id_12 Q Kn1 h)]) (fun Kn1 => [(38, fun e h => dL (e 1) fun values_1a values_1n values_1c => dI .i64 (e 5) fun n_5 => dP (e 6) fun t_6 => dA (e 7) fun value_7 => dI .i64 (e 8) fun last_8 => dI .i64 (e 9) fun i_9 => dI .i64 (e 10) fun v_10 => dL (e 11) fun before_11a before_11n before_11c => dI .i64 (e 12) fun id_12 => dI .i64 (e 13) fun out_13 => dI .i64 (e 14) fun e_14 => dI .i64 (e 15) fun k_15 => LoopV (fun (s : Int) h Kn => law22_FlowtableEvicts_l2 values_1a values_1n values_1c n_5 t_6 value_7 last_8 i_9 v_10 before_11a before_11n before_11c id_12 out_13 e_14 Q Kn1 s h Kn) k_15 h), (50, fun e h => dL (e 1) fun values_1a values_1n values_1c => dI .i64 (e 5) fun n_5 => dP (e 6) fun t_6 => dA (e 7) fun value_7 => dI .i64 (e 8) fun last_8 => dI .i64 (e 9) fun i_9 => dI .i64 (e 10) fun v_10 => dL (e 11) fun before_11a before_11n before_11c => dI .i64 (e 16) fun k_16 => LoopV (fun (s : Int) h Kn => law22_FlowtableEvicts_l5 values_1a values_1n values_1c n_5 t_6 value_7 last_8 i_9 v_10 before_11a before_11n before_11c Q Kn1 s h Kn) k_16 h), (64, fun e h => dL (e 1) fun values_1a values_1n values_1c => dI .i64 (e 5) fun n_5 => dP (e 6) fun t_6 => dA (e 7) fun value_7 => dI .i64 (e 9) fun i_9 => dI .i64 (e 10) fun v_10 => dL (e 11) fun before_11a before_11n before_11c => dI .i64 (e 12) fun id_12 => dI .i64 (e 13) fun out_13 => dI .i64 (e 17) fun k_17 => LoopV (fun (s : Int) h Kn => law22_FlowtableEvicts_l7 values_1a values_1n values_1c n_5 t_6 value_7 i_9 v_10 before_11a before_11n before_11c id_12 out_13 Q Kn1 s h Kn) k_17 h)])
  (fun Kn1 => ⟨fun e h _ hk => by
 have F := Ag.nil (e := e)
 have ⟨values_1a, values_1n, values_1c, F, hk⟩ := eL F hk
 have ⟨n_5, F, hk⟩ := eI F hk
 have ⟨t_6, F, hk⟩ := eP F hk
 have ⟨value_7, F, hk⟩ := eA F hk
 have ⟨last_8, F, hk⟩ := eI F hk
 have ⟨i_9, F, hk⟩ := eI F hk
 have ⟨v_10, F, hk⟩ := eI F hk
 have ⟨before_11a, before_11n, before_11c, F, hk⟩ := eL F hk
 have ⟨id_12, F, hk⟩ := eI F hk
 have ⟨out_13, F, hk⟩ := eI F hk
 have ⟨e_14, F, hk⟩ := eI F hk
 exact cutU F (by as_aux_lemma => kernel_rfl) hk, fun e h _ hk => by
 have F := Ag.nil (e := e)
 have ⟨values_1a, values_1n, values_1c, F, hk⟩ := eL F hk
 have ⟨n_5, F, hk⟩ := eI F hk
 have ⟨t_6, F, hk⟩ := eP F hk
 have ⟨value_7, F, hk⟩ := eA F hk
 have ⟨last_8, F, hk⟩ := eI F hk
 have ⟨i_9, F, hk⟩ := eI F hk
 have ⟨v_10, F, hk⟩ := eI F hk
 have ⟨before_11a, before_11n, before_11c, F, hk⟩ := eL F hk
 have ⟨id_12, F, hk⟩ := eI F hk
 have ⟨out_13, F, hk⟩ := eI F hk
 have ⟨e_14, F, hk⟩ := eI F hk
 exact cutU F (by as_aux_lemma => kernel_rfl) hk, fun e h _ hk => by
 have F := Ag.nil (e := e)
 have ⟨values_1a, values_1n, values_1c, F, hk⟩ := eL F hk
 have ⟨n_5, F, hk⟩ := eI F hk
 have ⟨t_6, F, hk⟩ := eP F hk
 have ⟨value_7, F, hk⟩ := eA F hk
 have ⟨i_9, F, hk⟩ := eI F hk
 have ⟨v_10, F, hk⟩ := eI F hk
 have ⟨id_12, F, hk⟩ := eI F hk
 exact cutU F (by as_aux_lemma => kernel_rfl) hk, trivial⟩)
  (fun Kn1 => ⟨⟨by kernel_rfl, fun e h he hk => by
 have F := Ag.nil (e := e)
 have ⟨values_1a, values_1n, values_1c, F, hk⟩ := eL F hk
 have ⟨n_5, F, hk⟩ := eI F hk
 have ⟨t_6, F, hk⟩ := eP F hk
 have ⟨value_7, F, hk⟩ := eA F hk
 have ⟨last_8, F, hk⟩ := eI F hk
 have ⟨i_9, F, hk⟩ := eI F hk
 have ⟨v_10, F, hk⟩ := eI F hk
 have ⟨before_11a, before_11n, before_11c, F, hk⟩ := eL F hk
 have ⟨id_12, F, hk⟩ := eI F hk
 have ⟨out_13, F, hk⟩ := eI F hk
 have ⟨e_14, F, hk⟩ := eI F hk
 have ⟨k_15, F, hk⟩ := eI F hk
 exact loopU (s0 := k_15) follows (keep_sub (by kernel_rfl)) he F (fun s => [(15, .int .i64 s)]) (by kernel_rfl) (F.take 1) hk (fun Kn2 e h => dI .i64 (e 15) fun k_15 => Kn2 k_15 h) (fun Kn2 e h hk => by
  have F := Ag.nil (e := e)
  have ⟨k_15, F, hk⟩ := eI F hk
  exact ⟨k_15, F, hk⟩)
  (fun Kn2 => []) (fun Kn2 => [])
  (fun Kn2 => trivial)
  (fun Kn2 => trivial) (fun e s h Kn2 => by as_aux_lemma => kernel_rfl)⟩, ⟨by kernel_rfl, fun e h he hk => by
 have F := Ag.nil (e := e)
 have ⟨values_1a, values_1n, values_1c, F, hk⟩ := eL F hk
 have ⟨n_5, F, hk⟩ := eI F hk
 have ⟨t_6, F, hk⟩ := eP F hk
 have ⟨value_7, F, hk⟩ := eA F hk
 have ⟨last_8, F, hk⟩ := eI F hk
 have ⟨i_9, F, hk⟩ := eI F hk
 have ⟨v_10, F, hk⟩ := eI F hk
 have ⟨before_11a, before_11n, before_11c, F, hk⟩ := eL F hk
 have ⟨k_16, F, hk⟩ := eI F hk
 exact loopU (s0 := k_16) follows (keep_sub (by kernel_rfl)) he F (fun s => [(16, .int .i64 s)]) (by kernel_rfl) (F.take 1) hk (fun Kn5 e h => dI .i64 (e 16) fun k_16 => Kn5 k_16 h) (fun Kn5 e h hk => by
  have F := Ag.nil (e := e)
  have ⟨k_16, F, hk⟩ := eI F hk
  exact ⟨k_16, F, hk⟩)
  (fun Kn5 => []) (fun Kn5 => [])
  (fun Kn5 => trivial)
  (fun Kn5 => trivial) (fun e s h Kn5 => by as_aux_lemma => kernel_rfl)⟩, ⟨by kernel_rfl, fun e h he hk => by
 have F := Ag.nil (e := e)
 have ⟨values_1a, values_1n, values_1c, F, hk⟩ := eL F hk
 have ⟨n_5, F, hk⟩ := eI F hk
 have ⟨t_6, F, hk⟩ := eP F hk
 have ⟨value_7, F, hk⟩ := eA F hk
 have ⟨i_9, F, hk⟩ := eI F hk
 have ⟨v_10, F, hk⟩ := eI F hk
 have ⟨before_11a, before_11n, before_11c, F, hk⟩ := eL F hk
 have ⟨id_12, F, hk⟩ := eI F hk
 have ⟨out_13, F, hk⟩ := eI F hk
 have ⟨k_17, F, hk⟩ := eI F hk
 exact loopU (s0 := k_17) follows (keep_sub (by kernel_rfl)) he F (fun s => [(17, .int .i64 s)]) (by kernel_rfl) (F.take 1) hk (fun Kn7 e h => dI .i64 (e 17) fun k_17 => Kn7 k_17 h) (fun Kn7 e h hk => by
  have F := Ag.nil (e := e)
  have ⟨k_17, F, hk⟩ := eI F hk
  exact ⟨k_17, F, hk⟩)
  (fun Kn7 => []) (fun Kn7 => [])
  (fun Kn7 => trivial)
  (fun Kn7 => trivial) (fun e s h Kn7 => by as_aux_lemma => kernel_rfl)⟩, trivial⟩) (fun e s h Kn1 => by as_aux_lemma => kernel_rfl)⟩, trivial⟩ (by as_aux_lemma => kernel_rfl) hk
/-! ### intrusion/intrusionlaw22.FlowtableBoth -/
def law22_FlowtableBoth_v (f_0_0 : Int) (f_0_1 : Bool) (f_0_2 f_0_3 : Int) (f_0_4 : Bool) (f_0_5 f_0_6 f_0_7 f_0_8 value_1 : Int) (Q : QT) (h : Heap) : Prop :=
 alV h (.cells #[.int .i64 f_0_0, .bool f_0_1, .int .u64 f_0_2, .int .u64 f_0_3, .bool f_0_4, .int .u64 f_0_5, .int .u64 f_0_6, .int .i64 f_0_7, .int .i64 f_0_8] T_api_Flow) fun t2 h1 => CallT Try.prog fn_flowtable_New #[.int .i64 5, .int .i64 1000] h1 fun v h2 => ∃ t20 : Option Addr, v = .pointer t20 ∧ if (Option.isNone t20) = true then (Q (.bool false) h2) else (ldI h2 t2 .i64 fun t25_0 => ldB h2 (Addr.add t2 1) fun t25_1 => ldI h2 (Addr.add t2 2) .u64 fun t25_2 => ldI h2 (Addr.add t2 3) .u64 fun t25_3 => ldB h2 (Addr.add t2 4) fun t25_4 => ldI h2 (Addr.add t2 5) .u64 fun t25_5 => ldI h2 (Addr.add t2 6) .u64 fun t25_6 => ldI h2 (Addr.add t2 7) .i64 fun t25_7 => ldI h2 (Addr.add t2 8) .i64 fun t25_8 => (4 : Int) ≠ 0 ∧ CallT Try.prog fn_flowtable_Table_Open #[.pointer t20, .int .i64 0, .agg #[.int .i64 t25_0, .bool t25_1, .int .u64 t25_2, .int .u64 t25_3, .bool t25_4, .int .u64 t25_5, .int .u64 t25_6, .int .i64 t25_7, .int .i64 t25_8], .int .i64 (Int.tmod (wrap .i64 value_1) 4)] h2 fun v h3 => ∃ t29_0 : Int, ∃ t29_1 : Int, ∃ t29_2 : Int, v = .tuple #[.int .i64 t29_0, .int .i64 t29_1, .int .i64 t29_2] ∧ if (t29_2 != 0) = true then (if (t29_2 == 4) = true then (CallT Try.prog fn_law22_awake #[] h3 fun v h4 => ∃ t38 : Bool, v = .bool t38 ∧ Q (.bool t38) h4) else (Q (.bool false) h3)) else (ldI h3 t2 .i64 fun t42_0 => ldB h3 (Addr.add t2 1) fun t42_1 => ldI h3 (Addr.add t2 2) .u64 fun t42_2 => ldI h3 (Addr.add t2 3) .u64 fun t42_3 => ldB h3 (Addr.add t2 4) fun t42_4 => ldI h3 (Addr.add t2 5) .u64 fun t42_5 => ldI h3 (Addr.add t2 6) .u64 fun t42_6 => ldI h3 (Addr.add t2 7) .i64 fun t42_7 => ldI h3 (Addr.add t2 8) .i64 fun t42_8 => CallT Try.prog fn_flowtable_Table_Find #[.pointer t20, .agg #[.int .i64 t42_0, .bool t42_1, .int .u64 t42_2, .int .u64 t42_3, .bool t42_4, .int .u64 t42_5, .int .u64 t42_6, .int .i64 t42_7, .int .i64 t42_8]] h3 fun v h5 => ∃ t43_0 : Int, ∃ t43_1 : Int, ∃ t43_2 : Bool, v = .tuple #[.int .i64 t43_0, .int .i64 t43_1, .bool t43_2] ∧ ldI h5 t2 .i64 fun t49_0 => ldB h5 (Addr.add t2 1) fun t49_1 => ldI h5 (Addr.add t2 2) .u64 fun t49_2 => ldI h5 (Addr.add t2 3) .u64 fun t49_3 => ldB h5 (Addr.add t2 4) fun t49_4 => ldI h5 (Addr.add t2 5) .u64 fun t49_5 => ldI h5 (Addr.add t2 6) .u64 fun t49_6 => ldI h5 (Addr.add t2 7) .i64 fun t49_7 => ldI h5 (Addr.add t2 8) .i64 fun t49_8 => CallT Try.prog fn_flowtable_Reverse #[.agg #[.int .i64 t49_0, .bool t49_1, .int .u64 t49_2, .int .u64 t49_3, .bool t49_4, .int .u64 t49_5, .int .u64 t49_6, .int .i64 t49_7, .int .i64 t49_8]] h5 fun v h6 => ∃ t50_0 : Int, ∃ t50_1 : Bool, ∃ t50_2 : Int, ∃ t50_3 : Int, ∃ t50_4 : Bool, ∃ t50_5 : Int, ∃ t50_6 : Int, ∃ t50_7 : Int, ∃ t50_8 : Int, v = .agg #[.int .i64 t50_0, .bool t50_1, .int .u64 t50_2, .int .u64 t50_3, .bool t50_4, .int .u64 t50_5, .int .u64 t50_6, .int .i64 t50_7, .int .i64 t50_8] ∧ CallT Try.prog fn_flowtable_Table_Find #[.pointer t20, .agg #[.int .i64 t50_0, .bool t50_1, .int .u64 t50_2, .int .u64 t50_3, .bool t50_4, .int .u64 t50_5, .int .u64 t50_6, .int .i64 t50_7, .int .i64 t50_8]] h6 fun v h7 => ∃ t51_0 : Int, ∃ t51_1 : Int, ∃ t51_2 : Bool, v = .tuple #[.int .i64 t51_0, .int .i64 t51_1, .bool t51_2] ∧ CallT Try.prog fn_flowtable_Table_Key #[.pointer t20, .int .i64 t29_0] h7 fun v h8 => ∃ t58_0_0 : Int, ∃ t58_0_1 : Bool, ∃ t58_0_2 : Int, ∃ t58_0_3 : Int, ∃ t58_0_4 : Bool, ∃ t58_0_5 : Int, ∃ t58_0_6 : Int, ∃ t58_0_7 : Int, ∃ t58_0_8 : Int, ∃ t58_1 : Bool, v = .tuple #[.agg #[.int .i64 t58_0_0, .bool t58_0_1, .int .u64 t58_0_2, .int .u64 t58_0_3, .bool t58_0_4, .int .u64 t58_0_5, .int .u64 t58_0_6, .int .i64 t58_0_7, .int .i64 t58_0_8], .bool t58_1] ∧ alV h8 (.cells #[.int .i64 0, .bool false, .int .u64 0, .int .u64 0, .bool false, .int .u64 0, .int .u64 0, .int .i64 0, .int .i64 0] T_api_Flow) fun t15 h9 => stN h9 t15 [.int .i64 t58_0_0, .bool t58_0_1, .int .u64 t58_0_2, .int .u64 t58_0_3, .bool t58_0_4, .int .u64 t58_0_5, .int .u64 t58_0_6, .int .i64 t58_0_7, .int .i64 t58_0_8] 0 fun h10 => if (!t43_2) = true then (Q (.bool false) h10) else (if (!t51_2) = true then (Q (.bool false) h10) else (if (t43_0 != t29_0) = true then (Q (.bool false) h10) else (if (t51_0 != t29_0) = true then (Q (.bool false) h10) else (if (t43_1 != 1) = true then (Q (.bool false) h10) else (if (!t58_1) = true then (Q (.bool false) h10) else (ldI h10 t15 .i64 fun t86_0 => ldB h10 (Addr.add t15 1) fun t86_1 => ldI h10 (Addr.add t15 2) .u64 fun t86_2 => ldI h10 (Addr.add t15 3) .u64 fun t86_3 => ldB h10 (Addr.add t15 4) fun t86_4 => ldI h10 (Addr.add t15 5) .u64 fun t86_5 => ldI h10 (Addr.add t15 6) .u64 fun t86_6 => ldI h10 (Addr.add t15 7) .i64 fun t86_7 => ldI h10 (Addr.add t15 8) .i64 fun t86_8 => ldI h10 t2 .i64 fun t87_0 => ldB h10 (Addr.add t2 1) fun t87_1 => ldI h10 (Addr.add t2 2) .u64 fun t87_2 => ldI h10 (Addr.add t2 3) .u64 fun t87_3 => ldB h10 (Addr.add t2 4) fun t87_4 => ldI h10 (Addr.add t2 5) .u64 fun t87_5 => ldI h10 (Addr.add t2 6) .u64 fun t87_6 => ldI h10 (Addr.add t2 7) .i64 fun t87_7 => ldI h10 (Addr.add t2 8) .i64 fun t87_8 => if (!((t86_0 == t87_0) && (((t86_1 == t87_1) && ((t86_2 == t87_2) && ((t86_3 == t87_3) && true))) && (((t86_4 == t87_4) && ((t86_5 == t87_5) && ((t86_6 == t87_6) && true))) && ((t86_7 == t87_7) && ((t86_8 == t87_8) && true)))))) = true then (Q (.bool false) h10) else (ldI h10 t2 .i64 fun t92_0 => ldB h10 (Addr.add t2 1) fun t92_1 => ldI h10 (Addr.add t2 2) .u64 fun t92_2 => ldI h10 (Addr.add t2 3) .u64 fun t92_3 => ldB h10 (Addr.add t2 4) fun t92_4 => ldI h10 (Addr.add t2 5) .u64 fun t92_5 => ldI h10 (Addr.add t2 6) .u64 fun t92_6 => ldI h10 (Addr.add t2 7) .i64 fun t92_7 => ldI h10 (Addr.add t2 8) .i64 fun t92_8 => CallT Try.prog fn_flowtable_Reverse #[.agg #[.int .i64 t92_0, .bool t92_1, .int .u64 t92_2, .int .u64 t92_3, .bool t92_4, .int .u64 t92_5, .int .u64 t92_6, .int .i64 t92_7, .int .i64 t92_8]] h10 fun v h11 => ∃ t93_0 : Int, ∃ t93_1 : Bool, ∃ t93_2 : Int, ∃ t93_3 : Int, ∃ t93_4 : Bool, ∃ t93_5 : Int, ∃ t93_6 : Int, ∃ t93_7 : Int, ∃ t93_8 : Int, v = .agg #[.int .i64 t93_0, .bool t93_1, .int .u64 t93_2, .int .u64 t93_3, .bool t93_4, .int .u64 t93_5, .int .u64 t93_6, .int .i64 t93_7, .int .i64 t93_8] ∧ CallT Try.prog fn_flowtable_Table_Open #[.pointer t20, .int .i64 1, .agg #[.int .i64 t93_0, .bool t93_1, .int .u64 t93_2, .int .u64 t93_3, .bool t93_4, .int .u64 t93_5, .int .u64 t93_6, .int .i64 t93_7, .int .i64 t93_8], .int .i64 0] h11 fun v h12 => ∃ t94_0 : Int, ∃ t94_1 : Int, ∃ t94_2 : Int, v = .tuple #[.int .i64 t94_0, .int .i64 t94_1, .int .i64 t94_2] ∧ if (t51_1 == 2) = true then (if (t94_2 == 7) = true then (CallT Try.prog fn_law22_awake #[] h12 fun v h13 => ∃ t111 : Bool, v = .bool t111 ∧ Q (.bool t111) h13) else (Q (.bool false) h12)) else (ldI h12 t2 .i64 fun t101_0 => ldB h12 (Addr.add t2 1) fun t101_1 => ldI h12 (Addr.add t2 2) .u64 fun t101_2 => ldI h12 (Addr.add t2 3) .u64 fun t101_3 => ldB h12 (Addr.add t2 4) fun t101_4 => ldI h12 (Addr.add t2 5) .u64 fun t101_5 => ldI h12 (Addr.add t2 6) .u64 fun t101_6 => ldI h12 (Addr.add t2 7) .i64 fun t101_7 => ldI h12 (Addr.add t2 8) .i64 fun t101_8 => ldI h12 t2 .i64 fun t103_0 => ldB h12 (Addr.add t2 1) fun t103_1 => ldI h12 (Addr.add t2 2) .u64 fun t103_2 => ldI h12 (Addr.add t2 3) .u64 fun t103_3 => ldB h12 (Addr.add t2 4) fun t103_4 => ldI h12 (Addr.add t2 5) .u64 fun t103_5 => ldI h12 (Addr.add t2 6) .u64 fun t103_6 => ldI h12 (Addr.add t2 7) .i64 fun t103_7 => ldI h12 (Addr.add t2 8) .i64 fun t103_8 => CallT Try.prog fn_flowtable_Reverse #[.agg #[.int .i64 t101_0, .bool t101_1, .int .u64 t101_2, .int .u64 t101_3, .bool t101_4, .int .u64 t101_5, .int .u64 t101_6, .int .i64 t101_7, .int .i64 t101_8]] h12 fun v h14 => ∃ t102_0 : Int, ∃ t102_1 : Bool, ∃ t102_2 : Int, ∃ t102_3 : Int, ∃ t102_4 : Bool, ∃ t102_5 : Int, ∃ t102_6 : Int, ∃ t102_7 : Int, ∃ t102_8 : Int, v = .agg #[.int .i64 t102_0, .bool t102_1, .int .u64 t102_2, .int .u64 t102_3, .bool t102_4, .int .u64 t102_5, .int .u64 t102_6, .int .i64 t102_7, .int .i64 t102_8] ∧ (ldI h14 t2 .i64 fun t9103_0 => ldB h14 (Addr.add t2 1) fun t9103_1 => ldI h14 (Addr.add t2 2) .u64 fun t9103_2 => ldI h14 (Addr.add t2 3) .u64 fun t9103_3 => ldB h14 (Addr.add t2 4) fun t9103_4 => ldI h14 (Addr.add t2 5) .u64 fun t9103_5 => ldI h14 (Addr.add t2 6) .u64 fun t9103_6 => ldI h14 (Addr.add t2 7) .i64 fun t9103_7 => ldI h14 (Addr.add t2 8) .i64 fun t9103_8 => (.agg #[.int .i64 t9103_0, .bool t9103_1, .int .u64 t9103_2, .int .u64 t9103_3, .bool t9103_4, .int .u64 t9103_5, .int .u64 t9103_6, .int .i64 t9103_7, .int .i64 t9103_8] : Value) = .agg #[.int .i64 t103_0, .bool t103_1, .int .u64 t103_2, .int .u64 t103_3, .bool t103_4, .int .u64 t103_5, .int .u64 t103_6, .int .i64 t103_7, .int .i64 t103_8]) ∧ if ((t102_0 == t103_0) && (((t102_1 == t103_1) && ((t102_2 == t103_2) && ((t102_3 == t103_3) && true))) && (((t102_4 == t103_4) && ((t102_5 == t103_5) && ((t102_6 == t103_6) && true))) && ((t102_7 == t103_7) && ((t102_8 == t103_8) && true))))) = true then (if (t94_2 == 7) = true then (CallT Try.prog fn_law22_awake #[] h14 fun v h15 => ∃ t111 : Bool, v = .bool t111 ∧ Q (.bool t111) h15) else (Q (.bool false) h14)) else (Q (.bool false) h14)))))))))))
set_option maxRecDepth 100000 in
theorem law22_FlowtableBoth_s (f_0_0 : Int) (f_0_1 : Bool) (f_0_2 f_0_3 : Int) (f_0_4 : Bool) (f_0_5 f_0_6 f_0_7 f_0_8 value_1 : Int) {Q : QT} {h : Heap} (hk : law22_FlowtableBoth_v f_0_0 f_0_1 f_0_2 f_0_3 f_0_4 f_0_5 f_0_6 f_0_7 f_0_8 value_1 Q h) : CallT Try.prog fn_law22_FlowtableBoth #[.agg #[.int .i64 f_0_0, .bool f_0_1, .int .u64 f_0_2, .int .u64 f_0_3, .bool f_0_4, .int .u64 f_0_5, .int .u64 f_0_6, .int .i64 f_0_7, .int .i64 f_0_8], .int .u8 value_1] h Q :=
 callU follows Try.func4 (Try.call4 _) rfl rfl [] []
 trivial
 trivial (by as_aux_lemma => kernel_rfl) hk
/-! ### intrusion/intrusionlaw22.FlowtablePlays -/
def law22_FlowtablePlays_b2 (l_2a : Option Addr) (l_2n l_2c : Nat) (t_7 r_8 : Option Addr) (i_9 : Int) (x_10 : Addr) (Q : QT) (Kn1 : Int → Heap → Prop) (h : Heap) : Prop :=
 ldI h (Addr.add x_10 4) .i64 fun t131_0 => ldB h (Addr.add x_10 5) fun t131_1 => ldI h (Addr.add x_10 6) .u64 fun t131_2 => ldI h (Addr.add x_10 7) .u64 fun t131_3 => ldB h (Addr.add x_10 8) fun t131_4 => ldI h (Addr.add x_10 9) .u64 fun t131_5 => ldI h (Addr.add x_10 10) .u64 fun t131_6 => ldI h (Addr.add x_10 11) .i64 fun t131_7 => ldI h (Addr.add x_10 12) .i64 fun t131_8 => CallT Try.prog fn_flowtable_Table_Find #[.pointer t_7, .agg #[.int .i64 t131_0, .bool t131_1, .int .u64 t131_2, .int .u64 t131_3, .bool t131_4, .int .u64 t131_5, .int .u64 t131_6, .int .i64 t131_7, .int .i64 t131_8]] h fun v h15 => ∃ t132_0 : Int, ∃ t132_1 : Int, ∃ t132_2 : Bool, v = .tuple #[.int .i64 t132_0, .int .i64 t132_1, .bool t132_2] ∧ ldI h15 (Addr.add x_10 4) .i64 fun t139_0 => ldB h15 (Addr.add x_10 5) fun t139_1 => ldI h15 (Addr.add x_10 6) .u64 fun t139_2 => ldI h15 (Addr.add x_10 7) .u64 fun t139_3 => ldB h15 (Addr.add x_10 8) fun t139_4 => ldI h15 (Addr.add x_10 9) .u64 fun t139_5 => ldI h15 (Addr.add x_10 10) .u64 fun t139_6 => ldI h15 (Addr.add x_10 11) .i64 fun t139_7 => ldI h15 (Addr.add x_10 12) .i64 fun t139_8 => CallT Try.prog fn_ref22_Table_Find #[.pointer r_8, .agg #[.int .i64 t139_0, .bool t139_1, .int .u64 t139_2, .int .u64 t139_3, .bool t139_4, .int .u64 t139_5, .int .u64 t139_6, .int .i64 t139_7, .int .i64 t139_8]] h15 fun v h16 => ∃ t140_0 : Int, ∃ t140_1 : Int, ∃ t140_2 : Bool, v = .tuple #[.int .i64 t140_0, .int .i64 t140_1, .bool t140_2] ∧ ldI h16 (Addr.add x_10 2) .i64 fun t147 => CallT Try.prog fn_flowtable_Table_Key #[.pointer t_7, .int .i64 t147] h16 fun v h17 => ∃ t148_0_0 : Int, ∃ t148_0_1 : Bool, ∃ t148_0_2 : Int, ∃ t148_0_3 : Int, ∃ t148_0_4 : Bool, ∃ t148_0_5 : Int, ∃ t148_0_6 : Int, ∃ t148_0_7 : Int, ∃ t148_0_8 : Int, ∃ t148_1 : Bool, v = .tuple #[.agg #[.int .i64 t148_0_0, .bool t148_0_1, .int .u64 t148_0_2, .int .u64 t148_0_3, .bool t148_0_4, .int .u64 t148_0_5, .int .u64 t148_0_6, .int .i64 t148_0_7, .int .i64 t148_0_8], .bool t148_1] ∧ alV h17 (.cells #[.int .i64 0, .bool false, .int .u64 0, .int .u64 0, .bool false, .int .u64 0, .int .u64 0, .int .i64 0, .int .i64 0] T_api_Flow) fun t23 h18 => stN h18 t23 [.int .i64 t148_0_0, .bool t148_0_1, .int .u64 t148_0_2, .int .u64 t148_0_3, .bool t148_0_4, .int .u64 t148_0_5, .int .u64 t148_0_6, .int .i64 t148_0_7, .int .i64 t148_0_8] 0 fun h19 => ldI h19 (Addr.add x_10 2) .i64 fun t154 => CallT Try.prog fn_ref22_Table_Key #[.pointer r_8, .int .i64 t154] h19 fun v h20 => ∃ t155_0_0 : Int, ∃ t155_0_1 : Bool, ∃ t155_0_2 : Int, ∃ t155_0_3 : Int, ∃ t155_0_4 : Bool, ∃ t155_0_5 : Int, ∃ t155_0_6 : Int, ∃ t155_0_7 : Int, ∃ t155_0_8 : Int, ∃ t155_1 : Bool, v = .tuple #[.agg #[.int .i64 t155_0_0, .bool t155_0_1, .int .u64 t155_0_2, .int .u64 t155_0_3, .bool t155_0_4, .int .u64 t155_0_5, .int .u64 t155_0_6, .int .i64 t155_0_7, .int .i64 t155_0_8], .bool t155_1] ∧ alV h20 (.cells #[.int .i64 0, .bool false, .int .u64 0, .int .u64 0, .bool false, .int .u64 0, .int .u64 0, .int .i64 0, .int .i64 0] T_api_Flow) fun t25 h21 => stN h21 t25 [.int .i64 t155_0_0, .bool t155_0_1, .int .u64 t155_0_2, .int .u64 t155_0_3, .bool t155_0_4, .int .u64 t155_0_5, .int .u64 t155_0_6, .int .i64 t155_0_7, .int .i64 t155_0_8] 0 fun h22 => if (t132_0 != t140_0) = true then (Q (.bool false) h22) else (if (t132_1 != t140_1) = true then (Q (.bool false) h22) else (if (!(t132_2 == t140_2)) = true then (Q (.bool false) h22) else (ldI h22 t23 .i64 fun t172_0 => ldB h22 (Addr.add t23 1) fun t172_1 => ldI h22 (Addr.add t23 2) .u64 fun t172_2 => ldI h22 (Addr.add t23 3) .u64 fun t172_3 => ldB h22 (Addr.add t23 4) fun t172_4 => ldI h22 (Addr.add t23 5) .u64 fun t172_5 => ldI h22 (Addr.add t23 6) .u64 fun t172_6 => ldI h22 (Addr.add t23 7) .i64 fun t172_7 => ldI h22 (Addr.add t23 8) .i64 fun t172_8 => ldI h22 t25 .i64 fun t173_0 => ldB h22 (Addr.add t25 1) fun t173_1 => ldI h22 (Addr.add t25 2) .u64 fun t173_2 => ldI h22 (Addr.add t25 3) .u64 fun t173_3 => ldB h22 (Addr.add t25 4) fun t173_4 => ldI h22 (Addr.add t25 5) .u64 fun t173_5 => ldI h22 (Addr.add t25 6) .u64 fun t173_6 => ldI h22 (Addr.add t25 7) .i64 fun t173_7 => ldI h22 (Addr.add t25 8) .i64 fun t173_8 => if (!((t172_0 == t173_0) && (((t172_1 == t173_1) && ((t172_2 == t173_2) && ((t172_3 == t173_3) && true))) && (((t172_4 == t173_4) && ((t172_5 == t173_5) && ((t172_6 == t173_6) && true))) && ((t172_7 == t173_7) && ((t172_8 == t173_8) && true)))))) = true then (Q (.bool false) h22) else (if (!(t148_1 == t155_1)) = true then (Q (.bool false) h22) else (CallT Try.prog fn_flowtable_Table_Ids #[.pointer t_7] h22 fun v h23 => ∃ t183a : Option Addr, ∃ t183n : Nat, ∃ t183c : Nat, v = .slice t183a t183n t183c ∧ CallT Try.prog fn_ref22_Table_Ids #[.pointer r_8] h23 fun v h24 => ∃ t185a : Option Addr, ∃ t185n : Nat, ∃ t185c : Nat, v = .slice t185a t185n t185c ∧ CallT Try.prog fn_ref22_Same #[.slice t183a t183n t183c, .slice t185a t185n t185c] h24 fun v h25 => ∃ t186 : Bool, v = .bool t186 ∧ if (!t186) = true then (Q (.bool false) h25) else (ldI h25 (Addr.add x_10 4) .i64 fun t191_0 => ldB h25 (Addr.add x_10 5) fun t191_1 => ldI h25 (Addr.add x_10 6) .u64 fun t191_2 => ldI h25 (Addr.add x_10 7) .u64 fun t191_3 => ldB h25 (Addr.add x_10 8) fun t191_4 => ldI h25 (Addr.add x_10 9) .u64 fun t191_5 => ldI h25 (Addr.add x_10 10) .u64 fun t191_6 => ldI h25 (Addr.add x_10 11) .i64 fun t191_7 => ldI h25 (Addr.add x_10 12) .i64 fun t191_8 => ldI h25 (Addr.add x_10 4) .i64 fun t194_0 => ldB h25 (Addr.add x_10 5) fun t194_1 => ldI h25 (Addr.add x_10 6) .u64 fun t194_2 => ldI h25 (Addr.add x_10 7) .u64 fun t194_3 => ldB h25 (Addr.add x_10 8) fun t194_4 => ldI h25 (Addr.add x_10 9) .u64 fun t194_5 => ldI h25 (Addr.add x_10 10) .u64 fun t194_6 => ldI h25 (Addr.add x_10 11) .i64 fun t194_7 => ldI h25 (Addr.add x_10 12) .i64 fun t194_8 => CallT Try.prog fn_flowtable_Reverse #[.agg #[.int .i64 t191_0, .bool t191_1, .int .u64 t191_2, .int .u64 t191_3, .bool t191_4, .int .u64 t191_5, .int .u64 t191_6, .int .i64 t191_7, .int .i64 t191_8]] h25 fun v h26 => ∃ t192_0 : Int, ∃ t192_1 : Bool, ∃ t192_2 : Int, ∃ t192_3 : Int, ∃ t192_4 : Bool, ∃ t192_5 : Int, ∃ t192_6 : Int, ∃ t192_7 : Int, ∃ t192_8 : Int, v = .agg #[.int .i64 t192_0, .bool t192_1, .int .u64 t192_2, .int .u64 t192_3, .bool t192_4, .int .u64 t192_5, .int .u64 t192_6, .int .i64 t192_7, .int .i64 t192_8] ∧ (ldI h26 (Addr.add x_10 4) .i64 fun t9194_0 => ldB h26 (Addr.add x_10 5) fun t9194_1 => ldI h26 (Addr.add x_10 6) .u64 fun t9194_2 => ldI h26 (Addr.add x_10 7) .u64 fun t9194_3 => ldB h26 (Addr.add x_10 8) fun t9194_4 => ldI h26 (Addr.add x_10 9) .u64 fun t9194_5 => ldI h26 (Addr.add x_10 10) .u64 fun t9194_6 => ldI h26 (Addr.add x_10 11) .i64 fun t9194_7 => ldI h26 (Addr.add x_10 12) .i64 fun t9194_8 => (.agg #[.int .i64 t9194_0, .bool t9194_1, .int .u64 t9194_2, .int .u64 t9194_3, .bool t9194_4, .int .u64 t9194_5, .int .u64 t9194_6, .int .i64 t9194_7, .int .i64 t9194_8] : Value) = .agg #[.int .i64 t194_0, .bool t194_1, .int .u64 t194_2, .int .u64 t194_3, .bool t194_4, .int .u64 t194_5, .int .u64 t194_6, .int .i64 t194_7, .int .i64 t194_8]) ∧ CallT Try.prog fn_ref22_Reverse #[.agg #[.int .i64 t194_0, .bool t194_1, .int .u64 t194_2, .int .u64 t194_3, .bool t194_4, .int .u64 t194_5, .int .u64 t194_6, .int .i64 t194_7, .int .i64 t194_8]] h26 fun v h27 => ∃ t195_0 : Int, ∃ t195_1 : Bool, ∃ t195_2 : Int, ∃ t195_3 : Int, ∃ t195_4 : Bool, ∃ t195_5 : Int, ∃ t195_6 : Int, ∃ t195_7 : Int, ∃ t195_8 : Int, v = .agg #[.int .i64 t195_0, .bool t195_1, .int .u64 t195_2, .int .u64 t195_3, .bool t195_4, .int .u64 t195_5, .int .u64 t195_6, .int .i64 t195_7, .int .i64 t195_8] ∧ if (!((t192_0 == t195_0) && (((t192_1 == t195_1) && ((t192_2 == t195_2) && ((t192_3 == t195_3) && true))) && (((t192_4 == t195_4) && ((t192_5 == t195_5) && ((t192_6 == t195_6) && true))) && ((t192_7 == t195_7) && ((t192_8 == t195_8) && true)))))) = true then (Q (.bool false) h27) else (Kn1 (wrap .i64 (i_9 + 1)) h27)))))))
def law22_FlowtablePlays_b3 (Q : QT) (h : Heap) : Prop :=
 CallT Try.prog fn_law22_awake #[] h fun v h28 => ∃ t198 : Bool, v = .bool t198 ∧ Q (.bool t198) h28
def law22_FlowtablePlays_l1 (l_2a : Option Addr) (l_2n l_2c : Nat) (t_7 r_8 : Option Addr) (Q : QT) (i_9 : Int) (h : Heap) (Kn1 : Int → Heap → Prop) : Prop :=
 if (decide (i_9 < ((l_2n : Nat) : Int))) = true then (idxA i_9 l_2n (nn l_2a fun t47 => ldI h (Addr.add t47 ((i_9).toNat * 13)) .i64 fun t48_0 => ldI h (Addr.add (Addr.add t47 ((i_9).toNat * 13)) 1) .i64 fun t48_1 => ldI h (Addr.add (Addr.add t47 ((i_9).toNat * 13)) 2) .i64 fun t48_2 => ldI h (Addr.add (Addr.add t47 ((i_9).toNat * 13)) 3) .i64 fun t48_3 => ldI h (Addr.add (Addr.add t47 ((i_9).toNat * 13)) 4) .i64 fun t48_4 => ldB h (Addr.add (Addr.add t47 ((i_9).toNat * 13)) 5) fun t48_5 => ldI h (Addr.add (Addr.add t47 ((i_9).toNat * 13)) 6) .u64 fun t48_6 => ldI h (Addr.add (Addr.add t47 ((i_9).toNat * 13)) 7) .u64 fun t48_7 => ldB h (Addr.add (Addr.add t47 ((i_9).toNat * 13)) 8) fun t48_8 => ldI h (Addr.add (Addr.add t47 ((i_9).toNat * 13)) 9) .u64 fun t48_9 => ldI h (Addr.add (Addr.add t47 ((i_9).toNat * 13)) 10) .u64 fun t48_10 => ldI h (Addr.add (Addr.add t47 ((i_9).toNat * 13)) 11) .i64 fun t48_11 => ldI h (Addr.add (Addr.add t47 ((i_9).toNat * 13)) 12) .i64 fun t48_12 => alV h (.cells #[.int .i64 0, .int .i64 0, .int .i64 0, .int .i64 0, .int .i64 0, .bool false, .int .u64 0, .int .u64 0, .bool false, .int .u64 0, .int .u64 0, .int .i64 0, .int .i64 0] T_intrusionlaw22_Call) fun t10 h4 => stN h4 t10 [.int .i64 t48_0, .int .i64 t48_1, .int .i64 t48_2, .int .i64 t48_3, .int .i64 t48_4, .bool t48_5, .int .u64 t48_6, .int .u64 t48_7, .bool t48_8, .int .u64 t48_9, .int .u64 t48_10, .int .i64 t48_11, .int .i64 t48_12] 0 fun h5 => ldI h5 t10 .i64 fun t50 => if (t50 == 0) = true then (ldI h5 (Addr.add t10 1) .i64 fun t56 => ldI h5 (Addr.add t10 4) .i64 fun t58_0 => ldB h5 (Addr.add t10 5) fun t58_1 => ldI h5 (Addr.add t10 6) .u64 fun t58_2 => ldI h5 (Addr.add t10 7) .u64 fun t58_3 => ldB h5 (Addr.add t10 8) fun t58_4 => ldI h5 (Addr.add t10 9) .u64 fun t58_5 => ldI h5 (Addr.add t10 10) .u64 fun t58_6 => ldI h5 (Addr.add t10 11) .i64 fun t58_7 => ldI h5 (Addr.add t10 12) .i64 fun t58_8 => ldI h5 (Addr.add t10 3) .i64 fun t60 => CallT Try.prog fn_flowtable_Table_Open #[.pointer t_7, .int .i64 t56, .agg #[.int .i64 t58_0, .bool t58_1, .int .u64 t58_2, .int .u64 t58_3, .bool t58_4, .int .u64 t58_5, .int .u64 t58_6, .int .i64 t58_7, .int .i64 t58_8], .int .i64 t60] h5 fun v h6 => ∃ t61_0 : Int, ∃ t61_1 : Int, ∃ t61_2 : Int, v = .tuple #[.int .i64 t61_0, .int .i64 t61_1, .int .i64 t61_2] ∧ ldI h6 (Addr.add t10 1) .i64 fun t68 => ldI h6 (Addr.add t10 4) .i64 fun t70_0 => ldB h6 (Addr.add t10 5) fun t70_1 => ldI h6 (Addr.add t10 6) .u64 fun t70_2 => ldI h6 (Addr.add t10 7) .u64 fun t70_3 => ldB h6 (Addr.add t10 8) fun t70_4 => ldI h6 (Addr.add t10 9) .u64 fun t70_5 => ldI h6 (Addr.add t10 10) .u64 fun t70_6 => ldI h6 (Addr.add t10 11) .i64 fun t70_7 => ldI h6 (Addr.add t10 12) .i64 fun t70_8 => ldI h6 (Addr.add t10 3) .i64 fun t72 => CallT Try.prog fn_ref22_Table_Open #[.pointer r_8, .int .i64 t68, .agg #[.int .i64 t70_0, .bool t70_1, .int .u64 t70_2, .int .u64 t70_3, .bool t70_4, .int .u64 t70_5, .int .u64 t70_6, .int .i64 t70_7, .int .i64 t70_8], .int .i64 t72] h6 fun v h7 => ∃ t73_0 : Int, ∃ t73_1 : Int, ∃ t73_2 : Int, v = .tuple #[.int .i64 t73_0, .int .i64 t73_1, .int .i64 t73_2] ∧ if (t61_0 != t73_0) = true then (Q (.bool false) h7) else (if (t61_1 != t73_1) = true then (Q (.bool false) h7) else (if (t61_2 != t73_2) = true then (Q (.bool false) h7) else (law22_FlowtablePlays_b2 l_2a l_2n l_2c t_7 r_8 i_9 t10 Q Kn1 h7)))) else (if (t50 == 1) = true then (ldI h5 (Addr.add t10 1) .i64 fun t94 => ldI h5 (Addr.add t10 2) .i64 fun t96 => ldI h5 (Addr.add t10 1) .i64 fun t100 => ldI h5 (Addr.add t10 2) .i64 fun t102 => CallT Try.prog fn_flowtable_Table_Touch #[.pointer t_7, .int .i64 t94, .int .i64 t96] h5 fun v h8 => ∃ t97 : Int, v = .int .i64 t97 ∧ (ldI h8 (Addr.add t10 1) .i64 fun t9100 => (.int .i64 t9100 : Value) = .int .i64 t100) ∧ (ldI h8 (Addr.add t10 2) .i64 fun t9102 => (.int .i64 t9102 : Value) = .int .i64 t102) ∧ CallT Try.prog fn_ref22_Table_Touch #[.pointer r_8, .int .i64 t100, .int .i64 t102] h8 fun v h9 => ∃ t103 : Int, v = .int .i64 t103 ∧ if (t97 != t103) = true then (Q (.bool false) h9) else (law22_FlowtablePlays_b2 l_2a l_2n l_2c t_7 r_8 i_9 t10 Q Kn1 h9)) else (if (t50 == 2) = true then (ldI h5 (Addr.add t10 2) .i64 fun t109 => ldI h5 (Addr.add t10 2) .i64 fun t113 => CallT Try.prog fn_flowtable_Table_Remove #[.pointer t_7, .int .i64 t109] h5 fun v h10 => ∃ t110 : Int, v = .int .i64 t110 ∧ (ldI h10 (Addr.add t10 2) .i64 fun t9113 => (.int .i64 t9113 : Value) = .int .i64 t113) ∧ CallT Try.prog fn_ref22_Table_Remove #[.pointer r_8, .int .i64 t113] h10 fun v h11 => ∃ t114 : Int, v = .int .i64 t114 ∧ if (t110 != t114) = true then (Q (.bool false) h11) else (law22_FlowtablePlays_b2 l_2a l_2n l_2c t_7 r_8 i_9 t10 Q Kn1 h11)) else (if (t50 == 3) = true then (ldI h5 (Addr.add t10 1) .i64 fun t120 => ldI h5 (Addr.add t10 1) .i64 fun t124 => CallT Try.prog fn_flowtable_Table_Expire #[.pointer t_7, .int .i64 t120] h5 fun v h12 => ∃ t121a : Option Addr, ∃ t121n : Nat, ∃ t121c : Nat, v = .slice t121a t121n t121c ∧ (ldI h12 (Addr.add t10 1) .i64 fun t9124 => (.int .i64 t9124 : Value) = .int .i64 t124) ∧ CallT Try.prog fn_ref22_Table_Expire #[.pointer r_8, .int .i64 t124] h12 fun v h13 => ∃ t125a : Option Addr, ∃ t125n : Nat, ∃ t125c : Nat, v = .slice t125a t125n t125c ∧ CallT Try.prog fn_ref22_Same #[.slice t121a t121n t121c, .slice t125a t125n t125c] h13 fun v h14 => ∃ t126 : Bool, v = .bool t126 ∧ if (!t126) = true then (Q (.bool false) h14) else (law22_FlowtablePlays_b2 l_2a l_2n l_2c t_7 r_8 i_9 t10 Q Kn1 h14)) else (law22_FlowtablePlays_b2 l_2a l_2n l_2c t_7 r_8 i_9 t10 Q Kn1 h5)))))) else (law22_FlowtablePlays_b3 Q h)
def law22_FlowtablePlays_v (max_0 timeout_1 : Int) (l_2a : Option Addr) (l_2n l_2c : Nat) (Q : QT) (h : Heap) : Prop :=
 if (decide (((l_2n : Nat) : Int) > 100)) = true then (CallT Try.prog fn_law22_awake #[] h fun v h1 => ∃ t30 : Bool, v = .bool t30 ∧ Q (.bool t30) h1) else (CallT Try.prog fn_flowtable_New #[.int .i64 max_0, .int .i64 timeout_1] h fun v h2 => ∃ t33 : Option Addr, v = .pointer t33 ∧ if (Option.isNone t33) = true then (Q (.bool false) h2) else (CallT Try.prog fn_ref22_New #[.int .i64 max_0, .int .i64 timeout_1] h2 fun v h3 => ∃ t38 : Option Addr, v = .pointer t38 ∧ LoopV (fun (s : Int) h Kn => law22_FlowtablePlays_l1 l_2a l_2n l_2c t33 t38 Q s h Kn) 0 h3))
set_option maxRecDepth 100000 in
theorem law22_FlowtablePlays_s (max_0 timeout_1 : Int) (l_2a : Option Addr) (l_2n l_2c : Nat) {Q : QT} {h : Heap} (hk : law22_FlowtablePlays_v max_0 timeout_1 l_2a l_2n l_2c Q h) : CallT Try.prog fn_law22_FlowtablePlays #[.int .i64 max_0, .int .i64 timeout_1, .slice l_2a l_2n l_2c] h Q :=
 callU follows Try.func5 (Try.call5 _) rfl rfl [(66, fun e h => law22_FlowtablePlays_b3 Q h)] [(18, fun e h => dL (e 2) fun l_2a l_2n l_2c => dP (e 7) fun t_7 => dP (e 8) fun r_8 => dI .i64 (e 9) fun i_9 => LoopV (fun (s : Int) h Kn => law22_FlowtablePlays_l1 l_2a l_2n l_2c t_7 r_8 Q s h Kn) i_9 h)]
 ⟨fun e h _ hk => by
 have F := Ag.nil (e := e)
 exact cutU F (by as_aux_lemma => kernel_rfl) hk, trivial⟩
 ⟨⟨by kernel_rfl, fun e h he hk => by
 have F := Ag.nil (e := e)
 have ⟨l_2a, l_2n, l_2c, F, hk⟩ := eL F hk
 have ⟨t_7, F, hk⟩ := eP F hk
 have ⟨r_8, F, hk⟩ := eP F hk
 have ⟨i_9, F, hk⟩ := eI F hk
 exact loopU (s0 := i_9) follows (fun _ h => by cases h) he F (fun s => [(9, .int .i64 s)]) (by kernel_rfl) (F.take 1) hk (fun Kn1 e h => dI .i64 (e 9) fun i_9 => Kn1 i_9 h) (fun Kn1 e h hk => by
  have F := Ag.nil (e := e)
  have ⟨i_9, F, hk⟩ := eI F hk
  exact ⟨i_9, F, hk⟩)
  (fun Kn1 => [(54, fun e h => dL (e 2) fun l_2a l_2n l_2c => dP (e 7) fun t_7 => dP (e 8) fun r_8 => dI .i64 (e 9) fun i_9 => dA (e 10) fun x_10 => law22_FlowtablePlays_b2 l_2a l_2n l_2c t_7 r_8 i_9 x_10 Q Kn1 h)]) (fun Kn1 => [])
  (fun Kn1 => ⟨fun e h _ hk => by
 have F := Ag.nil (e := e)
 have ⟨l_2a, l_2n, l_2c, F, hk⟩ := eL F hk
 have ⟨t_7, F, hk⟩ := eP F hk
 have ⟨r_8, F, hk⟩ := eP F hk
 have ⟨i_9, F, hk⟩ := eI F hk
 have ⟨x_10, F, hk⟩ := eA F hk
 exact cutU F (by as_aux_lemma => kernel_rfl) hk, trivial⟩)
  (fun Kn1 => trivial) (fun e s h Kn1 => by as_aux_lemma => kernel_rfl)⟩, trivial⟩ (by as_aux_lemma => kernel_rfl) hk
/-! ### intrusion/intrusionlaw22.awake -/
def law22_awake_v (Q : QT) (h : Heap) : Prop :=
 CallT Try.prog fn_flowtable_New #[.int .i64 2, .int .i64 100] h fun v h1 => ∃ t14 : Option Addr, v = .pointer t14 ∧ if (Option.isNone t14) = true then (Q (.bool false) h1) else (CallT Try.prog fn_law22_flow #[.int .i64 1] h1 fun v h2 => ∃ t19_0 : Int, ∃ t19_1 : Bool, ∃ t19_2 : Int, ∃ t19_3 : Int, ∃ t19_4 : Bool, ∃ t19_5 : Int, ∃ t19_6 : Int, ∃ t19_7 : Int, ∃ t19_8 : Int, v = .agg #[.int .i64 t19_0, .bool t19_1, .int .u64 t19_2, .int .u64 t19_3, .bool t19_4, .int .u64 t19_5, .int .u64 t19_6, .int .i64 t19_7, .int .i64 t19_8] ∧ CallT Try.prog fn_flowtable_Table_Open #[.pointer t14, .int .i64 0, .agg #[.int .i64 t19_0, .bool t19_1, .int .u64 t19_2, .int .u64 t19_3, .bool t19_4, .int .u64 t19_5, .int .u64 t19_6, .int .i64 t19_7, .int .i64 t19_8], .int .i64 1] h2 fun v h3 => ∃ t20_0 : Int, ∃ t20_1 : Int, ∃ t20_2 : Int, v = .tuple #[.int .i64 t20_0, .int .i64 t20_1, .int .i64 t20_2] ∧ CallT Try.prog fn_law22_flow #[.int .i64 2] h3 fun v h4 => ∃ t26_0 : Int, ∃ t26_1 : Bool, ∃ t26_2 : Int, ∃ t26_3 : Int, ∃ t26_4 : Bool, ∃ t26_5 : Int, ∃ t26_6 : Int, ∃ t26_7 : Int, ∃ t26_8 : Int, v = .agg #[.int .i64 t26_0, .bool t26_1, .int .u64 t26_2, .int .u64 t26_3, .bool t26_4, .int .u64 t26_5, .int .u64 t26_6, .int .i64 t26_7, .int .i64 t26_8] ∧ CallT Try.prog fn_flowtable_Table_Open #[.pointer t14, .int .i64 1, .agg #[.int .i64 t26_0, .bool t26_1, .int .u64 t26_2, .int .u64 t26_3, .bool t26_4, .int .u64 t26_5, .int .u64 t26_6, .int .i64 t26_7, .int .i64 t26_8], .int .i64 0] h4 fun v h5 => ∃ t27_0 : Int, ∃ t27_1 : Int, ∃ t27_2 : Int, v = .tuple #[.int .i64 t27_0, .int .i64 t27_1, .int .i64 t27_2] ∧ if (t20_0 != 1) = true then (Q (.bool false) h5) else (if (t27_0 != 2) = true then (Q (.bool false) h5) else (CallT Try.prog fn_flowtable_Table_Touch #[.pointer t14, .int .i64 2, .int .i64 t20_0] h5 fun v h6 => ∃ t40 : Int, v = .int .i64 t40 ∧ if (t40 != 0) = true then (Q (.bool false) h6) else (CallT Try.prog fn_law22_flow #[.int .i64 3] h6 fun v h7 => ∃ t45_0 : Int, ∃ t45_1 : Bool, ∃ t45_2 : Int, ∃ t45_3 : Int, ∃ t45_4 : Bool, ∃ t45_5 : Int, ∃ t45_6 : Int, ∃ t45_7 : Int, ∃ t45_8 : Int, v = .agg #[.int .i64 t45_0, .bool t45_1, .int .u64 t45_2, .int .u64 t45_3, .bool t45_4, .int .u64 t45_5, .int .u64 t45_6, .int .i64 t45_7, .int .i64 t45_8] ∧ CallT Try.prog fn_flowtable_Table_Open #[.pointer t14, .int .i64 3, .agg #[.int .i64 t45_0, .bool t45_1, .int .u64 t45_2, .int .u64 t45_3, .bool t45_4, .int .u64 t45_5, .int .u64 t45_6, .int .i64 t45_7, .int .i64 t45_8], .int .i64 0] h7 fun v h8 => ∃ t46_0 : Int, ∃ t46_1 : Int, ∃ t46_2 : Int, v = .tuple #[.int .i64 t46_0, .int .i64 t46_1, .int .i64 t46_2] ∧ CallT Try.prog fn_law22_flow #[.int .i64 4] h8 fun v h9 => ∃ t52_0 : Int, ∃ t52_1 : Bool, ∃ t52_2 : Int, ∃ t52_3 : Int, ∃ t52_4 : Bool, ∃ t52_5 : Int, ∃ t52_6 : Int, ∃ t52_7 : Int, ∃ t52_8 : Int, v = .agg #[.int .i64 t52_0, .bool t52_1, .int .u64 t52_2, .int .u64 t52_3, .bool t52_4, .int .u64 t52_5, .int .u64 t52_6, .int .i64 t52_7, .int .i64 t52_8] ∧ CallT Try.prog fn_flowtable_Table_Open #[.pointer t14, .int .i64 4, .agg #[.int .i64 t52_0, .bool t52_1, .int .u64 t52_2, .int .u64 t52_3, .bool t52_4, .int .u64 t52_5, .int .u64 t52_6, .int .i64 t52_7, .int .i64 t52_8], .int .i64 0] h9 fun v h10 => ∃ t53_0 : Int, ∃ t53_1 : Int, ∃ t53_2 : Int, v = .tuple #[.int .i64 t53_0, .int .i64 t53_1, .int .i64 t53_2] ∧ if (t46_0 == 3) = true then (if (t46_1 == 2) = true then (if (t46_2 == 0) = true then (if (t53_0 == 4) = true then (if (t53_1 == 3) = true then (if (t53_2 == 0) = true then (CallT Try.prog fn_flowtable_Table_Ids #[.pointer t14] h10 fun v h11 => ∃ t81a : Option Addr, ∃ t81n : Nat, ∃ t81c : Nat, v = .slice t81a t81n t81c ∧ alV h11 (.cells #[.int .i64 1, .int .i64 4] T_int) fun t82 h12 => CallT Try.prog fn_ref22_Same #[.slice t81a t81n t81c, .slice (some t82) 2 2] h12 fun v h13 => ∃ t83 : Bool, v = .bool t83 ∧ Q (.bool t83) h13) else (Q (.bool false) h10)) else (Q (.bool false) h10)) else (Q (.bool false) h10)) else (Q (.bool false) h10)) else (Q (.bool false) h10)) else (Q (.bool false) h10)))))
set_option maxRecDepth 100000 in
theorem law22_awake_s {Q : QT} {h : Heap} (hk : law22_awake_v Q h) : CallT Try.prog fn_law22_awake #[] h Q :=
 callU follows Try.func6 (Try.call6 _) rfl rfl [] []
 trivial
 trivial (by as_aux_lemma => kernel_rfl) hk
/-! ### intrusion/flowtable.New -/
def flowtable_New_v (max_0 timeout_1 : Int) (Q : QT) (h : Heap) : Prop :=
 CallT Try.prog fn_flowtable_bound #[.int .i64 max_0, .int .i64 64] h fun v h1 => ∃ t6 : Int, v = .int .i64 t6 ∧ CallT Try.prog fn_flowtable_bound #[.int .i64 timeout_1, .int .i64 1099511627776] h1 fun v h2 => ∃ t8 : Int, v = .int .i64 t8 ∧ mkMapV h2 fun t9 h3 => mkMapV h3 fun t10 h4 => alV h4 (.cells #[.int .i64 t6, .int .i64 t8, .int .i64 0, .int .i64 1, .map (some t9), .map (some t10)] T_flowtable_Table) fun t12 h5 => Q (.pointer (some t12)) h5
set_option maxRecDepth 100000 in
theorem flowtable_New_s (max_0 timeout_1 : Int) {Q : QT} {h : Heap} (hk : flowtable_New_v max_0 timeout_1 Q h) : CallT Try.prog fn_flowtable_New #[.int .i64 max_0, .int .i64 timeout_1] h Q :=
 callU follows Try.func7 (Try.call7 _) rfl rfl [] []
 trivial
 trivial (by as_aux_lemma => kernel_rfl) hk
/-! ### (*intrusion/flowtable.Table).Ids -/
def flowtable_Table_Ids_b2 (out_3a : Option Addr) (out_3n out_3c : Nat) (Q : QT) (h : Heap) : Prop :=
 CallT Try.prog fn_slices_Sort_int_int #[.slice out_3a out_3n out_3c] h fun v h6 => v = .tuple #[] ∧ Q (.slice out_3a out_3n out_3c) h6
def flowtable_Table_Ids_l1 (t11 : Addr) (Q : QT) (out_3a : Option Addr) (out_3n out_3c : Nat) (h : Heap) (Kn1 : (Option Addr) × Nat × Nat → Heap → Prop) : Prop :=
 nextV Try.prog (.pointer (some t11)) false T_t h fun v h2 => (v = .tuple #[.bool false] → flowtable_Table_Ids_b2 out_3a out_3n out_3c Q h2) ∧ (v ≠ .tuple #[.bool false] → ∃ t12k t12x : Value, v = .tuple #[.bool true, t12k, t12x] ∧ entryV Try.prog (.pointer (some t11)) h2 fun v h3 => ∃ t14k t14x : Value, v = .tuple #[t14k, t14x] ∧ dI .i64 t14k fun t15 => alV h3 (.cells #[.int .i64 t15] T_int) fun t18 h4 => bltV Try.prog .append #[T_sl_int, T_sl_int] T_sl_int #[false, false] #[.slice out_3a out_3n out_3c, .slice (some t18) 1 1] h4 fun v h5 => ∃ t19a : Option Addr, ∃ t19n : Nat, ∃ t19c : Nat, v = .slice t19a t19n t19c ∧ Kn1 (t19a, t19n, t19c) h5)
def flowtable_Table_Ids_v (t_0 : Option Addr) (Q : QT) (h : Heap) : Prop :=
 if (Option.isNone t_0) = true then (Q (.slice none 0 0) h) else (nn t_0 fun t8 => ldM h (Addr.add t8 4) fun t10 => rangeV Try.prog T_map_int_p_flowtable_flow (.map t10) h fun v h1 => ∃ t11 : Nat, v = Value.pointer (some ⟨t11, 0, none⟩) ∧ LoopV (fun (s : (Option Addr) × Nat × Nat) h Kn => flowtable_Table_Ids_l1 (⟨t11, 0, none⟩ : Addr) Q s.1 s.2.1 s.2.2 h Kn) (none, 0, 0) h1)
set_option maxRecDepth 100000 in
theorem flowtable_Table_Ids_s (t_0 : Option Addr) {Q : QT} {h : Heap} (hk : flowtable_Table_Ids_v t_0 Q h) : CallT Try.prog fn_flowtable_Table_Ids #[.pointer t_0] h Q :=
 callU follows Try.func8 (Try.call8 _) rfl rfl [(18, fun e h => dL (e 3) fun out_3a out_3n out_3c => flowtable_Table_Ids_b2 out_3a out_3n out_3c Q h)] [(12, fun e h => dA (e 11) fun t11 => dL (e 3) fun out_3a out_3n out_3c => LoopV (fun (s : (Option Addr) × Nat × Nat) h Kn => flowtable_Table_Ids_l1 t11 Q s.1 s.2.1 s.2.2 h Kn) (out_3a, out_3n, out_3c) h)]
 ⟨fun e h _ hk => by
 have F := Ag.nil (e := e)
 have ⟨out_3a, out_3n, out_3c, F, hk⟩ := eL F hk
 exact cutU F (by as_aux_lemma => kernel_rfl) hk, trivial⟩
 ⟨⟨by kernel_rfl, fun e h he hk => by
 have F := Ag.nil (e := e)
 have ⟨t11, F, hk⟩ := eA F hk
 have ⟨out_3a, out_3n, out_3c, F, hk⟩ := eL F hk
 exact loopU (s0 := (out_3a, out_3n, out_3c)) follows (fun _ h => by cases h) he F (fun s => [(3, .slice s.1 s.2.1 s.2.2)]) (by kernel_rfl) (F.take 1) hk (fun Kn1 e h => dL (e 3) fun out_3a out_3n out_3c => Kn1 (out_3a, out_3n, out_3c) h) (fun Kn1 e h hk => by
  have F := Ag.nil (e := e)
  have ⟨out_3a, out_3n, out_3c, F, hk⟩ := eL F hk
  exact ⟨(out_3a, out_3n, out_3c), F, hk⟩)
  (fun Kn1 => []) (fun Kn1 => [])
  (fun Kn1 => trivial)
  (fun Kn1 => trivial) (fun e s h Kn1 => by as_aux_lemma => kernel_rfl)⟩, trivial⟩ (by as_aux_lemma => kernel_rfl) hk
/-! ### (*intrusion/flowtable.Table).Open -/
def flowtable_Table_Open_b1 (t_0 : Option Addr) (at_1 value_3 : Int) (f_6 : Addr) (evicted_9 : Int) (Q : QT) (h : Heap) : Prop :=
 nn t_0 fun t86 => st1 h (Addr.add t86 2) (.int .i64 at_1) fun h10 => nn t_0 fun t89 => ldI h10 (Addr.add t89 3) .i64 fun t91 => nn t_0 fun t93 => ldI h10 (Addr.add t93 3) .i64 fun t95 => nn t_0 fun t97 => st1 h10 (Addr.add t97 3) (.int .i64 (wrap .i64 (t95 + 1))) fun h11 => nn t_0 fun t100 => ldM h11 (Addr.add t100 4) fun t102 => ldI h11 f_6 .i64 fun t104_0 => ldB h11 (Addr.add f_6 1) fun t104_1 => ldI h11 (Addr.add f_6 2) .u64 fun t104_2 => ldI h11 (Addr.add f_6 3) .u64 fun t104_3 => ldB h11 (Addr.add f_6 4) fun t104_4 => ldI h11 (Addr.add f_6 5) .u64 fun t104_5 => ldI h11 (Addr.add f_6 6) .u64 fun t104_6 => ldI h11 (Addr.add f_6 7) .i64 fun t104_7 => ldI h11 (Addr.add f_6 8) .i64 fun t104_8 => alV h11 (.cells #[.int .i64 t104_0, .bool t104_1, .int .u64 t104_2, .int .u64 t104_3, .bool t104_4, .int .u64 t104_5, .int .u64 t104_6, .int .i64 t104_7, .int .i64 t104_8, .int .i64 value_3, .int .i64 at_1] T_flowtable_flow) fun t108 h12 => (ldM h12 (Addr.add t100 4) fun t9102 => (.map t9102 : Value) = .map t102) ∧ mapUpdV Try.prog T_map_int_p_flowtable_flow (.map t102) (.int .i64 t91) (.pointer (some t108)) h12 fun h13 => nn t_0 fun t110 => ldM h13 (Addr.add t110 5) fun t112 => ldI h13 f_6 .i64 fun t113_0 => ldB h13 (Addr.add f_6 1) fun t113_1 => ldI h13 (Addr.add f_6 2) .u64 fun t113_2 => ldI h13 (Addr.add f_6 3) .u64 fun t113_3 => ldB h13 (Addr.add f_6 4) fun t113_4 => ldI h13 (Addr.add f_6 5) .u64 fun t113_5 => ldI h13 (Addr.add f_6 6) .u64 fun t113_6 => ldI h13 (Addr.add f_6 7) .i64 fun t113_7 => ldI h13 (Addr.add f_6 8) .i64 fun t113_8 => CallT Try.prog fn_flowtable_keyOf #[.agg #[.int .i64 t113_0, .bool t113_1, .int .u64 t113_2, .int .u64 t113_3, .bool t113_4, .int .u64 t113_5, .int .u64 t113_6, .int .i64 t113_7, .int .i64 t113_8]] h13 fun v h14 => ∃ t114_0 : Int, ∃ t114_1 : Bool, ∃ t114_2 : Int, ∃ t114_3 : Int, ∃ t114_4 : Int, ∃ t114_5 : Int, ∃ t114_6 : Bool, ∃ t114_7 : Int, ∃ t114_8 : Int, ∃ t114_9 : Int, v = .agg #[.int .i64 t114_0, .bool t114_1, .int .u64 t114_2, .int .u64 t114_3, .int .i64 t114_4, .int .i64 t114_5, .bool t114_6, .int .u64 t114_7, .int .u64 t114_8, .int .i64 t114_9] ∧ (ldM h14 (Addr.add t110 5) fun t9112 => (.map t9112 : Value) = .map t112) ∧ mapUpdV Try.prog T_map_flowtable_pair_int (.map t112) (.agg #[.int .i64 t114_0, .bool t114_1, .int .u64 t114_2, .int .u64 t114_3, .int .i64 t114_4, .int .i64 t114_5, .bool t114_6, .int .u64 t114_7, .int .u64 t114_8, .int .i64 t114_9]) (.int .i64 t91) h14 fun h15 => Q (.tuple #[.int .i64 t91, .int .i64 evicted_9, .int .i64 0]) h15
def flowtable_Table_Open_v (t_0 : Option Addr) (at_1 f_2_0 : Int) (f_2_1 : Bool) (f_2_2 f_2_3 : Int) (f_2_4 : Bool) (f_2_5 f_2_6 f_2_7 f_2_8 value_3 : Int) (Q : QT) (h : Heap) : Prop :=
 alV h (.cells #[.int .i64 f_2_0, .bool f_2_1, .int .u64 f_2_2, .int .u64 f_2_3, .bool f_2_4, .int .u64 f_2_5, .int .u64 f_2_6, .int .i64 f_2_7, .int .i64 f_2_8] T_api_Flow) fun t6 h1 => if (Option.isNone t_0) = true then (Q (.tuple #[.int .i64 0, .int .i64 0, .int .i64 6]) h1) else (CallT Try.prog fn_flowtable_Table_late #[.pointer t_0, .int .i64 at_1] h1 fun v h2 => ∃ t20 : Bool, v = .bool t20 ∧ if t20 = true then (Q (.tuple #[.int .i64 0, .int .i64 0, .int .i64 12]) h2) else (if (decide (value_3 < 0)) = true then (Q (.tuple #[.int .i64 0, .int .i64 0, .int .i64 4]) h2) else (if (decide (value_3 > 3)) = true then (Q (.tuple #[.int .i64 0, .int .i64 0, .int .i64 4]) h2) else (ldI h2 t6 .i64 fun t30 => if (decide (t30 < 0)) = true then (Q (.tuple #[.int .i64 0, .int .i64 0, .int .i64 4]) h2) else (ldI h2 t6 .i64 fun t35 => if (decide (t35 > 255)) = true then (Q (.tuple #[.int .i64 0, .int .i64 0, .int .i64 4]) h2) else (ldI h2 (Addr.add t6 7) .i64 fun t40 => CallT Try.prog fn_flowtable_port #[.int .i64 t40] h2 fun v h3 => ∃ t41 : Bool, v = .bool t41 ∧ if (!t41) = true then (Q (.tuple #[.int .i64 0, .int .i64 0, .int .i64 4]) h3) else (ldI h3 (Addr.add t6 8) .i64 fun t46 => CallT Try.prog fn_flowtable_port #[.int .i64 t46] h3 fun v h4 => ∃ t47 : Bool, v = .bool t47 ∧ if (!t47) = true then (Q (.tuple #[.int .i64 0, .int .i64 0, .int .i64 4]) h4) else (ldI h4 t6 .i64 fun t52_0 => ldB h4 (Addr.add t6 1) fun t52_1 => ldI h4 (Addr.add t6 2) .u64 fun t52_2 => ldI h4 (Addr.add t6 3) .u64 fun t52_3 => ldB h4 (Addr.add t6 4) fun t52_4 => ldI h4 (Addr.add t6 5) .u64 fun t52_5 => ldI h4 (Addr.add t6 6) .u64 fun t52_6 => ldI h4 (Addr.add t6 7) .i64 fun t52_7 => ldI h4 (Addr.add t6 8) .i64 fun t52_8 => CallT Try.prog fn_flowtable_Table_Find #[.pointer t_0, .agg #[.int .i64 t52_0, .bool t52_1, .int .u64 t52_2, .int .u64 t52_3, .bool t52_4, .int .u64 t52_5, .int .u64 t52_6, .int .i64 t52_7, .int .i64 t52_8]] h4 fun v h5 => ∃ t53_0 : Int, ∃ t53_1 : Int, ∃ t53_2 : Bool, v = .tuple #[.int .i64 t53_0, .int .i64 t53_1, .bool t53_2] ∧ if t53_2 = true then (Q (.tuple #[.int .i64 0, .int .i64 0, .int .i64 7]) h5) else (nn t_0 fun t59 => ldM h5 (Addr.add t59 4) fun t61 => nn t_0 fun t64 => ldI h5 t64 .i64 fun t66 => bltV Try.prog .len #[T_map_int_p_flowtable_flow] T_int #[false] #[.map t61] h5 fun v h6 => ∃ t62 : Int, v = .int .i64 t62 ∧ (ldI h6 t64 .i64 fun t966 => (.int .i64 t966 : Value) = .int .i64 t66) ∧ if (decide (t62 ≥ t66)) = true then (CallT Try.prog fn_flowtable_Table_least #[.pointer t_0] h6 fun v h7 => ∃ t69 : Int, v = .int .i64 t69 ∧ nn t_0 fun t71 => ldM h7 (Addr.add t71 4) fun t73 => lookV Try.prog T_map_int_p_flowtable_flow (.map t73) (.int .i64 t69) false h7 fun v h8 => ∃ t75 : Option Addr, v = .pointer t75 ∧ nn t75 fun t76 => ldI h8 (Addr.add t76 9) .i64 fun t78 => if (decide (t78 > value_3)) = true then (Q (.tuple #[.int .i64 0, .int .i64 0, .int .i64 11]) h8) else (CallT Try.prog fn_flowtable_Table_drop #[.pointer t_0, .int .i64 t69] h8 fun v h9 => v = .tuple #[] ∧ flowtable_Table_Open_b1 t_0 at_1 value_3 t6 t69 Q h9)) else (flowtable_Table_Open_b1 t_0 at_1 value_3 t6 0 Q h6))))))))))
set_option maxRecDepth 100000 in
theorem flowtable_Table_Open_s (t_0 : Option Addr) (at_1 f_2_0 : Int) (f_2_1 : Bool) (f_2_2 f_2_3 : Int) (f_2_4 : Bool) (f_2_5 f_2_6 f_2_7 f_2_8 value_3 : Int) {Q : QT} {h : Heap} (hk : flowtable_Table_Open_v t_0 at_1 f_2_0 f_2_1 f_2_2 f_2_3 f_2_4 f_2_5 f_2_6 f_2_7 f_2_8 value_3 Q h) : CallT Try.prog fn_flowtable_Table_Open #[.pointer t_0, .int .i64 at_1, .agg #[.int .i64 f_2_0, .bool f_2_1, .int .u64 f_2_2, .int .u64 f_2_3, .bool f_2_4, .int .u64 f_2_5, .int .u64 f_2_6, .int .i64 f_2_7, .int .i64 f_2_8], .int .i64 value_3] h Q :=
 callU follows Try.func9 (Try.call9 _) rfl rfl [(32, fun e h => dP (e 0) fun t_0 => dI .i64 (e 1) fun at_1 => dI .i64 (e 3) fun value_3 => dA (e 6) fun f_6 => dI .i64 (e 9) fun evicted_9 => flowtable_Table_Open_b1 t_0 at_1 value_3 f_6 evicted_9 Q h)] []
 ⟨fun e h _ hk => by
 have F := Ag.nil (e := e)
 have ⟨t_0, F, hk⟩ := eP F hk
 have ⟨at_1, F, hk⟩ := eI F hk
 have ⟨value_3, F, hk⟩ := eI F hk
 have ⟨f_6, F, hk⟩ := eA F hk
 have ⟨evicted_9, F, hk⟩ := eI F hk
 exact cutU F (by as_aux_lemma => kernel_rfl) hk, trivial⟩
 trivial (by as_aux_lemma => kernel_rfl) hk
/-! ### intrusion/intrusionlaw22.flow -/
def law22_flow_v (n_0 : Int) (Q : QT) (h : Heap) : Prop :=
 alV h (.cells #[.int .i64 0, .bool false, .int .u64 0, .int .u64 0, .bool false, .int .u64 0, .int .u64 0, .int .i64 0, .int .i64 0] T_api_Flow) fun t2 h1 => stN h1 t2 [.int .i64 6, .bool false, .int .u64 0, .int .u64 1, .bool false, .int .u64 0, .int .u64 2, .int .i64 n_0, .int .i64 80] 0 fun h2 => ldI h2 t2 .i64 fun r0_0 => ldB h2 (Addr.add t2 1) fun r0_1 => ldI h2 (Addr.add t2 2) .u64 fun r0_2 => ldI h2 (Addr.add t2 3) .u64 fun r0_3 => ldB h2 (Addr.add t2 4) fun r0_4 => ldI h2 (Addr.add t2 5) .u64 fun r0_5 => ldI h2 (Addr.add t2 6) .u64 fun r0_6 => ldI h2 (Addr.add t2 7) .i64 fun r0_7 => ldI h2 (Addr.add t2 8) .i64 fun r0_8 => Q (.agg #[.int .i64 r0_0, .bool r0_1, .int .u64 r0_2, .int .u64 r0_3, .bool r0_4, .int .u64 r0_5, .int .u64 r0_6, .int .i64 r0_7, .int .i64 r0_8]) h2
set_option maxRecDepth 100000 in
theorem law22_flow_s (n_0 : Int) {Q : QT} {h : Heap} (hk : law22_flow_v n_0 Q h) : CallT Try.prog fn_law22_flow #[.int .i64 n_0] h Q :=
 callU follows Try.func10 (Try.call10 _) rfl rfl [] []
 trivial
 trivial (by as_aux_lemma => kernel_rfl) hk
/-! ### (*intrusion/flowtable.Table).Find -/
def flowtable_Table_Find_v (t_0 : Option Addr) (f_1_0 : Int) (f_1_1 : Bool) (f_1_2 f_1_3 : Int) (f_1_4 : Bool) (f_1_5 f_1_6 f_1_7 f_1_8 : Int) (Q : QT) (h : Heap) : Prop :=
 alV h (.cells #[.int .i64 f_1_0, .bool f_1_1, .int .u64 f_1_2, .int .u64 f_1_3, .bool f_1_4, .int .u64 f_1_5, .int .u64 f_1_6, .int .i64 f_1_7, .int .i64 f_1_8] T_api_Flow) fun t3 h1 => if (Option.isNone t_0) = true then (Q (.tuple #[.int .i64 0, .int .i64 0, .bool false]) h1) else (nn t_0 fun t11 => ldM h1 (Addr.add t11 5) fun t13 => ldI h1 t3 .i64 fun t14_0 => ldB h1 (Addr.add t3 1) fun t14_1 => ldI h1 (Addr.add t3 2) .u64 fun t14_2 => ldI h1 (Addr.add t3 3) .u64 fun t14_3 => ldB h1 (Addr.add t3 4) fun t14_4 => ldI h1 (Addr.add t3 5) .u64 fun t14_5 => ldI h1 (Addr.add t3 6) .u64 fun t14_6 => ldI h1 (Addr.add t3 7) .i64 fun t14_7 => ldI h1 (Addr.add t3 8) .i64 fun t14_8 => CallT Try.prog fn_flowtable_keyOf #[.agg #[.int .i64 t14_0, .bool t14_1, .int .u64 t14_2, .int .u64 t14_3, .bool t14_4, .int .u64 t14_5, .int .u64 t14_6, .int .i64 t14_7, .int .i64 t14_8]] h1 fun v h2 => ∃ t15_0 : Int, ∃ t15_1 : Bool, ∃ t15_2 : Int, ∃ t15_3 : Int, ∃ t15_4 : Int, ∃ t15_5 : Int, ∃ t15_6 : Bool, ∃ t15_7 : Int, ∃ t15_8 : Int, ∃ t15_9 : Int, v = .agg #[.int .i64 t15_0, .bool t15_1, .int .u64 t15_2, .int .u64 t15_3, .int .i64 t15_4, .int .i64 t15_5, .bool t15_6, .int .u64 t15_7, .int .u64 t15_8, .int .i64 t15_9] ∧ (ldM h2 (Addr.add t11 5) fun t913 => (.map t913 : Value) = .map t13) ∧ lookV Try.prog T_map_flowtable_pair_int (.map t13) (.agg #[.int .i64 t15_0, .bool t15_1, .int .u64 t15_2, .int .u64 t15_3, .int .i64 t15_4, .int .i64 t15_5, .bool t15_6, .int .u64 t15_7, .int .u64 t15_8, .int .i64 t15_9]) true h2 fun v h3 => ∃ t16_0 : Int, ∃ t16_1 : Bool, v = .tuple #[.int .i64 t16_0, .bool t16_1] ∧ if (!t16_1) = true then (Q (.tuple #[.int .i64 0, .int .i64 0, .bool false]) h3) else (nn t_0 fun t24 => ldM h3 (Addr.add t24 4) fun t26 => ldI h3 t3 .i64 fun t33_0 => ldB h3 (Addr.add t3 1) fun t33_1 => ldI h3 (Addr.add t3 2) .u64 fun t33_2 => ldI h3 (Addr.add t3 3) .u64 fun t33_3 => ldB h3 (Addr.add t3 4) fun t33_4 => ldI h3 (Addr.add t3 5) .u64 fun t33_5 => ldI h3 (Addr.add t3 6) .u64 fun t33_6 => ldI h3 (Addr.add t3 7) .i64 fun t33_7 => ldI h3 (Addr.add t3 8) .i64 fun t33_8 => lookV Try.prog T_map_int_p_flowtable_flow (.map t26) (.int .i64 t16_0) false h3 fun v h4 => ∃ t28 : Option Addr, v = .pointer t28 ∧ (ldI h4 t3 .i64 fun t933_0 => ldB h4 (Addr.add t3 1) fun t933_1 => ldI h4 (Addr.add t3 2) .u64 fun t933_2 => ldI h4 (Addr.add t3 3) .u64 fun t933_3 => ldB h4 (Addr.add t3 4) fun t933_4 => ldI h4 (Addr.add t3 5) .u64 fun t933_5 => ldI h4 (Addr.add t3 6) .u64 fun t933_6 => ldI h4 (Addr.add t3 7) .i64 fun t933_7 => ldI h4 (Addr.add t3 8) .i64 fun t933_8 => (.agg #[.int .i64 t933_0, .bool t933_1, .int .u64 t933_2, .int .u64 t933_3, .bool t933_4, .int .u64 t933_5, .int .u64 t933_6, .int .i64 t933_7, .int .i64 t933_8] : Value) = .agg #[.int .i64 t33_0, .bool t33_1, .int .u64 t33_2, .int .u64 t33_3, .bool t33_4, .int .u64 t33_5, .int .u64 t33_6, .int .i64 t33_7, .int .i64 t33_8]) ∧ nn t28 fun t29 => ldI h4 t29 .i64 fun t31_0 => ldB h4 (Addr.add t29 1) fun t31_1 => ldI h4 (Addr.add t29 2) .u64 fun t31_2 => ldI h4 (Addr.add t29 3) .u64 fun t31_3 => ldB h4 (Addr.add t29 4) fun t31_4 => ldI h4 (Addr.add t29 5) .u64 fun t31_5 => ldI h4 (Addr.add t29 6) .u64 fun t31_6 => ldI h4 (Addr.add t29 7) .i64 fun t31_7 => ldI h4 (Addr.add t29 8) .i64 fun t31_8 => CallT Try.prog fn_flowtable_keyOf #[.agg #[.int .i64 t31_0, .bool t31_1, .int .u64 t31_2, .int .u64 t31_3, .bool t31_4, .int .u64 t31_5, .int .u64 t31_6, .int .i64 t31_7, .int .i64 t31_8]] h4 fun v h5 => ∃ t32_0 : Int, ∃ t32_1 : Bool, ∃ t32_2 : Int, ∃ t32_3 : Int, ∃ t32_4 : Int, ∃ t32_5 : Int, ∃ t32_6 : Bool, ∃ t32_7 : Int, ∃ t32_8 : Int, ∃ t32_9 : Int, v = .agg #[.int .i64 t32_0, .bool t32_1, .int .u64 t32_2, .int .u64 t32_3, .int .i64 t32_4, .int .i64 t32_5, .bool t32_6, .int .u64 t32_7, .int .u64 t32_8, .int .i64 t32_9] ∧ (ldI h5 t3 .i64 fun t933_0 => ldB h5 (Addr.add t3 1) fun t933_1 => ldI h5 (Addr.add t3 2) .u64 fun t933_2 => ldI h5 (Addr.add t3 3) .u64 fun t933_3 => ldB h5 (Addr.add t3 4) fun t933_4 => ldI h5 (Addr.add t3 5) .u64 fun t933_5 => ldI h5 (Addr.add t3 6) .u64 fun t933_6 => ldI h5 (Addr.add t3 7) .i64 fun t933_7 => ldI h5 (Addr.add t3 8) .i64 fun t933_8 => (.agg #[.int .i64 t933_0, .bool t933_1, .int .u64 t933_2, .int .u64 t933_3, .bool t933_4, .int .u64 t933_5, .int .u64 t933_6, .int .i64 t933_7, .int .i64 t933_8] : Value) = .agg #[.int .i64 t33_0, .bool t33_1, .int .u64 t33_2, .int .u64 t33_3, .bool t33_4, .int .u64 t33_5, .int .u64 t33_6, .int .i64 t33_7, .int .i64 t33_8]) ∧ CallT Try.prog fn_flowtable_keyOf #[.agg #[.int .i64 t33_0, .bool t33_1, .int .u64 t33_2, .int .u64 t33_3, .bool t33_4, .int .u64 t33_5, .int .u64 t33_6, .int .i64 t33_7, .int .i64 t33_8]] h5 fun v h6 => ∃ t34_0 : Int, ∃ t34_1 : Bool, ∃ t34_2 : Int, ∃ t34_3 : Int, ∃ t34_4 : Int, ∃ t34_5 : Int, ∃ t34_6 : Bool, ∃ t34_7 : Int, ∃ t34_8 : Int, ∃ t34_9 : Int, v = .agg #[.int .i64 t34_0, .bool t34_1, .int .u64 t34_2, .int .u64 t34_3, .int .i64 t34_4, .int .i64 t34_5, .bool t34_6, .int .u64 t34_7, .int .u64 t34_8, .int .i64 t34_9] ∧ if (!(((t32_0 == t34_0) && (((t32_1 == t34_1) && ((t32_2 == t34_2) && ((t32_3 == t34_3) && true))) && ((t32_4 == t34_4) && true))) && (((t32_5 == t34_5) && (((t32_6 == t34_6) && ((t32_7 == t34_7) && ((t32_8 == t34_8) && true))) && ((t32_9 == t34_9) && true))) && true))) = true then (Q (.tuple #[.int .i64 0, .int .i64 0, .bool false]) h6) else (nn t_0 fun t39 => ldM h6 (Addr.add t39 4) fun t41 => ldI h6 t3 .i64 fun t47_0 => ldB h6 (Addr.add t3 1) fun t47_1 => ldI h6 (Addr.add t3 2) .u64 fun t47_2 => ldI h6 (Addr.add t3 3) .u64 fun t47_3 => ldB h6 (Addr.add t3 4) fun t47_4 => ldI h6 (Addr.add t3 5) .u64 fun t47_5 => ldI h6 (Addr.add t3 6) .u64 fun t47_6 => ldI h6 (Addr.add t3 7) .i64 fun t47_7 => ldI h6 (Addr.add t3 8) .i64 fun t47_8 => lookV Try.prog T_map_int_p_flowtable_flow (.map t41) (.int .i64 t16_0) false h6 fun v h7 => ∃ t43 : Option Addr, v = .pointer t43 ∧ (ldI h7 t3 .i64 fun t947_0 => ldB h7 (Addr.add t3 1) fun t947_1 => ldI h7 (Addr.add t3 2) .u64 fun t947_2 => ldI h7 (Addr.add t3 3) .u64 fun t947_3 => ldB h7 (Addr.add t3 4) fun t947_4 => ldI h7 (Addr.add t3 5) .u64 fun t947_5 => ldI h7 (Addr.add t3 6) .u64 fun t947_6 => ldI h7 (Addr.add t3 7) .i64 fun t947_7 => ldI h7 (Addr.add t3 8) .i64 fun t947_8 => (.agg #[.int .i64 t947_0, .bool t947_1, .int .u64 t947_2, .int .u64 t947_3, .bool t947_4, .int .u64 t947_5, .int .u64 t947_6, .int .i64 t947_7, .int .i64 t947_8] : Value) = .agg #[.int .i64 t47_0, .bool t47_1, .int .u64 t47_2, .int .u64 t47_3, .bool t47_4, .int .u64 t47_5, .int .u64 t47_6, .int .i64 t47_7, .int .i64 t47_8]) ∧ nn t43 fun t44 => ldI h7 t44 .i64 fun t46_0 => ldB h7 (Addr.add t44 1) fun t46_1 => ldI h7 (Addr.add t44 2) .u64 fun t46_2 => ldI h7 (Addr.add t44 3) .u64 fun t46_3 => ldB h7 (Addr.add t44 4) fun t46_4 => ldI h7 (Addr.add t44 5) .u64 fun t46_5 => ldI h7 (Addr.add t44 6) .u64 fun t46_6 => ldI h7 (Addr.add t44 7) .i64 fun t46_7 => ldI h7 (Addr.add t44 8) .i64 fun t46_8 => if ((t46_0 == t47_0) && (((t46_1 == t47_1) && ((t46_2 == t47_2) && ((t46_3 == t47_3) && true))) && (((t46_4 == t47_4) && ((t46_5 == t47_5) && ((t46_6 == t47_6) && true))) && ((t46_7 == t47_7) && ((t46_8 == t47_8) && true))))) = true then (Q (.tuple #[.int .i64 t16_0, .int .i64 1, .bool true]) h7) else (nn t_0 fun t52 => ldM h7 (Addr.add t52 4) fun t54 => ldI h7 t3 .i64 fun t60_0 => ldB h7 (Addr.add t3 1) fun t60_1 => ldI h7 (Addr.add t3 2) .u64 fun t60_2 => ldI h7 (Addr.add t3 3) .u64 fun t60_3 => ldB h7 (Addr.add t3 4) fun t60_4 => ldI h7 (Addr.add t3 5) .u64 fun t60_5 => ldI h7 (Addr.add t3 6) .u64 fun t60_6 => ldI h7 (Addr.add t3 7) .i64 fun t60_7 => ldI h7 (Addr.add t3 8) .i64 fun t60_8 => (lookV Try.prog T_map_int_p_flowtable_flow (.map t54) (.int .i64 t16_0) false h7 fun v h8 => ∃ t56 : Option Addr, v = .pointer t56 ∧ (ldI h8 t3 .i64 fun t960_0 => ldB h8 (Addr.add t3 1) fun t960_1 => ldI h8 (Addr.add t3 2) .u64 fun t960_2 => ldI h8 (Addr.add t3 3) .u64 fun t960_3 => ldB h8 (Addr.add t3 4) fun t960_4 => ldI h8 (Addr.add t3 5) .u64 fun t960_5 => ldI h8 (Addr.add t3 6) .u64 fun t960_6 => ldI h8 (Addr.add t3 7) .i64 fun t960_7 => ldI h8 (Addr.add t3 8) .i64 fun t960_8 => (.agg #[.int .i64 t960_0, .bool t960_1, .int .u64 t960_2, .int .u64 t960_3, .bool t960_4, .int .u64 t960_5, .int .u64 t960_6, .int .i64 t960_7, .int .i64 t960_8] : Value) = .agg #[.int .i64 t60_0, .bool t60_1, .int .u64 t60_2, .int .u64 t60_3, .bool t60_4, .int .u64 t60_5, .int .u64 t60_6, .int .i64 t60_7, .int .i64 t60_8]) ∧ nn t56 fun t57 => ldI h8 t57 .i64 fun t59_0 => ldB h8 (Addr.add t57 1) fun t59_1 => ldI h8 (Addr.add t57 2) .u64 fun t59_2 => ldI h8 (Addr.add t57 3) .u64 fun t59_3 => ldB h8 (Addr.add t57 4) fun t59_4 => ldI h8 (Addr.add t57 5) .u64 fun t59_5 => ldI h8 (Addr.add t57 6) .u64 fun t59_6 => ldI h8 (Addr.add t57 7) .i64 fun t59_7 => ldI h8 (Addr.add t57 8) .i64 fun t59_8 => CallT Try.prog fn_flowtable_Reverse #[.agg #[.int .i64 t60_0, .bool t60_1, .int .u64 t60_2, .int .u64 t60_3, .bool t60_4, .int .u64 t60_5, .int .u64 t60_6, .int .i64 t60_7, .int .i64 t60_8]] h8 fun v h9 => ∃ t61_0 : Int, ∃ t61_1 : Bool, ∃ t61_2 : Int, ∃ t61_3 : Int, ∃ t61_4 : Bool, ∃ t61_5 : Int, ∃ t61_6 : Int, ∃ t61_7 : Int, ∃ t61_8 : Int, v = .agg #[.int .i64 t61_0, .bool t61_1, .int .u64 t61_2, .int .u64 t61_3, .bool t61_4, .int .u64 t61_5, .int .u64 t61_6, .int .i64 t61_7, .int .i64 t61_8] ∧ (ldM h9 (Addr.add t52 4) fun t954 => (.map t954 : Value) = .map t54) ∧ (ldI h9 t57 .i64 fun t959_0 => ldB h9 (Addr.add t57 1) fun t959_1 => ldI h9 (Addr.add t57 2) .u64 fun t959_2 => ldI h9 (Addr.add t57 3) .u64 fun t959_3 => ldB h9 (Addr.add t57 4) fun t959_4 => ldI h9 (Addr.add t57 5) .u64 fun t959_5 => ldI h9 (Addr.add t57 6) .u64 fun t959_6 => ldI h9 (Addr.add t57 7) .i64 fun t959_7 => ldI h9 (Addr.add t57 8) .i64 fun t959_8 => (.agg #[.int .i64 t959_0, .bool t959_1, .int .u64 t959_2, .int .u64 t959_3, .bool t959_4, .int .u64 t959_5, .int .u64 t959_6, .int .i64 t959_7, .int .i64 t959_8] : Value) = .agg #[.int .i64 t59_0, .bool t59_1, .int .u64 t59_2, .int .u64 t59_3, .bool t59_4, .int .u64 t59_5, .int .u64 t59_6, .int .i64 t59_7, .int .i64 t59_8]) ∧ if ((t59_0 == t61_0) && (((t59_1 == t61_1) && ((t59_2 == t61_2) && ((t59_3 == t61_3) && true))) && (((t59_4 == t61_4) && ((t59_5 == t61_5) && ((t59_6 == t61_6) && true))) && ((t59_7 == t61_7) && ((t59_8 == t61_8) && true))))) = true then (Q (.tuple #[.int .i64 t16_0, .int .i64 2, .bool true]) h9) else (Q (.tuple #[.int .i64 0, .int .i64 0, .bool false]) h9)) ∧ (CallT Try.prog fn_flowtable_Reverse #[.agg #[.int .i64 t60_0, .bool t60_1, .int .u64 t60_2, .int .u64 t60_3, .bool t60_4, .int .u64 t60_5, .int .u64 t60_6, .int .i64 t60_7, .int .i64 t60_8]] h7 fun v h10 => ∃ t61_0 : Int, ∃ t61_1 : Bool, ∃ t61_2 : Int, ∃ t61_3 : Int, ∃ t61_4 : Bool, ∃ t61_5 : Int, ∃ t61_6 : Int, ∃ t61_7 : Int, ∃ t61_8 : Int, v = .agg #[.int .i64 t61_0, .bool t61_1, .int .u64 t61_2, .int .u64 t61_3, .bool t61_4, .int .u64 t61_5, .int .u64 t61_6, .int .i64 t61_7, .int .i64 t61_8] ∧ (ldM h10 (Addr.add t52 4) fun t954 => (.map t954 : Value) = .map t54) ∧ lookV Try.prog T_map_int_p_flowtable_flow (.map t54) (.int .i64 t16_0) false h10 fun v h11 => ∃ t56 : Option Addr, v = .pointer t56 ∧ (ldI h11 t3 .i64 fun t960_0 => ldB h11 (Addr.add t3 1) fun t960_1 => ldI h11 (Addr.add t3 2) .u64 fun t960_2 => ldI h11 (Addr.add t3 3) .u64 fun t960_3 => ldB h11 (Addr.add t3 4) fun t960_4 => ldI h11 (Addr.add t3 5) .u64 fun t960_5 => ldI h11 (Addr.add t3 6) .u64 fun t960_6 => ldI h11 (Addr.add t3 7) .i64 fun t960_7 => ldI h11 (Addr.add t3 8) .i64 fun t960_8 => (.agg #[.int .i64 t960_0, .bool t960_1, .int .u64 t960_2, .int .u64 t960_3, .bool t960_4, .int .u64 t960_5, .int .u64 t960_6, .int .i64 t960_7, .int .i64 t960_8] : Value) = .agg #[.int .i64 t60_0, .bool t60_1, .int .u64 t60_2, .int .u64 t60_3, .bool t60_4, .int .u64 t60_5, .int .u64 t60_6, .int .i64 t60_7, .int .i64 t60_8]) ∧ nn t56 fun t57 => ldI h11 t57 .i64 fun t59_0 => ldB h11 (Addr.add t57 1) fun t59_1 => ldI h11 (Addr.add t57 2) .u64 fun t59_2 => ldI h11 (Addr.add t57 3) .u64 fun t59_3 => ldB h11 (Addr.add t57 4) fun t59_4 => ldI h11 (Addr.add t57 5) .u64 fun t59_5 => ldI h11 (Addr.add t57 6) .u64 fun t59_6 => ldI h11 (Addr.add t57 7) .i64 fun t59_7 => ldI h11 (Addr.add t57 8) .i64 fun t59_8 => if ((t59_0 == t61_0) && (((t59_1 == t61_1) && ((t59_2 == t61_2) && ((t59_3 == t61_3) && true))) && (((t59_4 == t61_4) && ((t59_5 == t61_5) && ((t59_6 == t61_6) && true))) && ((t59_7 == t61_7) && ((t59_8 == t61_8) && true))))) = true then (Q (.tuple #[.int .i64 t16_0, .int .i64 2, .bool true]) h11) else (Q (.tuple #[.int .i64 0, .int .i64 0, .bool false]) h11))))))
set_option maxRecDepth 100000 in
theorem flowtable_Table_Find_s (t_0 : Option Addr) (f_1_0 : Int) (f_1_1 : Bool) (f_1_2 f_1_3 : Int) (f_1_4 : Bool) (f_1_5 f_1_6 f_1_7 f_1_8 : Int) {Q : QT} {h : Heap} (hk : flowtable_Table_Find_v t_0 f_1_0 f_1_1 f_1_2 f_1_3 f_1_4 f_1_5 f_1_6 f_1_7 f_1_8 Q h) : CallT Try.prog fn_flowtable_Table_Find #[.pointer t_0, .agg #[.int .i64 f_1_0, .bool f_1_1, .int .u64 f_1_2, .int .u64 f_1_3, .bool f_1_4, .int .u64 f_1_5, .int .u64 f_1_6, .int .i64 f_1_7, .int .i64 f_1_8]] h Q :=
 callU follows Try.func11 (Try.call11 _) rfl rfl [] []
 trivial
 trivial (by as_aux_lemma => kernel_rfl) hk
/-! ### intrusion/flowtable.Reverse -/
def flowtable_Reverse_v (f_0_0 : Int) (f_0_1 : Bool) (f_0_2 f_0_3 : Int) (f_0_4 : Bool) (f_0_5 f_0_6 f_0_7 f_0_8 : Int) (Q : QT) (h : Heap) : Prop :=
 alV h (.cells #[.int .i64 f_0_0, .bool f_0_1, .int .u64 f_0_2, .int .u64 f_0_3, .bool f_0_4, .int .u64 f_0_5, .int .u64 f_0_6, .int .i64 f_0_7, .int .i64 f_0_8] T_api_Flow) fun t1 h1 => alV h1 (.cells #[.int .i64 0, .bool false, .int .u64 0, .int .u64 0, .bool false, .int .u64 0, .int .u64 0, .int .i64 0, .int .i64 0] T_api_Flow) fun t2 h2 => ldI h2 t1 .i64 fun t4 => ldB h2 (Addr.add t1 4) fun t6_0 => ldI h2 (Addr.add t1 5) .u64 fun t6_1 => ldI h2 (Addr.add t1 6) .u64 fun t6_2 => ldB h2 (Addr.add t1 1) fun t8_0 => ldI h2 (Addr.add t1 2) .u64 fun t8_1 => ldI h2 (Addr.add t1 3) .u64 fun t8_2 => ldI h2 (Addr.add t1 8) .i64 fun t10 => ldI h2 (Addr.add t1 7) .i64 fun t12 => stN h2 t2 [.int .i64 t4, .bool t6_0, .int .u64 t6_1, .int .u64 t6_2, .bool t8_0, .int .u64 t8_1, .int .u64 t8_2, .int .i64 t10, .int .i64 t12] 0 fun h3 => ldI h3 t2 .i64 fun r0_0 => ldB h3 (Addr.add t2 1) fun r0_1 => ldI h3 (Addr.add t2 2) .u64 fun r0_2 => ldI h3 (Addr.add t2 3) .u64 fun r0_3 => ldB h3 (Addr.add t2 4) fun r0_4 => ldI h3 (Addr.add t2 5) .u64 fun r0_5 => ldI h3 (Addr.add t2 6) .u64 fun r0_6 => ldI h3 (Addr.add t2 7) .i64 fun r0_7 => ldI h3 (Addr.add t2 8) .i64 fun r0_8 => Q (.agg #[.int .i64 r0_0, .bool r0_1, .int .u64 r0_2, .int .u64 r0_3, .bool r0_4, .int .u64 r0_5, .int .u64 r0_6, .int .i64 r0_7, .int .i64 r0_8]) h3
set_option maxRecDepth 100000 in
theorem flowtable_Reverse_s (f_0_0 : Int) (f_0_1 : Bool) (f_0_2 f_0_3 : Int) (f_0_4 : Bool) (f_0_5 f_0_6 f_0_7 f_0_8 : Int) {Q : QT} {h : Heap} (hk : flowtable_Reverse_v f_0_0 f_0_1 f_0_2 f_0_3 f_0_4 f_0_5 f_0_6 f_0_7 f_0_8 Q h) : CallT Try.prog fn_flowtable_Reverse #[.agg #[.int .i64 f_0_0, .bool f_0_1, .int .u64 f_0_2, .int .u64 f_0_3, .bool f_0_4, .int .u64 f_0_5, .int .u64 f_0_6, .int .i64 f_0_7, .int .i64 f_0_8]] h Q :=
 callU follows Try.func12 (Try.call12 _) rfl rfl [] []
 trivial
 trivial (by as_aux_lemma => kernel_rfl) hk
/-! ### (*intrusion/flowtable.Table).Key -/
def flowtable_Table_Key_b1 (t4 : Addr) (Q : QT) (h : Heap) : Prop :=
 stN h t4 [.int .i64 0, .bool false, .int .u64 0, .int .u64 0, .bool false, .int .u64 0, .int .u64 0, .int .i64 0, .int .i64 0] 0 fun h5 => ldI h5 t4 .i64 fun r0_0 => ldB h5 (Addr.add t4 1) fun r0_1 => ldI h5 (Addr.add t4 2) .u64 fun r0_2 => ldI h5 (Addr.add t4 3) .u64 fun r0_3 => ldB h5 (Addr.add t4 4) fun r0_4 => ldI h5 (Addr.add t4 5) .u64 fun r0_5 => ldI h5 (Addr.add t4 6) .u64 fun r0_6 => ldI h5 (Addr.add t4 7) .i64 fun r0_7 => ldI h5 (Addr.add t4 8) .i64 fun r0_8 => Q (.tuple #[.agg #[.int .i64 r0_0, .bool r0_1, .int .u64 r0_2, .int .u64 r0_3, .bool r0_4, .int .u64 r0_5, .int .u64 r0_6, .int .i64 r0_7, .int .i64 r0_8], .bool false]) h5
def flowtable_Table_Key_v (t_0 : Option Addr) (id_1 : Int) (Q : QT) (h : Heap) : Prop :=
 alV h (.cells #[.int .i64 0, .bool false, .int .u64 0, .int .u64 0, .bool false, .int .u64 0, .int .u64 0, .int .i64 0, .int .i64 0] T_api_Flow) fun t4 h1 => if (Option.isNone t_0) = true then (flowtable_Table_Key_b1 t4 Q h1) else (nn t_0 fun t10 => ldM h1 (Addr.add t10 4) fun t12 => lookV Try.prog T_map_int_p_flowtable_flow (.map t12) (.int .i64 id_1) false h1 fun v h2 => ∃ t14 : Option Addr, v = .pointer t14 ∧ if (Option.isNone t14) = true then (flowtable_Table_Key_b1 t4 Q h2) else (nn t_0 fun t19 => ldM h2 (Addr.add t19 4) fun t21 => lookV Try.prog T_map_int_p_flowtable_flow (.map t21) (.int .i64 id_1) false h2 fun v h3 => ∃ t23 : Option Addr, v = .pointer t23 ∧ nn t23 fun t24 => ldI h3 t24 .i64 fun t26_0 => ldB h3 (Addr.add t24 1) fun t26_1 => ldI h3 (Addr.add t24 2) .u64 fun t26_2 => ldI h3 (Addr.add t24 3) .u64 fun t26_3 => ldB h3 (Addr.add t24 4) fun t26_4 => ldI h3 (Addr.add t24 5) .u64 fun t26_5 => ldI h3 (Addr.add t24 6) .u64 fun t26_6 => ldI h3 (Addr.add t24 7) .i64 fun t26_7 => ldI h3 (Addr.add t24 8) .i64 fun t26_8 => stN h3 t4 [.int .i64 t26_0, .bool t26_1, .int .u64 t26_2, .int .u64 t26_3, .bool t26_4, .int .u64 t26_5, .int .u64 t26_6, .int .i64 t26_7, .int .i64 t26_8] 0 fun h4 => ldI h4 t4 .i64 fun r0_0 => ldB h4 (Addr.add t4 1) fun r0_1 => ldI h4 (Addr.add t4 2) .u64 fun r0_2 => ldI h4 (Addr.add t4 3) .u64 fun r0_3 => ldB h4 (Addr.add t4 4) fun r0_4 => ldI h4 (Addr.add t4 5) .u64 fun r0_5 => ldI h4 (Addr.add t4 6) .u64 fun r0_6 => ldI h4 (Addr.add t4 7) .i64 fun r0_7 => ldI h4 (Addr.add t4 8) .i64 fun r0_8 => Q (.tuple #[.agg #[.int .i64 r0_0, .bool r0_1, .int .u64 r0_2, .int .u64 r0_3, .bool r0_4, .int .u64 r0_5, .int .u64 r0_6, .int .i64 r0_7, .int .i64 r0_8], .bool true]) h4))
set_option maxRecDepth 100000 in
theorem flowtable_Table_Key_s (t_0 : Option Addr) (id_1 : Int) {Q : QT} {h : Heap} (hk : flowtable_Table_Key_v t_0 id_1 Q h) : CallT Try.prog fn_flowtable_Table_Key #[.pointer t_0, .int .i64 id_1] h Q :=
 callU follows Try.func13 (Try.call13 _) rfl rfl [(7, fun e h => dA (e 4) fun t4 => flowtable_Table_Key_b1 t4 Q h)] []
 ⟨fun e h _ hk => by
 have F := Ag.nil (e := e)
 have ⟨t4, F, hk⟩ := eA F hk
 exact cutU F (by as_aux_lemma => kernel_rfl) hk, trivial⟩
 trivial (by as_aux_lemma => kernel_rfl) hk
/-! ### intrusion/intrusionref22.New -/
def ref22_New_v (max_0 timeout_1 : Int) (Q : QT) (h : Heap) : Prop :=
 CallT Try.prog fn_ref22_limit #[.int .i64 max_0, .int .i64 1, .int .i64 64] h fun v h1 => ∃ t6 : Int, v = .int .i64 t6 ∧ CallT Try.prog fn_ref22_limit #[.int .i64 timeout_1, .int .i64 1, .int .i64 1099511627776] h1 fun v h2 => ∃ t8 : Int, v = .int .i64 t8 ∧ alV h2 (.cells #[.int .i64 t6, .int .i64 t8, .int .i64 0, .int .i64 0, .slice none 0 0] T_intrusionref22_Table) fun t10 h3 => Q (.pointer (some t10)) h3
set_option maxRecDepth 100000 in
theorem ref22_New_s (max_0 timeout_1 : Int) {Q : QT} {h : Heap} (hk : ref22_New_v max_0 timeout_1 Q h) : CallT Try.prog fn_ref22_New #[.int .i64 max_0, .int .i64 timeout_1] h Q :=
 callU follows Try.func14 (Try.call14 _) rfl rfl [] []
 trivial
 trivial (by as_aux_lemma => kernel_rfl) hk
/-! ### (*intrusion/intrusionref22.Table).Open -/
def ref22_Table_Open_b4 (t_0 : Option Addr) (at_1 value_3 : Int) (f_6 x_15 : Addr) (i_16 : Int) (y_17 : Addr) (Q : QT) (Kn1 : Int → Heap → Prop) (h : Heap) : Prop :=
 ldI h y_17 .i64 fun t116_0 => ldI h (Addr.add y_17 1) .i64 fun t116_1 => ldI h (Addr.add y_17 2) .i64 fun t116_2 => ldI h (Addr.add y_17 3) .i64 fun t116_3 => ldB h (Addr.add y_17 4) fun t116_4 => ldI h (Addr.add y_17 5) .u64 fun t116_5 => ldI h (Addr.add y_17 6) .u64 fun t116_6 => ldB h (Addr.add y_17 7) fun t116_7 => ldI h (Addr.add y_17 8) .u64 fun t116_8 => ldI h (Addr.add y_17 9) .u64 fun t116_9 => ldI h (Addr.add y_17 10) .i64 fun t116_10 => ldI h (Addr.add y_17 11) .i64 fun t116_11 => stN h x_15 [.int .i64 t116_0, .int .i64 t116_1, .int .i64 t116_2, .int .i64 t116_3, .bool t116_4, .int .u64 t116_5, .int .u64 t116_6, .bool t116_7, .int .u64 t116_8, .int .u64 t116_9, .int .i64 t116_10, .int .i64 t116_11] 0 fun h8 => Kn1 (wrap .i64 (i_16 + 1)) h8
def ref22_Table_Open_b3 (t_0 : Option Addr) (at_1 value_3 : Int) (f_6 : Addr) (evicted_14 : Int) (Q : QT) (h : Heap) : Prop :=
 nn t_0 fun t129 => st1 h (Addr.add t129 2) (.int .i64 at_1) fun h10 => nn t_0 fun t133 => ldI h10 (Addr.add t133 3) .i64 fun t135 => nn t_0 fun t137 => st1 h10 (Addr.add t137 3) (.int .i64 (wrap .i64 (t135 + 1))) fun h11 => nn t_0 fun t141 => ldL h11 (Addr.add t141 4) fun t143a t143n t143c => nn t_0 fun t145 => ldI h11 (Addr.add t145 3) .i64 fun t147 => ldI h11 f_6 .i64 fun t150_0 => ldB h11 (Addr.add f_6 1) fun t150_1 => ldI h11 (Addr.add f_6 2) .u64 fun t150_2 => ldI h11 (Addr.add f_6 3) .u64 fun t150_3 => ldB h11 (Addr.add f_6 4) fun t150_4 => ldI h11 (Addr.add f_6 5) .u64 fun t150_5 => ldI h11 (Addr.add f_6 6) .u64 fun t150_6 => ldI h11 (Addr.add f_6 7) .i64 fun t150_7 => ldI h11 (Addr.add f_6 8) .i64 fun t150_8 => alV h11 (.cells #[.int .i64 t147, .int .i64 value_3, .int .i64 at_1, .int .i64 t150_0, .bool t150_1, .int .u64 t150_2, .int .u64 t150_3, .bool t150_4, .int .u64 t150_5, .int .u64 t150_6, .int .i64 t150_7, .int .i64 t150_8] T_intrusionref22_Entry) fun t152 h12 => (ldL h12 (Addr.add t141 4) fun t9143a t9143n t9143c => (.slice t9143a t9143n t9143c : Value) = .slice t143a t143n t143c) ∧ bltV Try.prog .append #[T_sl_intrusionref22_Entry, T_sl_intrusionref22_Entry] T_sl_intrusionref22_Entry #[false, false] #[.slice t143a t143n t143c, .slice (some t152) 1 1] h12 fun v h13 => ∃ t153a : Option Addr, ∃ t153n : Nat, ∃ t153c : Nat, v = .slice t153a t153n t153c ∧ nn t_0 fun t154 => st1 h13 (Addr.add t154 4) (.slice t153a t153n t153c) fun h14 => nn t_0 fun t157 => ldI h14 (Addr.add t157 3) .i64 fun t159 => Q (.tuple #[.int .i64 t159, .int .i64 evicted_14, .int .i64 0]) h14
def ref22_Table_Open_b2 (t_0 : Option Addr) (at_1 value_3 : Int) (f_6 x_15 : Addr) (Q : QT) (h : Heap) : Prop :=
 ldI h (Addr.add x_15 1) .i64 fun t118 => if (decide (t118 > value_3)) = true then (Q (.tuple #[.int .i64 0, .int .i64 0, .int .i64 11]) h) else (ldI h x_15 .i64 fun t122 => ldI h x_15 .i64 fun t125 => CallT Try.prog fn_ref22_Table_without #[.pointer t_0, .int .i64 t125] h fun v h9 => ∃ t126 : Bool, v = .bool t126 ∧ ref22_Table_Open_b3 t_0 at_1 value_3 f_6 t122 Q h9)
def ref22_Table_Open_l1 (t_0 : Option Addr) (at_1 value_3 : Int) (f_6 x_15 : Addr) (Q : QT) (i_16 : Int) (h : Heap) (Kn1 : Int → Heap → Prop) : Prop :=
 nn t_0 fun t83 => ldL h (Addr.add t83 4) fun t85a t85n t85c => if (decide (i_16 < ((t85n : Nat) : Int))) = true then (nn t_0 fun t91 => ldL h (Addr.add t91 4) fun t93a t93n t93c => idxA i_16 t93n (nn t93a fun t95 => ldI h (Addr.add t95 ((i_16).toNat * 12)) .i64 fun t96_0 => ldI h (Addr.add (Addr.add t95 ((i_16).toNat * 12)) 1) .i64 fun t96_1 => ldI h (Addr.add (Addr.add t95 ((i_16).toNat * 12)) 2) .i64 fun t96_2 => ldI h (Addr.add (Addr.add t95 ((i_16).toNat * 12)) 3) .i64 fun t96_3 => ldB h (Addr.add (Addr.add t95 ((i_16).toNat * 12)) 4) fun t96_4 => ldI h (Addr.add (Addr.add t95 ((i_16).toNat * 12)) 5) .u64 fun t96_5 => ldI h (Addr.add (Addr.add t95 ((i_16).toNat * 12)) 6) .u64 fun t96_6 => ldB h (Addr.add (Addr.add t95 ((i_16).toNat * 12)) 7) fun t96_7 => ldI h (Addr.add (Addr.add t95 ((i_16).toNat * 12)) 8) .u64 fun t96_8 => ldI h (Addr.add (Addr.add t95 ((i_16).toNat * 12)) 9) .u64 fun t96_9 => ldI h (Addr.add (Addr.add t95 ((i_16).toNat * 12)) 10) .i64 fun t96_10 => ldI h (Addr.add (Addr.add t95 ((i_16).toNat * 12)) 11) .i64 fun t96_11 => alV h (.cells #[.int .i64 0, .int .i64 0, .int .i64 0, .int .i64 0, .bool false, .int .u64 0, .int .u64 0, .bool false, .int .u64 0, .int .u64 0, .int .i64 0, .int .i64 0] T_intrusionref22_Entry) fun t17 h6 => stN h6 t17 [.int .i64 t96_0, .int .i64 t96_1, .int .i64 t96_2, .int .i64 t96_3, .bool t96_4, .int .u64 t96_5, .int .u64 t96_6, .bool t96_7, .int .u64 t96_8, .int .u64 t96_9, .int .i64 t96_10, .int .i64 t96_11] 0 fun h7 => ldI h7 (Addr.add t17 1) .i64 fun t98 => ldI h7 (Addr.add x_15 1) .i64 fun t100 => if (decide (t98 < t100)) = true then (ref22_Table_Open_b4 t_0 at_1 value_3 f_6 x_15 i_16 t17 Q Kn1 h7) else (ldI h7 (Addr.add t17 1) .i64 fun t104 => ldI h7 (Addr.add x_15 1) .i64 fun t106 => if (t104 == t106) = true then (ldI h7 (Addr.add t17 2) .i64 fun t110 => ldI h7 (Addr.add x_15 2) .i64 fun t112 => if (decide (t110 < t112)) = true then (ref22_Table_Open_b4 t_0 at_1 value_3 f_6 x_15 i_16 t17 Q Kn1 h7) else (Kn1 (wrap .i64 (i_16 + 1)) h7)) else (Kn1 (wrap .i64 (i_16 + 1)) h7)))) else (ref22_Table_Open_b2 t_0 at_1 value_3 f_6 x_15 Q h)
def ref22_Table_Open_v (t_0 : Option Addr) (at_1 f_2_0 : Int) (f_2_1 : Bool) (f_2_2 f_2_3 : Int) (f_2_4 : Bool) (f_2_5 f_2_6 f_2_7 f_2_8 value_3 : Int) (Q : QT) (h : Heap) : Prop :=
 alV h (.cells #[.int .i64 f_2_0, .bool f_2_1, .int .u64 f_2_2, .int .u64 f_2_3, .bool f_2_4, .int .u64 f_2_5, .int .u64 f_2_6, .int .i64 f_2_7, .int .i64 f_2_8] T_api_Flow) fun t6 h1 => CallT Try.prog fn_ref22_Table_wrong #[.pointer t_0, .int .i64 at_1] h1 fun v h2 => ∃ t20 : Bool, v = .bool t20 ∧ if t20 = true then (Q (.tuple #[.int .i64 0, .int .i64 0, .int .i64 12]) h2) else (if (decide (value_3 < 0)) = true then (Q (.tuple #[.int .i64 0, .int .i64 0, .int .i64 4]) h2) else (if (decide (value_3 > 3)) = true then (Q (.tuple #[.int .i64 0, .int .i64 0, .int .i64 4]) h2) else (ldI h2 t6 .i64 fun t29 => if (decide (t29 < 0)) = true then (Q (.tuple #[.int .i64 0, .int .i64 0, .int .i64 4]) h2) else (ldI h2 t6 .i64 fun t34 => if (decide (t34 > 255)) = true then (Q (.tuple #[.int .i64 0, .int .i64 0, .int .i64 4]) h2) else (ldI h2 (Addr.add t6 7) .i64 fun t39 => if (decide (t39 < 0)) = true then (Q (.tuple #[.int .i64 0, .int .i64 0, .int .i64 4]) h2) else (ldI h2 (Addr.add t6 7) .i64 fun t44 => if (decide (t44 > 65535)) = true then (Q (.tuple #[.int .i64 0, .int .i64 0, .int .i64 4]) h2) else (ldI h2 (Addr.add t6 8) .i64 fun t49 => if (decide (t49 < 0)) = true then (Q (.tuple #[.int .i64 0, .int .i64 0, .int .i64 4]) h2) else (ldI h2 (Addr.add t6 8) .i64 fun t54 => if (decide (t54 > 65535)) = true then (Q (.tuple #[.int .i64 0, .int .i64 0, .int .i64 4]) h2) else (ldI h2 t6 .i64 fun t59_0 => ldB h2 (Addr.add t6 1) fun t59_1 => ldI h2 (Addr.add t6 2) .u64 fun t59_2 => ldI h2 (Addr.add t6 3) .u64 fun t59_3 => ldB h2 (Addr.add t6 4) fun t59_4 => ldI h2 (Addr.add t6 5) .u64 fun t59_5 => ldI h2 (Addr.add t6 6) .u64 fun t59_6 => ldI h2 (Addr.add t6 7) .i64 fun t59_7 => ldI h2 (Addr.add t6 8) .i64 fun t59_8 => CallT Try.prog fn_ref22_Table_Find #[.pointer t_0, .agg #[.int .i64 t59_0, .bool t59_1, .int .u64 t59_2, .int .u64 t59_3, .bool t59_4, .int .u64 t59_5, .int .u64 t59_6, .int .i64 t59_7, .int .i64 t59_8]] h2 fun v h3 => ∃ t60_0 : Int, ∃ t60_1 : Int, ∃ t60_2 : Bool, v = .tuple #[.int .i64 t60_0, .int .i64 t60_1, .bool t60_2] ∧ if t60_2 = true then (Q (.tuple #[.int .i64 0, .int .i64 0, .int .i64 7]) h3) else (nn t_0 fun t66 => ldL h3 (Addr.add t66 4) fun t68a t68n t68c => nn t_0 fun t71 => ldI h3 t71 .i64 fun t73 => if (decide (((t68n : Nat) : Int) ≥ t73)) = true then (nn t_0 fun t76 => ldL h3 (Addr.add t76 4) fun t78a t78n t78c => idxA (0 : Int) t78n (nn t78a fun t79 => ldI h3 (Addr.add t79 (((0 : Int)).toNat * 12)) .i64 fun t80_0 => ldI h3 (Addr.add (Addr.add t79 (((0 : Int)).toNat * 12)) 1) .i64 fun t80_1 => ldI h3 (Addr.add (Addr.add t79 (((0 : Int)).toNat * 12)) 2) .i64 fun t80_2 => ldI h3 (Addr.add (Addr.add t79 (((0 : Int)).toNat * 12)) 3) .i64 fun t80_3 => ldB h3 (Addr.add (Addr.add t79 (((0 : Int)).toNat * 12)) 4) fun t80_4 => ldI h3 (Addr.add (Addr.add t79 (((0 : Int)).toNat * 12)) 5) .u64 fun t80_5 => ldI h3 (Addr.add (Addr.add t79 (((0 : Int)).toNat * 12)) 6) .u64 fun t80_6 => ldB h3 (Addr.add (Addr.add t79 (((0 : Int)).toNat * 12)) 7) fun t80_7 => ldI h3 (Addr.add (Addr.add t79 (((0 : Int)).toNat * 12)) 8) .u64 fun t80_8 => ldI h3 (Addr.add (Addr.add t79 (((0 : Int)).toNat * 12)) 9) .u64 fun t80_9 => ldI h3 (Addr.add (Addr.add t79 (((0 : Int)).toNat * 12)) 10) .i64 fun t80_10 => ldI h3 (Addr.add (Addr.add t79 (((0 : Int)).toNat * 12)) 11) .i64 fun t80_11 => alV h3 (.cells #[.int .i64 0, .int .i64 0, .int .i64 0, .int .i64 0, .bool false, .int .u64 0, .int .u64 0, .bool false, .int .u64 0, .int .u64 0, .int .i64 0, .int .i64 0] T_intrusionref22_Entry) fun t15 h4 => stN h4 t15 [.int .i64 t80_0, .int .i64 t80_1, .int .i64 t80_2, .int .i64 t80_3, .bool t80_4, .int .u64 t80_5, .int .u64 t80_6, .bool t80_7, .int .u64 t80_8, .int .u64 t80_9, .int .i64 t80_10, .int .i64 t80_11] 0 fun h5 => LoopV (fun (s : Int) h Kn => ref22_Table_Open_l1 t_0 at_1 value_3 t6 t15 Q s h Kn) 1 h5)) else (ref22_Table_Open_b3 t_0 at_1 value_3 t6 0 Q h3)))))))))))
set_option maxRecDepth 100000 in
theorem ref22_Table_Open_s (t_0 : Option Addr) (at_1 f_2_0 : Int) (f_2_1 : Bool) (f_2_2 f_2_3 : Int) (f_2_4 : Bool) (f_2_5 f_2_6 f_2_7 f_2_8 value_3 : Int) {Q : QT} {h : Heap} (hk : ref22_Table_Open_v t_0 at_1 f_2_0 f_2_1 f_2_2 f_2_3 f_2_4 f_2_5 f_2_6 f_2_7 f_2_8 value_3 Q h) : CallT Try.prog fn_ref22_Table_Open #[.pointer t_0, .int .i64 at_1, .agg #[.int .i64 f_2_0, .bool f_2_1, .int .u64 f_2_2, .int .u64 f_2_3, .bool f_2_4, .int .u64 f_2_5, .int .u64 f_2_6, .int .i64 f_2_7, .int .i64 f_2_8], .int .i64 value_3] h Q :=
 callU follows Try.func15 (Try.call15 _) rfl rfl [(36, fun e h => dP (e 0) fun t_0 => dI .i64 (e 1) fun at_1 => dI .i64 (e 3) fun value_3 => dA (e 6) fun f_6 => dA (e 15) fun x_15 => ref22_Table_Open_b2 t_0 at_1 value_3 f_6 x_15 Q h), (44, fun e h => dP (e 0) fun t_0 => dI .i64 (e 1) fun at_1 => dI .i64 (e 3) fun value_3 => dA (e 6) fun f_6 => dI .i64 (e 14) fun evicted_14 => ref22_Table_Open_b3 t_0 at_1 value_3 f_6 evicted_14 Q h)] [(26, fun e h => dP (e 0) fun t_0 => dI .i64 (e 1) fun at_1 => dI .i64 (e 3) fun value_3 => dA (e 6) fun f_6 => dA (e 15) fun x_15 => dI .i64 (e 16) fun i_16 => LoopV (fun (s : Int) h Kn => ref22_Table_Open_l1 t_0 at_1 value_3 f_6 x_15 Q s h Kn) i_16 h)]
 ⟨fun e h _ hk => by
 have F := Ag.nil (e := e)
 have ⟨t_0, F, hk⟩ := eP F hk
 have ⟨at_1, F, hk⟩ := eI F hk
 have ⟨value_3, F, hk⟩ := eI F hk
 have ⟨f_6, F, hk⟩ := eA F hk
 have ⟨x_15, F, hk⟩ := eA F hk
 exact cutU F (by as_aux_lemma => kernel_rfl) hk, fun e h _ hk => by
 have F := Ag.nil (e := e)
 have ⟨t_0, F, hk⟩ := eP F hk
 have ⟨at_1, F, hk⟩ := eI F hk
 have ⟨value_3, F, hk⟩ := eI F hk
 have ⟨f_6, F, hk⟩ := eA F hk
 have ⟨evicted_14, F, hk⟩ := eI F hk
 exact cutU F (by as_aux_lemma => kernel_rfl) hk, trivial⟩
 ⟨⟨by kernel_rfl, fun e h he hk => by
 have F := Ag.nil (e := e)
 have ⟨t_0, F, hk⟩ := eP F hk
 have ⟨at_1, F, hk⟩ := eI F hk
 have ⟨value_3, F, hk⟩ := eI F hk
 have ⟨f_6, F, hk⟩ := eA F hk
 have ⟨x_15, F, hk⟩ := eA F hk
 have ⟨i_16, F, hk⟩ := eI F hk
 exact loopU (s0 := i_16) follows (fun _ h => by cases h) he F (fun s => [(16, .int .i64 s)]) (by kernel_rfl) (F.take 1) hk (fun Kn1 e h => dI .i64 (e 16) fun i_16 => Kn1 i_16 h) (fun Kn1 e h hk => by
  have F := Ag.nil (e := e)
  have ⟨i_16, F, hk⟩ := eI F hk
  exact ⟨i_16, F, hk⟩)
  (fun Kn1 => [(35, fun e h => dP (e 0) fun t_0 => dI .i64 (e 1) fun at_1 => dI .i64 (e 3) fun value_3 => dA (e 6) fun f_6 => dA (e 15) fun x_15 => dI .i64 (e 16) fun i_16 => dA (e 17) fun y_17 => ref22_Table_Open_b4 t_0 at_1 value_3 f_6 x_15 i_16 y_17 Q Kn1 h)]) (fun Kn1 => [])
  (fun Kn1 => ⟨fun e h _ hk => by
 have F := Ag.nil (e := e)
 have ⟨t_0, F, hk⟩ := eP F hk
 have ⟨at_1, F, hk⟩ := eI F hk
 have ⟨value_3, F, hk⟩ := eI F hk
 have ⟨f_6, F, hk⟩ := eA F hk
 have ⟨x_15, F, hk⟩ := eA F hk
 have ⟨i_16, F, hk⟩ := eI F hk
 have ⟨y_17, F, hk⟩ := eA F hk
 exact cutU F (by as_aux_lemma => kernel_rfl) hk, trivial⟩)
  (fun Kn1 => trivial) (fun e s h Kn1 => by as_aux_lemma => kernel_rfl)⟩, trivial⟩ (by as_aux_lemma => kernel_rfl) hk
/-! ### (*intrusion/flowtable.Table).Touch -/
def flowtable_Table_Touch_v (t_0 : Option Addr) (at_1 id_2 : Int) (Q : QT) (h : Heap) : Prop :=
 if (Option.isNone t_0) = true then (Q (.int .i64 6) h) else (CallT Try.prog fn_flowtable_Table_late #[.pointer t_0, .int .i64 at_1] h fun v h1 => ∃ t13 : Bool, v = .bool t13 ∧ if t13 = true then (Q (.int .i64 12) h1) else (nn t_0 fun t16 => ldM h1 (Addr.add t16 4) fun t18 => lookV Try.prog T_map_int_p_flowtable_flow (.map t18) (.int .i64 id_2) false h1 fun v h2 => ∃ t20 : Option Addr, v = .pointer t20 ∧ if (Option.isNone t20) = true then (Q (.int .i64 6) h2) else (nn t_0 fun t24 => ldM h2 (Addr.add t24 4) fun t26 => lookV Try.prog T_map_int_p_flowtable_flow (.map t26) (.int .i64 id_2) false h2 fun v h3 => ∃ t28 : Option Addr, v = .pointer t28 ∧ nn t_0 fun t31 => st1 h3 (Addr.add t31 2) (.int .i64 at_1) fun h4 => nn t28 fun t33 => st1 h4 (Addr.add t33 10) (.int .i64 at_1) fun h5 => Q (.int .i64 0) h5)))
set_option maxRecDepth 100000 in
theorem flowtable_Table_Touch_s (t_0 : Option Addr) (at_1 id_2 : Int) {Q : QT} {h : Heap} (hk : flowtable_Table_Touch_v t_0 at_1 id_2 Q h) : CallT Try.prog fn_flowtable_Table_Touch #[.pointer t_0, .int .i64 at_1, .int .i64 id_2] h Q :=
 callU follows Try.func16 (Try.call16 _) rfl rfl [] []
 trivial
 trivial (by as_aux_lemma => kernel_rfl) hk
/-! ### (*intrusion/intrusionref22.Table).Touch -/
def ref22_Table_Touch_l1 (t_0 : Option Addr) (at_1 id_2 : Int) (Q : QT) (i_7 : Int) (h : Heap) (Kn1 : Int → Heap → Prop) : Prop :=
 nn t_0 fun t13 => ldL h (Addr.add t13 4) fun t15a t15n t15c => if (decide (i_7 < ((t15n : Nat) : Int))) = true then (nn t_0 fun t21 => ldL h (Addr.add t21 4) fun t23a t23n t23c => idxA i_7 t23n (nn t23a fun t25 => ldI h (Addr.add t25 ((i_7).toNat * 12)) .i64 fun t27 => if (t27 == id_2) = true then (nn t_0 fun t31 => ldL h (Addr.add t31 4) fun t33a t33n t33c => idxA i_7 t33n (nn t33a fun t36 => st1 h (Addr.add (Addr.add t36 ((i_7).toNat * 12)) 2) (.int .i64 at_1) fun h2 => nn t_0 fun t40 => st1 h2 (Addr.add t40 2) (.int .i64 at_1) fun h3 => Q (.int .i64 0) h3)) else (Kn1 (wrap .i64 (i_7 + 1)) h))) else (Q (.int .i64 6) h)
def ref22_Table_Touch_v (t_0 : Option Addr) (at_1 id_2 : Int) (Q : QT) (h : Heap) : Prop :=
 CallT Try.prog fn_ref22_Table_wrong #[.pointer t_0, .int .i64 at_1] h fun v h1 => ∃ t10 : Bool, v = .bool t10 ∧ if t10 = true then (Q (.int .i64 12) h1) else (LoopV (fun (s : Int) h Kn => ref22_Table_Touch_l1 t_0 at_1 id_2 Q s h Kn) 0 h1)
set_option maxRecDepth 100000 in
theorem ref22_Table_Touch_s (t_0 : Option Addr) (at_1 id_2 : Int) {Q : QT} {h : Heap} (hk : ref22_Table_Touch_v t_0 at_1 id_2 Q h) : CallT Try.prog fn_ref22_Table_Touch #[.pointer t_0, .int .i64 at_1, .int .i64 id_2] h Q :=
 callU follows Try.func17 (Try.call17 _) rfl rfl [] [(10, fun e h => dP (e 0) fun t_0 => dI .i64 (e 1) fun at_1 => dI .i64 (e 2) fun id_2 => dI .i64 (e 7) fun i_7 => LoopV (fun (s : Int) h Kn => ref22_Table_Touch_l1 t_0 at_1 id_2 Q s h Kn) i_7 h)]
 trivial
 ⟨⟨by kernel_rfl, fun e h he hk => by
 have F := Ag.nil (e := e)
 have ⟨t_0, F, hk⟩ := eP F hk
 have ⟨at_1, F, hk⟩ := eI F hk
 have ⟨id_2, F, hk⟩ := eI F hk
 have ⟨i_7, F, hk⟩ := eI F hk
 exact loopU (s0 := i_7) follows (fun _ h => by cases h) he F (fun s => [(7, .int .i64 s)]) (by kernel_rfl) (F.take 1) hk (fun Kn1 e h => dI .i64 (e 7) fun i_7 => Kn1 i_7 h) (fun Kn1 e h hk => by
  have F := Ag.nil (e := e)
  have ⟨i_7, F, hk⟩ := eI F hk
  exact ⟨i_7, F, hk⟩)
  (fun Kn1 => []) (fun Kn1 => [])
  (fun Kn1 => trivial)
  (fun Kn1 => trivial) (fun e s h Kn1 => by as_aux_lemma => kernel_rfl)⟩, trivial⟩ (by as_aux_lemma => kernel_rfl) hk
/-! ### (*intrusion/flowtable.Table).Remove -/
def flowtable_Table_Remove_v (t_0 : Option Addr) (id_1 : Int) (Q : QT) (h : Heap) : Prop :=
 if (Option.isNone t_0) = true then (Q (.int .i64 6) h) else (nn t_0 fun t9 => ldM h (Addr.add t9 4) fun t11 => lookV Try.prog T_map_int_p_flowtable_flow (.map t11) (.int .i64 id_1) false h fun v h1 => ∃ t13 : Option Addr, v = .pointer t13 ∧ if (Option.isNone t13) = true then (Q (.int .i64 6) h1) else (CallT Try.prog fn_flowtable_Table_drop #[.pointer t_0, .int .i64 id_1] h1 fun v h2 => v = .tuple #[] ∧ Q (.int .i64 0) h2))
set_option maxRecDepth 100000 in
theorem flowtable_Table_Remove_s (t_0 : Option Addr) (id_1 : Int) {Q : QT} {h : Heap} (hk : flowtable_Table_Remove_v t_0 id_1 Q h) : CallT Try.prog fn_flowtable_Table_Remove #[.pointer t_0, .int .i64 id_1] h Q :=
 callU follows Try.func18 (Try.call18 _) rfl rfl [] []
 trivial
 trivial (by as_aux_lemma => kernel_rfl) hk
/-! ### (*intrusion/intrusionref22.Table).Remove -/
def ref22_Table_Remove_v (t_0 : Option Addr) (id_1 : Int) (Q : QT) (h : Heap) : Prop :=
 CallT Try.prog fn_ref22_Table_without #[.pointer t_0, .int .i64 id_1] h fun v h1 => ∃ t7 : Bool, v = .bool t7 ∧ if t7 = true then (Q (.int .i64 0) h1) else (Q (.int .i64 6) h1)
set_option maxRecDepth 100000 in
theorem ref22_Table_Remove_s (t_0 : Option Addr) (id_1 : Int) {Q : QT} {h : Heap} (hk : ref22_Table_Remove_v t_0 id_1 Q h) : CallT Try.prog fn_ref22_Table_Remove #[.pointer t_0, .int .i64 id_1] h Q :=
 callU follows Try.func19 (Try.call19 _) rfl rfl [] []
 trivial
 trivial (by as_aux_lemma => kernel_rfl) hk
/-! ### intrusion/intrusionref22.Same -/
def ref22_Same_l1 (a_0a : Option Addr) (a_0n a_0c : Nat) (b_1a : Option Addr) (b_1n b_1c : Nat) (Q : QT) (i_5 : Int) (h : Heap) (Kn1 : Int → Heap → Prop) : Prop :=
 if (decide (i_5 < ((a_0n : Nat) : Int))) = true then (idxA i_5 a_0n (nn a_0a fun t19 => ldI h (Addr.add t19 ((i_5).toNat * 1)) .i64 fun t20 => idxA i_5 b_1n (nn b_1a fun t23 => ldI h (Addr.add t23 ((i_5).toNat * 1)) .i64 fun t24 => if (t20 != t24) = true then (Q (.bool false) h) else (Kn1 (wrap .i64 (i_5 + 1)) h)))) else (Q (.bool true) h)
def ref22_Same_v (a_0a : Option Addr) (a_0n a_0c : Nat) (b_1a : Option Addr) (b_1n b_1c : Nat) (Q : QT) (h : Heap) : Prop :=
 if (((a_0n : Nat) : Int) != ((b_1n : Nat) : Int)) = true then (Q (.bool false) h) else (LoopV (fun (s : Int) h Kn => ref22_Same_l1 a_0a a_0n a_0c b_1a b_1n b_1c Q s h Kn) 0 h)
set_option maxRecDepth 100000 in
theorem ref22_Same_s (a_0a : Option Addr) (a_0n a_0c : Nat) (b_1a : Option Addr) (b_1n b_1c : Nat) {Q : QT} {h : Heap} (hk : ref22_Same_v a_0a a_0n a_0c b_1a b_1n b_1c Q h) : CallT Try.prog fn_ref22_Same #[.slice a_0a a_0n a_0c, .slice b_1a b_1n b_1c] h Q :=
 callU follows Try.func20 (Try.call20 _) rfl rfl [] [(10, fun e h => dL (e 0) fun a_0a a_0n a_0c => dL (e 1) fun b_1a b_1n b_1c => dI .i64 (e 5) fun i_5 => LoopV (fun (s : Int) h Kn => ref22_Same_l1 a_0a a_0n a_0c b_1a b_1n b_1c Q s h Kn) i_5 h)]
 trivial
 ⟨⟨by kernel_rfl, fun e h he hk => by
 have F := Ag.nil (e := e)
 have ⟨a_0a, a_0n, a_0c, F, hk⟩ := eL F hk
 have ⟨b_1a, b_1n, b_1c, F, hk⟩ := eL F hk
 have ⟨i_5, F, hk⟩ := eI F hk
 exact loopU (s0 := i_5) follows (fun _ h => by cases h) he F (fun s => [(5, .int .i64 s)]) (by kernel_rfl) (F.take 1) hk (fun Kn1 e h => dI .i64 (e 5) fun i_5 => Kn1 i_5 h) (fun Kn1 e h hk => by
  have F := Ag.nil (e := e)
  have ⟨i_5, F, hk⟩ := eI F hk
  exact ⟨i_5, F, hk⟩)
  (fun Kn1 => []) (fun Kn1 => [])
  (fun Kn1 => trivial)
  (fun Kn1 => trivial) (fun e s h Kn1 => by as_aux_lemma => kernel_rfl)⟩, trivial⟩ (by as_aux_lemma => kernel_rfl) hk
/-! ### (*intrusion/flowtable.Table).Expire -/
def flowtable_Table_Expire_l1 (t_0 : Option Addr) (at_1 : Int) (t20a : Option Addr) (t20n t20c : Nat) (t21 : Int) (Q : QT) (out_5a : Option Addr) (out_5n out_5c : Nat) (t22 : Int) (h : Heap) (Kn1 : (Option Addr) × Nat × Nat × Int → Heap → Prop) : Prop :=
 if (decide (t22 < t21)) = true then (idxA t22 t20n (nn t20a fun t24 => ldI h (Addr.add t24 ((t22).toNat * 1)) .i64 fun t25 => nn t_0 fun t27 => ldM h (Addr.add t27 4) fun t29 => nn t_0 fun t37 => ldI h (Addr.add t37 1) .i64 fun t39 => lookV Try.prog T_map_int_p_flowtable_flow (.map t29) (.int .i64 t25) false h fun v h4 => ∃ t31 : Option Addr, v = .pointer t31 ∧ (ldI h4 (Addr.add t37 1) .i64 fun t939 => (.int .i64 t939 : Value) = .int .i64 t39) ∧ nn t31 fun t32 => ldI h4 (Addr.add t32 10) .i64 fun t34 => if (decide (t34 ≤ (wrap .i64 (at_1 - t39)))) = true then (CallT Try.prog fn_flowtable_Table_drop #[.pointer t_0, .int .i64 t25] h4 fun v h5 => v = .tuple #[] ∧ alV h5 (.cells #[.int .i64 t25] T_int) fun t47 h6 => bltV Try.prog .append #[T_sl_int, T_sl_int] T_sl_int #[false, false] #[.slice out_5a out_5n out_5c, .slice (some t47) 1 1] h6 fun v h7 => ∃ t48a : Option Addr, ∃ t48n : Nat, ∃ t48c : Nat, v = .slice t48a t48n t48c ∧ Kn1 (t48a, t48n, t48c, wrap .i64 (t22 + 1)) h7) else (Kn1 (out_5a, out_5n, out_5c, wrap .i64 (t22 + 1)) h4))) else (Q (.slice out_5a out_5n out_5c) h)
def flowtable_Table_Expire_v (t_0 : Option Addr) (at_1 : Int) (Q : QT) (h : Heap) : Prop :=
 if (Option.isNone t_0) = true then (Q (.slice none 0 0) h) else (CallT Try.prog fn_flowtable_Table_late #[.pointer t_0, .int .i64 at_1] h fun v h1 => ∃ t13 : Bool, v = .bool t13 ∧ if t13 = true then (Q (.slice none 0 0) h1) else (nn t_0 fun t17 => st1 h1 (Addr.add t17 2) (.int .i64 at_1) fun h2 => CallT Try.prog fn_flowtable_Table_Ids #[.pointer t_0] h2 fun v h3 => ∃ t20a : Option Addr, ∃ t20n : Nat, ∃ t20c : Nat, v = .slice t20a t20n t20c ∧ LoopV (fun (s : (Option Addr) × Nat × Nat × Int) h Kn => flowtable_Table_Expire_l1 t_0 at_1 t20a t20n t20c ((t20n : Nat) : Int) Q s.1 s.2.1 s.2.2.1 s.2.2.2 h Kn) (none, 0, 0, 0) h3))
set_option maxRecDepth 100000 in
theorem flowtable_Table_Expire_s (t_0 : Option Addr) (at_1 : Int) {Q : QT} {h : Heap} (hk : flowtable_Table_Expire_v t_0 at_1 Q h) : CallT Try.prog fn_flowtable_Table_Expire #[.pointer t_0, .int .i64 at_1] h Q :=
 callU follows Try.func21 (Try.call21 _) rfl rfl [] [(14, fun e h => dP (e 0) fun t_0 => dI .i64 (e 1) fun at_1 => dL (e 20) fun t20a t20n t20c => dI .i64 (e 21) fun t21 => dL (e 5) fun out_5a out_5n out_5c => dI .i64 (e 22) fun t22 => LoopV (fun (s : (Option Addr) × Nat × Nat × Int) h Kn => flowtable_Table_Expire_l1 t_0 at_1 t20a t20n t20c t21 Q s.1 s.2.1 s.2.2.1 s.2.2.2 h Kn) (out_5a, out_5n, out_5c, t22) h)]
 trivial
 ⟨⟨by kernel_rfl, fun e h he hk => by
 have F := Ag.nil (e := e)
 have ⟨t_0, F, hk⟩ := eP F hk
 have ⟨at_1, F, hk⟩ := eI F hk
 have ⟨t20a, t20n, t20c, F, hk⟩ := eL F hk
 have ⟨t21, F, hk⟩ := eI F hk
 have ⟨out_5a, out_5n, out_5c, F, hk⟩ := eL F hk
 have ⟨t22, F, hk⟩ := eI F hk
 exact loopU (s0 := (out_5a, out_5n, out_5c, t22)) follows (fun _ h => by cases h) he F (fun s => [(22, .int .i64 s.2.2.2), (5, .slice s.1 s.2.1 s.2.2.1)]) (by kernel_rfl) (F.take 2) hk (fun Kn1 e h => dL (e 5) fun out_5a out_5n out_5c => dI .i64 (e 22) fun t22 => Kn1 (out_5a, out_5n, out_5c, t22) h) (fun Kn1 e h hk => by
  have F := Ag.nil (e := e)
  have ⟨out_5a, out_5n, out_5c, F, hk⟩ := eL F hk
  have ⟨t22, F, hk⟩ := eI F hk
  exact ⟨(out_5a, out_5n, out_5c, t22), F, hk⟩)
  (fun Kn1 => []) (fun Kn1 => [])
  (fun Kn1 => trivial)
  (fun Kn1 => trivial) (fun e s h Kn1 => by as_aux_lemma => kernel_rfl)⟩, trivial⟩ (by as_aux_lemma => kernel_rfl) hk
/-! ### (*intrusion/intrusionref22.Table).Expire -/
def ref22_Table_Expire_l3 (t_0 out_5a : Option Addr) (out_5n out_5c : Nat) (Q : QT) (i_7 : Int) (h : Heap) (Kn3 : Int → Heap → Prop) : Prop :=
 if (decide (i_7 < ((out_5n : Nat) : Int))) = true then (idxA i_7 out_5n (nn out_5a fun t60 => ldI h (Addr.add t60 ((i_7).toNat * 1)) .i64 fun t61 => CallT Try.prog fn_ref22_Table_without #[.pointer t_0, .int .i64 t61] h fun v h5 => ∃ t62 : Bool, v = .bool t62 ∧ Kn3 (wrap .i64 (i_7 + 1)) h5)) else (Q (.slice out_5a out_5n out_5c) h)
def ref22_Table_Expire_b2 (t_0 out_5a : Option Addr) (out_5n out_5c : Nat) (Q : QT) (h : Heap) : Prop :=
 LoopV (fun (s : Int) h Kn => ref22_Table_Expire_l3 t_0 out_5a out_5n out_5c Q s h Kn) 0 h
def ref22_Table_Expire_l1 (t_0 : Option Addr) (at_1 : Int) (Q : QT) (out_5a : Option Addr) (out_5n out_5c : Nat) (i_6 : Int) (h : Heap) (Kn1 : (Option Addr) × Nat × Nat × Int → Heap → Prop) : Prop :=
 nn t_0 fun t18 => ldL h (Addr.add t18 4) fun t20a t20n t20c => if (decide (i_6 < ((t20n : Nat) : Int))) = true then (nn t_0 fun t26 => ldL h (Addr.add t26 4) fun t28a t28n t28c => idxA i_6 t28n (nn t28a fun t30 => ldI h (Addr.add (Addr.add t30 ((i_6).toNat * 12)) 2) .i64 fun t32 => nn t_0 fun t35 => ldI h (Addr.add t35 1) .i64 fun t37 => if (decide (t32 ≤ (wrap .i64 (at_1 - t37)))) = true then (nn t_0 fun t42 => ldL h (Addr.add t42 4) fun t44a t44n t44c => idxA i_6 t44n (nn t44a fun t46 => ldI h (Addr.add t46 ((i_6).toNat * 12)) .i64 fun t48 => alV h (.cells #[.int .i64 t48] T_int) fun t49 h3 => bltV Try.prog .append #[T_sl_int, T_sl_int] T_sl_int #[false, false] #[.slice out_5a out_5n out_5c, .slice (some t49) 1 1] h3 fun v h4 => ∃ t50a : Option Addr, ∃ t50n : Nat, ∃ t50c : Nat, v = .slice t50a t50n t50c ∧ Kn1 (t50a, t50n, t50c, wrap .i64 (i_6 + 1)) h4)) else (Kn1 (out_5a, out_5n, out_5c, wrap .i64 (i_6 + 1)) h))) else (ref22_Table_Expire_b2 t_0 out_5a out_5n out_5c Q h)
def ref22_Table_Expire_v (t_0 : Option Addr) (at_1 : Int) (Q : QT) (h : Heap) : Prop :=
 CallT Try.prog fn_ref22_Table_wrong #[.pointer t_0, .int .i64 at_1] h fun v h1 => ∃ t10 : Bool, v = .bool t10 ∧ if t10 = true then (Q (.slice none 0 0) h1) else (nn t_0 fun t14 => st1 h1 (Addr.add t14 2) (.int .i64 at_1) fun h2 => LoopV (fun (s : (Option Addr) × Nat × Nat × Int) h Kn => ref22_Table_Expire_l1 t_0 at_1 Q s.1 s.2.1 s.2.2.1 s.2.2.2 h Kn) (none, 0, 0, 0) h2)
set_option maxRecDepth 100000 in
theorem ref22_Table_Expire_s (t_0 : Option Addr) (at_1 : Int) {Q : QT} {h : Heap} (hk : ref22_Table_Expire_v t_0 at_1 Q h) : CallT Try.prog fn_ref22_Table_Expire #[.pointer t_0, .int .i64 at_1] h Q :=
 callU follows Try.func22 (Try.call22 _) rfl rfl [(22, fun e h => dP (e 0) fun t_0 => dL (e 5) fun out_5a out_5n out_5c => ref22_Table_Expire_b2 t_0 out_5a out_5n out_5c Q h)] [(14, fun e h => dP (e 0) fun t_0 => dI .i64 (e 1) fun at_1 => dL (e 5) fun out_5a out_5n out_5c => dI .i64 (e 6) fun i_6 => LoopV (fun (s : (Option Addr) × Nat × Nat × Int) h Kn => ref22_Table_Expire_l1 t_0 at_1 Q s.1 s.2.1 s.2.2.1 s.2.2.2 h Kn) (out_5a, out_5n, out_5c, i_6) h), (24, fun e h => dP (e 0) fun t_0 => dL (e 5) fun out_5a out_5n out_5c => dI .i64 (e 7) fun i_7 => LoopV (fun (s : Int) h Kn => ref22_Table_Expire_l3 t_0 out_5a out_5n out_5c Q s h Kn) i_7 h)]
 ⟨fun e h _ hk => by
 have F := Ag.nil (e := e)
 have ⟨t_0, F, hk⟩ := eP F hk
 have ⟨out_5a, out_5n, out_5c, F, hk⟩ := eL F hk
 exact cutU F (by as_aux_lemma => kernel_rfl) hk, trivial⟩
 ⟨⟨by kernel_rfl, fun e h he hk => by
 have F := Ag.nil (e := e)
 have ⟨t_0, F, hk⟩ := eP F hk
 have ⟨at_1, F, hk⟩ := eI F hk
 have ⟨out_5a, out_5n, out_5c, F, hk⟩ := eL F hk
 have ⟨i_6, F, hk⟩ := eI F hk
 exact loopU (s0 := (out_5a, out_5n, out_5c, i_6)) follows (fun _ h => by cases h) he F (fun s => [(6, .int .i64 s.2.2.2), (5, .slice s.1 s.2.1 s.2.2.1)]) (by kernel_rfl) (F.take 2) hk (fun Kn1 e h => dL (e 5) fun out_5a out_5n out_5c => dI .i64 (e 6) fun i_6 => Kn1 (out_5a, out_5n, out_5c, i_6) h) (fun Kn1 e h hk => by
  have F := Ag.nil (e := e)
  have ⟨out_5a, out_5n, out_5c, F, hk⟩ := eL F hk
  have ⟨i_6, F, hk⟩ := eI F hk
  exact ⟨(out_5a, out_5n, out_5c, i_6), F, hk⟩)
  (fun Kn1 => []) (fun Kn1 => [])
  (fun Kn1 => trivial)
  (fun Kn1 => trivial) (fun e s h Kn1 => by as_aux_lemma => kernel_rfl)⟩, ⟨by kernel_rfl, fun e h he hk => by
 have F := Ag.nil (e := e)
 have ⟨t_0, F, hk⟩ := eP F hk
 have ⟨out_5a, out_5n, out_5c, F, hk⟩ := eL F hk
 have ⟨i_7, F, hk⟩ := eI F hk
 exact loopU (s0 := i_7) follows (fun _ h => by cases h) he F (fun s => [(7, .int .i64 s)]) (by kernel_rfl) (F.take 1) hk (fun Kn3 e h => dI .i64 (e 7) fun i_7 => Kn3 i_7 h) (fun Kn3 e h hk => by
  have F := Ag.nil (e := e)
  have ⟨i_7, F, hk⟩ := eI F hk
  exact ⟨i_7, F, hk⟩)
  (fun Kn3 => []) (fun Kn3 => [])
  (fun Kn3 => trivial)
  (fun Kn3 => trivial) (fun e s h Kn3 => by as_aux_lemma => kernel_rfl)⟩, trivial⟩ (by as_aux_lemma => kernel_rfl) hk
/-! ### (*intrusion/intrusionref22.Table).Find -/
def ref22_Table_Find_l3 (t_0 : Option Addr) (f_3 : Addr) (Q : QT) (i_8 : Int) (h : Heap) (Kn3 : Int → Heap → Prop) : Prop :=
 nn t_0 fun t38 => ldL h (Addr.add t38 4) fun t40a t40n t40c => if (decide (i_8 < ((t40n : Nat) : Int))) = true then (nn t_0 fun t46 => ldL h (Addr.add t46 4) fun t48a t48n t48c => idxA i_8 t48n (nn t48a fun t50 => ldI h (Addr.add (Addr.add t50 ((i_8).toNat * 12)) 3) .i64 fun t52_0 => ldB h (Addr.add (Addr.add t50 ((i_8).toNat * 12)) 4) fun t52_1 => ldI h (Addr.add (Addr.add t50 ((i_8).toNat * 12)) 5) .u64 fun t52_2 => ldI h (Addr.add (Addr.add t50 ((i_8).toNat * 12)) 6) .u64 fun t52_3 => ldB h (Addr.add (Addr.add t50 ((i_8).toNat * 12)) 7) fun t52_4 => ldI h (Addr.add (Addr.add t50 ((i_8).toNat * 12)) 8) .u64 fun t52_5 => ldI h (Addr.add (Addr.add t50 ((i_8).toNat * 12)) 9) .u64 fun t52_6 => ldI h (Addr.add (Addr.add t50 ((i_8).toNat * 12)) 10) .i64 fun t52_7 => ldI h (Addr.add (Addr.add t50 ((i_8).toNat * 12)) 11) .i64 fun t52_8 => ldI h f_3 .i64 fun t53_0 => ldB h (Addr.add f_3 1) fun t53_1 => ldI h (Addr.add f_3 2) .u64 fun t53_2 => ldI h (Addr.add f_3 3) .u64 fun t53_3 => ldB h (Addr.add f_3 4) fun t53_4 => ldI h (Addr.add f_3 5) .u64 fun t53_5 => ldI h (Addr.add f_3 6) .u64 fun t53_6 => ldI h (Addr.add f_3 7) .i64 fun t53_7 => ldI h (Addr.add f_3 8) .i64 fun t53_8 => CallT Try.prog fn_ref22_Reverse #[.agg #[.int .i64 t53_0, .bool t53_1, .int .u64 t53_2, .int .u64 t53_3, .bool t53_4, .int .u64 t53_5, .int .u64 t53_6, .int .i64 t53_7, .int .i64 t53_8]] h fun v h2 => ∃ t54_0 : Int, ∃ t54_1 : Bool, ∃ t54_2 : Int, ∃ t54_3 : Int, ∃ t54_4 : Bool, ∃ t54_5 : Int, ∃ t54_6 : Int, ∃ t54_7 : Int, ∃ t54_8 : Int, v = .agg #[.int .i64 t54_0, .bool t54_1, .int .u64 t54_2, .int .u64 t54_3, .bool t54_4, .int .u64 t54_5, .int .u64 t54_6, .int .i64 t54_7, .int .i64 t54_8] ∧ (ldL h2 (Addr.add t46 4) fun t948a t948n t948c => (.slice t948a t948n t948c : Value) = .slice t48a t48n t48c) ∧ (ldI h2 (Addr.add (Addr.add t50 ((i_8).toNat * 12)) 3) .i64 fun t952_0 => ldB h2 (Addr.add (Addr.add t50 ((i_8).toNat * 12)) 4) fun t952_1 => ldI h2 (Addr.add (Addr.add t50 ((i_8).toNat * 12)) 5) .u64 fun t952_2 => ldI h2 (Addr.add (Addr.add t50 ((i_8).toNat * 12)) 6) .u64 fun t952_3 => ldB h2 (Addr.add (Addr.add t50 ((i_8).toNat * 12)) 7) fun t952_4 => ldI h2 (Addr.add (Addr.add t50 ((i_8).toNat * 12)) 8) .u64 fun t952_5 => ldI h2 (Addr.add (Addr.add t50 ((i_8).toNat * 12)) 9) .u64 fun t952_6 => ldI h2 (Addr.add (Addr.add t50 ((i_8).toNat * 12)) 10) .i64 fun t952_7 => ldI h2 (Addr.add (Addr.add t50 ((i_8).toNat * 12)) 11) .i64 fun t952_8 => (.agg #[.int .i64 t952_0, .bool t952_1, .int .u64 t952_2, .int .u64 t952_3, .bool t952_4, .int .u64 t952_5, .int .u64 t952_6, .int .i64 t952_7, .int .i64 t952_8] : Value) = .agg #[.int .i64 t52_0, .bool t52_1, .int .u64 t52_2, .int .u64 t52_3, .bool t52_4, .int .u64 t52_5, .int .u64 t52_6, .int .i64 t52_7, .int .i64 t52_8]) ∧ if ((t52_0 == t54_0) && (((t52_1 == t54_1) && ((t52_2 == t54_2) && ((t52_3 == t54_3) && true))) && (((t52_4 == t54_4) && ((t52_5 == t54_5) && ((t52_6 == t54_6) && true))) && ((t52_7 == t54_7) && ((t52_8 == t54_8) && true))))) = true then (nn t_0 fun t57 => ldL h2 (Addr.add t57 4) fun t59a t59n t59c => idxA i_8 t59n (nn t59a fun t61 => ldI h2 (Addr.add t61 ((i_8).toNat * 12)) .i64 fun t63 => Q (.tuple #[.int .i64 t63, .int .i64 2, .bool true]) h2)) else (Kn3 (wrap .i64 (i_8 + 1)) h2))) else (Q (.tuple #[.int .i64 0, .int .i64 0, .bool false]) h)
def ref22_Table_Find_b2 (t_0 : Option Addr) (f_3 : Addr) (Q : QT) (h : Heap) : Prop :=
 LoopV (fun (s : Int) h Kn => ref22_Table_Find_l3 t_0 f_3 Q s h Kn) 0 h
def ref22_Table_Find_l1 (t_0 : Option Addr) (f_3 : Addr) (Q : QT) (i_7 : Int) (h : Heap) (Kn1 : Int → Heap → Prop) : Prop :=
 nn t_0 fun t11 => ldL h (Addr.add t11 4) fun t13a t13n t13c => if (decide (i_7 < ((t13n : Nat) : Int))) = true then (nn t_0 fun t19 => ldL h (Addr.add t19 4) fun t21a t21n t21c => idxA i_7 t21n (nn t21a fun t23 => ldI h (Addr.add (Addr.add t23 ((i_7).toNat * 12)) 3) .i64 fun t25_0 => ldB h (Addr.add (Addr.add t23 ((i_7).toNat * 12)) 4) fun t25_1 => ldI h (Addr.add (Addr.add t23 ((i_7).toNat * 12)) 5) .u64 fun t25_2 => ldI h (Addr.add (Addr.add t23 ((i_7).toNat * 12)) 6) .u64 fun t25_3 => ldB h (Addr.add (Addr.add t23 ((i_7).toNat * 12)) 7) fun t25_4 => ldI h (Addr.add (Addr.add t23 ((i_7).toNat * 12)) 8) .u64 fun t25_5 => ldI h (Addr.add (Addr.add t23 ((i_7).toNat * 12)) 9) .u64 fun t25_6 => ldI h (Addr.add (Addr.add t23 ((i_7).toNat * 12)) 10) .i64 fun t25_7 => ldI h (Addr.add (Addr.add t23 ((i_7).toNat * 12)) 11) .i64 fun t25_8 => ldI h f_3 .i64 fun t26_0 => ldB h (Addr.add f_3 1) fun t26_1 => ldI h (Addr.add f_3 2) .u64 fun t26_2 => ldI h (Addr.add f_3 3) .u64 fun t26_3 => ldB h (Addr.add f_3 4) fun t26_4 => ldI h (Addr.add f_3 5) .u64 fun t26_5 => ldI h (Addr.add f_3 6) .u64 fun t26_6 => ldI h (Addr.add f_3 7) .i64 fun t26_7 => ldI h (Addr.add f_3 8) .i64 fun t26_8 => if ((t25_0 == t26_0) && (((t25_1 == t26_1) && ((t25_2 == t26_2) && ((t25_3 == t26_3) && true))) && (((t25_4 == t26_4) && ((t25_5 == t26_5) && ((t25_6 == t26_6) && true))) && ((t25_7 == t26_7) && ((t25_8 == t26_8) && true))))) = true then (nn t_0 fun t29 => ldL h (Addr.add t29 4) fun t31a t31n t31c => idxA i_7 t31n (nn t31a fun t33 => ldI h (Addr.add t33 ((i_7).toNat * 12)) .i64 fun t35 => Q (.tuple #[.int .i64 t35, .int .i64 1, .bool true]) h)) else (Kn1 (wrap .i64 (i_7 + 1)) h))) else (ref22_Table_Find_b2 t_0 f_3 Q h)
def ref22_Table_Find_v (t_0 : Option Addr) (f_1_0 : Int) (f_1_1 : Bool) (f_1_2 f_1_3 : Int) (f_1_4 : Bool) (f_1_5 f_1_6 f_1_7 f_1_8 : Int) (Q : QT) (h : Heap) : Prop :=
 alV h (.cells #[.int .i64 f_1_0, .bool f_1_1, .int .u64 f_1_2, .int .u64 f_1_3, .bool f_1_4, .int .u64 f_1_5, .int .u64 f_1_6, .int .i64 f_1_7, .int .i64 f_1_8] T_api_Flow) fun t3 h1 => LoopV (fun (s : Int) h Kn => ref22_Table_Find_l1 t_0 t3 Q s h Kn) 0 h1
set_option maxRecDepth 100000 in
theorem ref22_Table_Find_s (t_0 : Option Addr) (f_1_0 : Int) (f_1_1 : Bool) (f_1_2 f_1_3 : Int) (f_1_4 : Bool) (f_1_5 f_1_6 f_1_7 f_1_8 : Int) {Q : QT} {h : Heap} (hk : ref22_Table_Find_v t_0 f_1_0 f_1_1 f_1_2 f_1_3 f_1_4 f_1_5 f_1_6 f_1_7 f_1_8 Q h) : CallT Try.prog fn_ref22_Table_Find #[.pointer t_0, .agg #[.int .i64 f_1_0, .bool f_1_1, .int .u64 f_1_2, .int .u64 f_1_3, .bool f_1_4, .int .u64 f_1_5, .int .u64 f_1_6, .int .i64 f_1_7, .int .i64 f_1_8]] h Q :=
 callU follows Try.func23 (Try.call23 _) rfl rfl [(14, fun e h => dP (e 0) fun t_0 => dA (e 3) fun f_3 => ref22_Table_Find_b2 t_0 f_3 Q h)] [(6, fun e h => dP (e 0) fun t_0 => dA (e 3) fun f_3 => dI .i64 (e 7) fun i_7 => LoopV (fun (s : Int) h Kn => ref22_Table_Find_l1 t_0 f_3 Q s h Kn) i_7 h), (16, fun e h => dP (e 0) fun t_0 => dA (e 3) fun f_3 => dI .i64 (e 8) fun i_8 => LoopV (fun (s : Int) h Kn => ref22_Table_Find_l3 t_0 f_3 Q s h Kn) i_8 h)]
 ⟨fun e h _ hk => by
 have F := Ag.nil (e := e)
 have ⟨t_0, F, hk⟩ := eP F hk
 have ⟨f_3, F, hk⟩ := eA F hk
 exact cutU F (by as_aux_lemma => kernel_rfl) hk, trivial⟩
 ⟨⟨by kernel_rfl, fun e h he hk => by
 have F := Ag.nil (e := e)
 have ⟨t_0, F, hk⟩ := eP F hk
 have ⟨f_3, F, hk⟩ := eA F hk
 have ⟨i_7, F, hk⟩ := eI F hk
 exact loopU (s0 := i_7) follows (fun _ h => by cases h) he F (fun s => [(7, .int .i64 s)]) (by kernel_rfl) (F.take 1) hk (fun Kn1 e h => dI .i64 (e 7) fun i_7 => Kn1 i_7 h) (fun Kn1 e h hk => by
  have F := Ag.nil (e := e)
  have ⟨i_7, F, hk⟩ := eI F hk
  exact ⟨i_7, F, hk⟩)
  (fun Kn1 => []) (fun Kn1 => [])
  (fun Kn1 => trivial)
  (fun Kn1 => trivial) (fun e s h Kn1 => by as_aux_lemma => kernel_rfl)⟩, ⟨by kernel_rfl, fun e h he hk => by
 have F := Ag.nil (e := e)
 have ⟨t_0, F, hk⟩ := eP F hk
 have ⟨f_3, F, hk⟩ := eA F hk
 have ⟨i_8, F, hk⟩ := eI F hk
 exact loopU (s0 := i_8) follows (fun _ h => by cases h) he F (fun s => [(8, .int .i64 s)]) (by kernel_rfl) (F.take 1) hk (fun Kn3 e h => dI .i64 (e 8) fun i_8 => Kn3 i_8 h) (fun Kn3 e h hk => by
  have F := Ag.nil (e := e)
  have ⟨i_8, F, hk⟩ := eI F hk
  exact ⟨i_8, F, hk⟩)
  (fun Kn3 => []) (fun Kn3 => [])
  (fun Kn3 => trivial)
  (fun Kn3 => trivial) (fun e s h Kn3 => by as_aux_lemma => kernel_rfl)⟩, trivial⟩ (by as_aux_lemma => kernel_rfl) hk
/-! ### (*intrusion/intrusionref22.Table).Key -/
def ref22_Table_Key_b2 (t4 : Addr) (Q : QT) (h : Heap) : Prop :=
 stN h t4 [.int .i64 0, .bool false, .int .u64 0, .int .u64 0, .bool false, .int .u64 0, .int .u64 0, .int .i64 0, .int .i64 0] 0 fun h3 => ldI h3 t4 .i64 fun r0_0 => ldB h3 (Addr.add t4 1) fun r0_1 => ldI h3 (Addr.add t4 2) .u64 fun r0_2 => ldI h3 (Addr.add t4 3) .u64 fun r0_3 => ldB h3 (Addr.add t4 4) fun r0_4 => ldI h3 (Addr.add t4 5) .u64 fun r0_5 => ldI h3 (Addr.add t4 6) .u64 fun r0_6 => ldI h3 (Addr.add t4 7) .i64 fun r0_7 => ldI h3 (Addr.add t4 8) .i64 fun r0_8 => Q (.tuple #[.agg #[.int .i64 r0_0, .bool r0_1, .int .u64 r0_2, .int .u64 r0_3, .bool r0_4, .int .u64 r0_5, .int .u64 r0_6, .int .i64 r0_7, .int .i64 r0_8], .bool false]) h3
def ref22_Table_Key_l1 (t_0 : Option Addr) (id_1 : Int) (t4 : Addr) (Q : QT) (i_6 : Int) (h : Heap) (Kn1 : Int → Heap → Prop) : Prop :=
 nn t_0 fun t9 => ldL h (Addr.add t9 4) fun t11a t11n t11c => if (decide (i_6 < ((t11n : Nat) : Int))) = true then (nn t_0 fun t17 => ldL h (Addr.add t17 4) fun t19a t19n t19c => idxA i_6 t19n (nn t19a fun t21 => ldI h (Addr.add t21 ((i_6).toNat * 12)) .i64 fun t23 => if (t23 == id_1) = true then (nn t_0 fun t27 => ldL h (Addr.add t27 4) fun t29a t29n t29c => idxA i_6 t29n (nn t29a fun t31 => ldI h (Addr.add (Addr.add t31 ((i_6).toNat * 12)) 3) .i64 fun t33_0 => ldB h (Addr.add (Addr.add t31 ((i_6).toNat * 12)) 4) fun t33_1 => ldI h (Addr.add (Addr.add t31 ((i_6).toNat * 12)) 5) .u64 fun t33_2 => ldI h (Addr.add (Addr.add t31 ((i_6).toNat * 12)) 6) .u64 fun t33_3 => ldB h (Addr.add (Addr.add t31 ((i_6).toNat * 12)) 7) fun t33_4 => ldI h (Addr.add (Addr.add t31 ((i_6).toNat * 12)) 8) .u64 fun t33_5 => ldI h (Addr.add (Addr.add t31 ((i_6).toNat * 12)) 9) .u64 fun t33_6 => ldI h (Addr.add (Addr.add t31 ((i_6).toNat * 12)) 10) .i64 fun t33_7 => ldI h (Addr.add (Addr.add t31 ((i_6).toNat * 12)) 11) .i64 fun t33_8 => stN h t4 [.int .i64 t33_0, .bool t33_1, .int .u64 t33_2, .int .u64 t33_3, .bool t33_4, .int .u64 t33_5, .int .u64 t33_6, .int .i64 t33_7, .int .i64 t33_8] 0 fun h2 => ldI h2 t4 .i64 fun r0_0 => ldB h2 (Addr.add t4 1) fun r0_1 => ldI h2 (Addr.add t4 2) .u64 fun r0_2 => ldI h2 (Addr.add t4 3) .u64 fun r0_3 => ldB h2 (Addr.add t4 4) fun r0_4 => ldI h2 (Addr.add t4 5) .u64 fun r0_5 => ldI h2 (Addr.add t4 6) .u64 fun r0_6 => ldI h2 (Addr.add t4 7) .i64 fun r0_7 => ldI h2 (Addr.add t4 8) .i64 fun r0_8 => Q (.tuple #[.agg #[.int .i64 r0_0, .bool r0_1, .int .u64 r0_2, .int .u64 r0_3, .bool r0_4, .int .u64 r0_5, .int .u64 r0_6, .int .i64 r0_7, .int .i64 r0_8], .bool true]) h2)) else (Kn1 (wrap .i64 (i_6 + 1)) h))) else (ref22_Table_Key_b2 t4 Q h)
def ref22_Table_Key_v (t_0 : Option Addr) (id_1 : Int) (Q : QT) (h : Heap) : Prop :=
 alV h (.cells #[.int .i64 0, .bool false, .int .u64 0, .int .u64 0, .bool false, .int .u64 0, .int .u64 0, .int .i64 0, .int .i64 0] T_api_Flow) fun t4 h1 => LoopV (fun (s : Int) h Kn => ref22_Table_Key_l1 t_0 id_1 t4 Q s h Kn) 0 h1
set_option maxRecDepth 100000 in
theorem ref22_Table_Key_s (t_0 : Option Addr) (id_1 : Int) {Q : QT} {h : Heap} (hk : ref22_Table_Key_v t_0 id_1 Q h) : CallT Try.prog fn_ref22_Table_Key #[.pointer t_0, .int .i64 id_1] h Q :=
 callU follows Try.func24 (Try.call24 _) rfl rfl [(14, fun e h => dA (e 4) fun t4 => ref22_Table_Key_b2 t4 Q h)] [(6, fun e h => dP (e 0) fun t_0 => dI .i64 (e 1) fun id_1 => dA (e 4) fun t4 => dI .i64 (e 6) fun i_6 => LoopV (fun (s : Int) h Kn => ref22_Table_Key_l1 t_0 id_1 t4 Q s h Kn) i_6 h)]
 ⟨fun e h _ hk => by
 have F := Ag.nil (e := e)
 have ⟨t4, F, hk⟩ := eA F hk
 exact cutU F (by as_aux_lemma => kernel_rfl) hk, trivial⟩
 ⟨⟨by kernel_rfl, fun e h he hk => by
 have F := Ag.nil (e := e)
 have ⟨t_0, F, hk⟩ := eP F hk
 have ⟨id_1, F, hk⟩ := eI F hk
 have ⟨t4, F, hk⟩ := eA F hk
 have ⟨i_6, F, hk⟩ := eI F hk
 exact loopU (s0 := i_6) follows (fun _ h => by cases h) he F (fun s => [(6, .int .i64 s)]) (by kernel_rfl) (F.take 1) hk (fun Kn1 e h => dI .i64 (e 6) fun i_6 => Kn1 i_6 h) (fun Kn1 e h hk => by
  have F := Ag.nil (e := e)
  have ⟨i_6, F, hk⟩ := eI F hk
  exact ⟨i_6, F, hk⟩)
  (fun Kn1 => []) (fun Kn1 => [])
  (fun Kn1 => trivial)
  (fun Kn1 => trivial) (fun e s h Kn1 => by as_aux_lemma => kernel_rfl)⟩, trivial⟩ (by as_aux_lemma => kernel_rfl) hk
/-! ### (*intrusion/intrusionref22.Table).Ids -/
def ref22_Table_Ids_l1 (t_0 : Option Addr) (Q : QT) (out_3a : Option Addr) (out_3n out_3c : Nat) (i_4 : Int) (h : Heap) (Kn1 : (Option Addr) × Nat × Nat × Int → Heap → Prop) : Prop :=
 nn t_0 fun t7 => ldL h (Addr.add t7 4) fun t9a t9n t9c => if (decide (i_4 < ((t9n : Nat) : Int))) = true then (nn t_0 fun t16 => ldL h (Addr.add t16 4) fun t18a t18n t18c => idxA i_4 t18n (nn t18a fun t20 => ldI h (Addr.add t20 ((i_4).toNat * 12)) .i64 fun t22 => alV h (.cells #[.int .i64 t22] T_int) fun t23 h1 => bltV Try.prog .append #[T_sl_int, T_sl_int] T_sl_int #[false, false] #[.slice out_3a out_3n out_3c, .slice (some t23) 1 1] h1 fun v h2 => ∃ t24a : Option Addr, ∃ t24n : Nat, ∃ t24c : Nat, v = .slice t24a t24n t24c ∧ Kn1 (t24a, t24n, t24c, wrap .i64 (i_4 + 1)) h2)) else (Q (.slice out_3a out_3n out_3c) h)
def ref22_Table_Ids_v (t_0 : Option Addr) (Q : QT) (h : Heap) : Prop :=
 LoopV (fun (s : (Option Addr) × Nat × Nat × Int) h Kn => ref22_Table_Ids_l1 t_0 Q s.1 s.2.1 s.2.2.1 s.2.2.2 h Kn) (none, 0, 0, 0) h
set_option maxRecDepth 100000 in
theorem ref22_Table_Ids_s (t_0 : Option Addr) {Q : QT} {h : Heap} (hk : ref22_Table_Ids_v t_0 Q h) : CallT Try.prog fn_ref22_Table_Ids #[.pointer t_0] h Q :=
 callU follows Try.func25 (Try.call25 _) rfl rfl [] [(8, fun e h => dP (e 0) fun t_0 => dL (e 3) fun out_3a out_3n out_3c => dI .i64 (e 4) fun i_4 => LoopV (fun (s : (Option Addr) × Nat × Nat × Int) h Kn => ref22_Table_Ids_l1 t_0 Q s.1 s.2.1 s.2.2.1 s.2.2.2 h Kn) (out_3a, out_3n, out_3c, i_4) h)]
 trivial
 ⟨⟨by kernel_rfl, fun e h he hk => by
 have F := Ag.nil (e := e)
 have ⟨t_0, F, hk⟩ := eP F hk
 have ⟨out_3a, out_3n, out_3c, F, hk⟩ := eL F hk
 have ⟨i_4, F, hk⟩ := eI F hk
 exact loopU (s0 := (out_3a, out_3n, out_3c, i_4)) follows (fun _ h => by cases h) he F (fun s => [(4, .int .i64 s.2.2.2), (3, .slice s.1 s.2.1 s.2.2.1)]) (by kernel_rfl) (F.take 2) hk (fun Kn1 e h => dL (e 3) fun out_3a out_3n out_3c => dI .i64 (e 4) fun i_4 => Kn1 (out_3a, out_3n, out_3c, i_4) h) (fun Kn1 e h hk => by
  have F := Ag.nil (e := e)
  have ⟨out_3a, out_3n, out_3c, F, hk⟩ := eL F hk
  have ⟨i_4, F, hk⟩ := eI F hk
  exact ⟨(out_3a, out_3n, out_3c, i_4), F, hk⟩)
  (fun Kn1 => []) (fun Kn1 => [])
  (fun Kn1 => trivial)
  (fun Kn1 => trivial) (fun e s h Kn1 => by as_aux_lemma => kernel_rfl)⟩, trivial⟩ (by as_aux_lemma => kernel_rfl) hk
/-! ### intrusion/intrusionref22.Reverse -/
def ref22_Reverse_v (f_0_0 : Int) (f_0_1 : Bool) (f_0_2 f_0_3 : Int) (f_0_4 : Bool) (f_0_5 f_0_6 f_0_7 f_0_8 : Int) (Q : QT) (h : Heap) : Prop :=
 alV h (.cells #[.int .i64 f_0_0, .bool f_0_1, .int .u64 f_0_2, .int .u64 f_0_3, .bool f_0_4, .int .u64 f_0_5, .int .u64 f_0_6, .int .i64 f_0_7, .int .i64 f_0_8] T_api_Flow) fun t1 h1 => alV h1 (.cells #[.int .i64 0, .bool false, .int .u64 0, .int .u64 0, .bool false, .int .u64 0, .int .u64 0, .int .i64 0, .int .i64 0] T_api_Flow) fun t2 h2 => ldI h2 t1 .i64 fun t4 => ldB h2 (Addr.add t1 4) fun t6_0 => ldI h2 (Addr.add t1 5) .u64 fun t6_1 => ldI h2 (Addr.add t1 6) .u64 fun t6_2 => ldB h2 (Addr.add t1 1) fun t8_0 => ldI h2 (Addr.add t1 2) .u64 fun t8_1 => ldI h2 (Addr.add t1 3) .u64 fun t8_2 => ldI h2 (Addr.add t1 8) .i64 fun t10 => ldI h2 (Addr.add t1 7) .i64 fun t12 => stN h2 t2 [.int .i64 t4, .bool t6_0, .int .u64 t6_1, .int .u64 t6_2, .bool t8_0, .int .u64 t8_1, .int .u64 t8_2, .int .i64 t10, .int .i64 t12] 0 fun h3 => ldI h3 t2 .i64 fun r0_0 => ldB h3 (Addr.add t2 1) fun r0_1 => ldI h3 (Addr.add t2 2) .u64 fun r0_2 => ldI h3 (Addr.add t2 3) .u64 fun r0_3 => ldB h3 (Addr.add t2 4) fun r0_4 => ldI h3 (Addr.add t2 5) .u64 fun r0_5 => ldI h3 (Addr.add t2 6) .u64 fun r0_6 => ldI h3 (Addr.add t2 7) .i64 fun r0_7 => ldI h3 (Addr.add t2 8) .i64 fun r0_8 => Q (.agg #[.int .i64 r0_0, .bool r0_1, .int .u64 r0_2, .int .u64 r0_3, .bool r0_4, .int .u64 r0_5, .int .u64 r0_6, .int .i64 r0_7, .int .i64 r0_8]) h3
set_option maxRecDepth 100000 in
theorem ref22_Reverse_s (f_0_0 : Int) (f_0_1 : Bool) (f_0_2 f_0_3 : Int) (f_0_4 : Bool) (f_0_5 f_0_6 f_0_7 f_0_8 : Int) {Q : QT} {h : Heap} (hk : ref22_Reverse_v f_0_0 f_0_1 f_0_2 f_0_3 f_0_4 f_0_5 f_0_6 f_0_7 f_0_8 Q h) : CallT Try.prog fn_ref22_Reverse #[.agg #[.int .i64 f_0_0, .bool f_0_1, .int .u64 f_0_2, .int .u64 f_0_3, .bool f_0_4, .int .u64 f_0_5, .int .u64 f_0_6, .int .i64 f_0_7, .int .i64 f_0_8]] h Q :=
 callU follows Try.func26 (Try.call26 _) rfl rfl [] []
 trivial
 trivial (by as_aux_lemma => kernel_rfl) hk
/-! ### intrusion/flowtable.bound -/
def flowtable_bound_v (n_0 most_1 : Int) (Q : QT) (h : Heap) : Prop :=
 Q (.int .i64 (if most_1 < (if (1 : Int) > n_0 then (1 : Int) else n_0) then most_1 else (if (1 : Int) > n_0 then (1 : Int) else n_0))) h
set_option maxRecDepth 100000 in
theorem flowtable_bound_s (n_0 most_1 : Int) {Q : QT} {h : Heap} (hk : flowtable_bound_v n_0 most_1 Q h) : CallT Try.prog fn_flowtable_bound #[.int .i64 n_0, .int .i64 most_1] h Q :=
 callU follows Try.func27 (Try.call27 _) rfl rfl [] []
 trivial
 trivial (by as_aux_lemma => kernel_rfl) hk
/-! ### (*intrusion/flowtable.Table).late -/
def flowtable_Table_late_v (t_0 : Option Addr) (at_1 : Int) (Q : QT) (h : Heap) : Prop :=
 nn t_0 fun t7 => ldI h (Addr.add t7 2) .i64 fun t9 => if (decide (at_1 < t9)) = true then (Q (.bool true) h) else (Q (.bool (decide (at_1 > 1099511627776))) h)
set_option maxRecDepth 100000 in
theorem flowtable_Table_late_s (t_0 : Option Addr) (at_1 : Int) {Q : QT} {h : Heap} (hk : flowtable_Table_late_v t_0 at_1 Q h) : CallT Try.prog fn_flowtable_Table_late #[.pointer t_0, .int .i64 at_1] h Q :=
 callU follows Try.func29 (Try.call29 _) rfl rfl [] []
 trivial
 trivial (by as_aux_lemma => kernel_rfl) hk
/-! ### intrusion/flowtable.port -/
def flowtable_port_v (n_0 : Int) (Q : QT) (h : Heap) : Prop :=
 if (decide (n_0 ≥ 0)) = true then (Q (.bool (decide (n_0 ≤ 65535))) h) else (Q (.bool false) h)
set_option maxRecDepth 100000 in
theorem flowtable_port_s (n_0 : Int) {Q : QT} {h : Heap} (hk : flowtable_port_v n_0 Q h) : CallT Try.prog fn_flowtable_port #[.int .i64 n_0] h Q :=
 callU follows Try.func30 (Try.call30 _) rfl rfl [] []
 trivial
 trivial (by as_aux_lemma => kernel_rfl) hk
/-! ### (*intrusion/flowtable.Table).least -/
def flowtable_Table_least_l1 (t_0 : Option Addr) (t11 : Addr) (Q : QT) (out_3 : Int) (h : Heap) (Kn1 : Int → Heap → Prop) : Prop :=
 nextV Try.prog (.pointer (some t11)) false T_t h fun v h2 => (v = .tuple #[.bool false] → Q (.int .i64 out_3) h2) ∧ (v ≠ .tuple #[.bool false] → ∃ t12k t12x : Value, v = .tuple #[.bool true, t12k, t12x] ∧ entryV Try.prog (.pointer (some t11)) h2 fun v h3 => ∃ t14k t14x : Value, v = .tuple #[t14k, t14x] ∧ dI .i64 t14k fun t15 => dP t14x fun t16 => nn t_0 fun t18 => ldM h3 (Addr.add t18 4) fun t20 => lookV Try.prog T_map_int_p_flowtable_flow (.map t20) (.int .i64 out_3) false h3 fun v h4 => ∃ t22 : Option Addr, v = .pointer t22 ∧ if (Option.isNone t22) = true then (Kn1 t15 h4) else (nn t16 fun t27 => ldI h4 (Addr.add t27 9) .i64 fun t29 => nn t22 fun t31 => ldI h4 (Addr.add t31 9) .i64 fun t33 => if (decide (t29 < t33)) = true then (Kn1 t15 h4) else (nn t16 fun t38 => ldI h4 (Addr.add t38 9) .i64 fun t40 => nn t22 fun t42 => ldI h4 (Addr.add t42 9) .i64 fun t44 => if (t40 == t44) = true then (nn t16 fun t48 => ldI h4 (Addr.add t48 10) .i64 fun t50 => nn t22 fun t52 => ldI h4 (Addr.add t52 10) .i64 fun t54 => if (decide (t50 < t54)) = true then (Kn1 t15 h4) else (nn t16 fun t58 => ldI h4 (Addr.add t58 10) .i64 fun t60 => nn t22 fun t62 => ldI h4 (Addr.add t62 10) .i64 fun t64 => if (t60 == t64) = true then (if (decide (t15 < out_3)) = true then (Kn1 t15 h4) else (Kn1 out_3 h4)) else (Kn1 out_3 h4))) else (Kn1 out_3 h4))))
def flowtable_Table_least_v (t_0 : Option Addr) (Q : QT) (h : Heap) : Prop :=
 nn t_0 fun t8 => ldM h (Addr.add t8 4) fun t10 => rangeV Try.prog T_map_int_p_flowtable_flow (.map t10) h fun v h1 => ∃ t11 : Nat, v = Value.pointer (some ⟨t11, 0, none⟩) ∧ LoopV (fun (s : Int) h Kn => flowtable_Table_least_l1 t_0 (⟨t11, 0, none⟩ : Addr) Q s h Kn) 0 h1
set_option maxRecDepth 100000 in
theorem flowtable_Table_least_s (t_0 : Option Addr) {Q : QT} {h : Heap} (hk : flowtable_Table_least_v t_0 Q h) : CallT Try.prog fn_flowtable_Table_least #[.pointer t_0] h Q :=
 callU follows Try.func31 (Try.call31 _) rfl rfl [] [(8, fun e h => dP (e 0) fun t_0 => dA (e 11) fun t11 => dI .i64 (e 3) fun out_3 => LoopV (fun (s : Int) h Kn => flowtable_Table_least_l1 t_0 t11 Q s h Kn) out_3 h)]
 trivial
 ⟨⟨by kernel_rfl, fun e h he hk => by
 have F := Ag.nil (e := e)
 have ⟨t_0, F, hk⟩ := eP F hk
 have ⟨t11, F, hk⟩ := eA F hk
 have ⟨out_3, F, hk⟩ := eI F hk
 exact loopU (s0 := out_3) follows (fun _ h => by cases h) he F (fun s => [(3, .int .i64 s)]) (by kernel_rfl) (F.take 1) hk (fun Kn1 e h => dI .i64 (e 3) fun out_3 => Kn1 out_3 h) (fun Kn1 e h hk => by
  have F := Ag.nil (e := e)
  have ⟨out_3, F, hk⟩ := eI F hk
  exact ⟨out_3, F, hk⟩)
  (fun Kn1 => []) (fun Kn1 => [])
  (fun Kn1 => trivial)
  (fun Kn1 => trivial) (fun e s h Kn1 => by as_aux_lemma => kernel_rfl)⟩, trivial⟩ (by as_aux_lemma => kernel_rfl) hk
/-! ### (*intrusion/flowtable.Table).drop -/
def flowtable_Table_drop_v (t_0 : Option Addr) (id_1 : Int) (Q : QT) (h : Heap) : Prop :=
 nn t_0 fun t5 => ldM h (Addr.add t5 5) fun t7 => nn t_0 fun t9 => ldM h (Addr.add t9 4) fun t11 => lookV Try.prog T_map_int_p_flowtable_flow (.map t11) (.int .i64 id_1) false h fun v h1 => ∃ t13 : Option Addr, v = .pointer t13 ∧ (ldM h1 (Addr.add t5 5) fun t97 => (.map t97 : Value) = .map t7) ∧ nn t13 fun t14 => ldI h1 t14 .i64 fun t16_0 => ldB h1 (Addr.add t14 1) fun t16_1 => ldI h1 (Addr.add t14 2) .u64 fun t16_2 => ldI h1 (Addr.add t14 3) .u64 fun t16_3 => ldB h1 (Addr.add t14 4) fun t16_4 => ldI h1 (Addr.add t14 5) .u64 fun t16_5 => ldI h1 (Addr.add t14 6) .u64 fun t16_6 => ldI h1 (Addr.add t14 7) .i64 fun t16_7 => ldI h1 (Addr.add t14 8) .i64 fun t16_8 => CallT Try.prog fn_flowtable_keyOf #[.agg #[.int .i64 t16_0, .bool t16_1, .int .u64 t16_2, .int .u64 t16_3, .bool t16_4, .int .u64 t16_5, .int .u64 t16_6, .int .i64 t16_7, .int .i64 t16_8]] h1 fun v h2 => ∃ t17_0 : Int, ∃ t17_1 : Bool, ∃ t17_2 : Int, ∃ t17_3 : Int, ∃ t17_4 : Int, ∃ t17_5 : Int, ∃ t17_6 : Bool, ∃ t17_7 : Int, ∃ t17_8 : Int, ∃ t17_9 : Int, v = .agg #[.int .i64 t17_0, .bool t17_1, .int .u64 t17_2, .int .u64 t17_3, .int .i64 t17_4, .int .i64 t17_5, .bool t17_6, .int .u64 t17_7, .int .u64 t17_8, .int .i64 t17_9] ∧ (ldM h2 (Addr.add t5 5) fun t97 => (.map t97 : Value) = .map t7) ∧ bltV Try.prog .delete #[T_map_flowtable_pair_int, T_flowtable_pair] T_t #[false, false] #[.map t7, .agg #[.int .i64 t17_0, .bool t17_1, .int .u64 t17_2, .int .u64 t17_3, .int .i64 t17_4, .int .i64 t17_5, .bool t17_6, .int .u64 t17_7, .int .u64 t17_8, .int .i64 t17_9]] h2 fun v h3 => v = .tuple #[] ∧ nn t_0 fun t19 => ldM h3 (Addr.add t19 4) fun t21 => bltV Try.prog .delete #[T_map_int_p_flowtable_flow, T_int] T_t #[false, false] #[.map t21, .int .i64 id_1] h3 fun v h4 => v = .tuple #[] ∧ Q (.tuple #[]) h4
set_option maxRecDepth 100000 in
theorem flowtable_Table_drop_s (t_0 : Option Addr) (id_1 : Int) {Q : QT} {h : Heap} (hk : flowtable_Table_drop_v t_0 id_1 Q h) : CallT Try.prog fn_flowtable_Table_drop #[.pointer t_0, .int .i64 id_1] h Q :=
 callU follows Try.func32 (Try.call32 _) rfl rfl [] []
 trivial
 trivial (by as_aux_lemma => kernel_rfl) hk
/-! ### intrusion/flowtable.keyOf -/
def flowtable_keyOf_b1 (t2 a_3 b_4 : Addr) (Q : QT) (h : Heap) : Prop :=
 ldI h a_3 .i64 fun t40_0 => ldB h (Addr.add a_3 1) fun t40_1 => ldI h (Addr.add a_3 2) .u64 fun t40_2 => ldI h (Addr.add a_3 3) .u64 fun t40_3 => ldI h (Addr.add a_3 4) .i64 fun t40_4 => ldI h b_4 .i64 fun t41_0 => ldB h (Addr.add b_4 1) fun t41_1 => ldI h (Addr.add b_4 2) .u64 fun t41_2 => ldI h (Addr.add b_4 3) .u64 fun t41_3 => ldI h (Addr.add b_4 4) .i64 fun t41_4 => stN h t2 [.int .i64 t40_0, .bool t40_1, .int .u64 t40_2, .int .u64 t40_3, .int .i64 t40_4, .int .i64 t41_0, .bool t41_1, .int .u64 t41_2, .int .u64 t41_3, .int .i64 t41_4] 0 fun h14 => ldI h14 t2 .i64 fun r0_0 => ldB h14 (Addr.add t2 1) fun r0_1 => ldI h14 (Addr.add t2 2) .u64 fun r0_2 => ldI h14 (Addr.add t2 3) .u64 fun r0_3 => ldI h14 (Addr.add t2 4) .i64 fun r0_4 => ldI h14 (Addr.add t2 5) .i64 fun r0_5 => ldB h14 (Addr.add t2 6) fun r0_6 => ldI h14 (Addr.add t2 7) .u64 fun r0_7 => ldI h14 (Addr.add t2 8) .u64 fun r0_8 => ldI h14 (Addr.add t2 9) .i64 fun r0_9 => Q (.agg #[.int .i64 r0_0, .bool r0_1, .int .u64 r0_2, .int .u64 r0_3, .int .i64 r0_4, .int .i64 r0_5, .bool r0_6, .int .u64 r0_7, .int .u64 r0_8, .int .i64 r0_9]) h14
def flowtable_keyOf_b3 (t2 a_3 b_4 : Addr) (Q : QT) (h : Heap) : Prop :=
 ldI h b_4 .i64 fun t38_0 => ldB h (Addr.add b_4 1) fun t38_1 => ldI h (Addr.add b_4 2) .u64 fun t38_2 => ldI h (Addr.add b_4 3) .u64 fun t38_3 => ldI h (Addr.add b_4 4) .i64 fun t38_4 => ldI h a_3 .i64 fun t39_0 => ldB h (Addr.add a_3 1) fun t39_1 => ldI h (Addr.add a_3 2) .u64 fun t39_2 => ldI h (Addr.add a_3 3) .u64 fun t39_3 => ldI h (Addr.add a_3 4) .i64 fun t39_4 => stN h a_3 [.int .i64 t38_0, .bool t38_1, .int .u64 t38_2, .int .u64 t38_3, .int .i64 t38_4] 0 fun h12 => stN h12 b_4 [.int .i64 t39_0, .bool t39_1, .int .u64 t39_2, .int .u64 t39_3, .int .i64 t39_4] 0 fun h13 => flowtable_keyOf_b1 t2 a_3 b_4 Q h13
def flowtable_keyOf_b2 (t2 a_3 b_4 : Addr) (Q : QT) (h : Heap) : Prop :=
 ldB h (Addr.add a_3 1) fun t21_0 => ldI h (Addr.add a_3 2) .u64 fun t21_1 => ldI h (Addr.add a_3 3) .u64 fun t21_2 => ldB h (Addr.add b_4 1) fun t23_0 => ldI h (Addr.add b_4 2) .u64 fun t23_1 => ldI h (Addr.add b_4 3) .u64 fun t23_2 => CallT Try.prog fn_address_Compare #[.agg #[.bool t21_0, .int .u64 t21_1, .int .u64 t21_2], .agg #[.bool t23_0, .int .u64 t23_1, .int .u64 t23_2]] h fun v h11 => ∃ t24 : Int, v = .int .i64 t24 ∧ if (decide (t24 > 0)) = true then (flowtable_keyOf_b3 t2 a_3 b_4 Q h11) else (if (t24 == 0) = true then (ldI h11 (Addr.add a_3 4) .i64 fun t32 => ldI h11 (Addr.add b_4 4) .i64 fun t34 => if (decide (t32 > t34)) = true then (flowtable_keyOf_b3 t2 a_3 b_4 Q h11) else (flowtable_keyOf_b1 t2 a_3 b_4 Q h11)) else (flowtable_keyOf_b1 t2 a_3 b_4 Q h11))
def flowtable_keyOf_v (f_0_0 : Int) (f_0_1 : Bool) (f_0_2 f_0_3 : Int) (f_0_4 : Bool) (f_0_5 f_0_6 f_0_7 f_0_8 : Int) (Q : QT) (h : Heap) : Prop :=
 alV h (.cells #[.int .i64 f_0_0, .bool f_0_1, .int .u64 f_0_2, .int .u64 f_0_3, .bool f_0_4, .int .u64 f_0_5, .int .u64 f_0_6, .int .i64 f_0_7, .int .i64 f_0_8] T_api_Flow) fun t1 h1 => alV h1 (.cells #[.int .i64 0, .bool false, .int .u64 0, .int .u64 0, .int .i64 0, .int .i64 0, .bool false, .int .u64 0, .int .u64 0, .int .i64 0] T_flowtable_pair) fun t2 h2 => ldI h2 t1 .i64 fun t7 => ldB h2 (Addr.add t1 1) fun t9_0 => ldI h2 (Addr.add t1 2) .u64 fun t9_1 => ldI h2 (Addr.add t1 3) .u64 fun t9_2 => ldI h2 (Addr.add t1 7) .i64 fun t11 => ldI h2 t1 .i64 fun t14 => ldB h2 (Addr.add t1 4) fun t16_0 => ldI h2 (Addr.add t1 5) .u64 fun t16_1 => ldI h2 (Addr.add t1 6) .u64 fun t16_2 => ldI h2 (Addr.add t1 8) .i64 fun t18 => (alV h2 (.cells #[.int .i64 0, .bool false, .int .u64 0, .int .u64 0, .int .i64 0] T_flowtable_end) fun t3 h3 => (ldI h3 t1 .i64 fun t97 => (.int .i64 t97 : Value) = .int .i64 t7) ∧ (ldB h3 (Addr.add t1 1) fun t99_0 => ldI h3 (Addr.add t1 2) .u64 fun t99_1 => ldI h3 (Addr.add t1 3) .u64 fun t99_2 => (.agg #[.bool t99_0, .int .u64 t99_1, .int .u64 t99_2] : Value) = .agg #[.bool t9_0, .int .u64 t9_1, .int .u64 t9_2]) ∧ (ldI h3 (Addr.add t1 7) .i64 fun t911 => (.int .i64 t911 : Value) = .int .i64 t11) ∧ (ldI h3 t1 .i64 fun t914 => (.int .i64 t914 : Value) = .int .i64 t14) ∧ (ldB h3 (Addr.add t1 4) fun t916_0 => ldI h3 (Addr.add t1 5) .u64 fun t916_1 => ldI h3 (Addr.add t1 6) .u64 fun t916_2 => (.agg #[.bool t916_0, .int .u64 t916_1, .int .u64 t916_2] : Value) = .agg #[.bool t16_0, .int .u64 t16_1, .int .u64 t16_2]) ∧ (ldI h3 (Addr.add t1 8) .i64 fun t918 => (.int .i64 t918 : Value) = .int .i64 t18) ∧ alV h3 (.cells #[.int .i64 0, .bool false, .int .u64 0, .int .u64 0, .int .i64 0] T_flowtable_end) fun t4 h4 => (ldI h4 t1 .i64 fun t97 => (.int .i64 t97 : Value) = .int .i64 t7) ∧ (ldB h4 (Addr.add t1 1) fun t99_0 => ldI h4 (Addr.add t1 2) .u64 fun t99_1 => ldI h4 (Addr.add t1 3) .u64 fun t99_2 => (.agg #[.bool t99_0, .int .u64 t99_1, .int .u64 t99_2] : Value) = .agg #[.bool t9_0, .int .u64 t9_1, .int .u64 t9_2]) ∧ (ldI h4 (Addr.add t1 7) .i64 fun t911 => (.int .i64 t911 : Value) = .int .i64 t11) ∧ (ldI h4 t1 .i64 fun t914 => (.int .i64 t914 : Value) = .int .i64 t14) ∧ (ldB h4 (Addr.add t1 4) fun t916_0 => ldI h4 (Addr.add t1 5) .u64 fun t916_1 => ldI h4 (Addr.add t1 6) .u64 fun t916_2 => (.agg #[.bool t916_0, .int .u64 t916_1, .int .u64 t916_2] : Value) = .agg #[.bool t16_0, .int .u64 t16_1, .int .u64 t16_2]) ∧ (ldI h4 (Addr.add t1 8) .i64 fun t918 => (.int .i64 t918 : Value) = .int .i64 t18) ∧ stN h4 t3 [.int .i64 t7, .bool t9_0, .int .u64 t9_1, .int .u64 t9_2, .int .i64 t11] 0 fun h5 => (ldI h5 t1 .i64 fun t914 => (.int .i64 t914 : Value) = .int .i64 t14) ∧ (ldB h5 (Addr.add t1 4) fun t916_0 => ldI h5 (Addr.add t1 5) .u64 fun t916_1 => ldI h5 (Addr.add t1 6) .u64 fun t916_2 => (.agg #[.bool t916_0, .int .u64 t916_1, .int .u64 t916_2] : Value) = .agg #[.bool t16_0, .int .u64 t16_1, .int .u64 t16_2]) ∧ (ldI h5 (Addr.add t1 8) .i64 fun t918 => (.int .i64 t918 : Value) = .int .i64 t18) ∧ stN h5 t4 [.int .i64 t14, .bool t16_0, .int .u64 t16_1, .int .u64 t16_2, .int .i64 t18] 0 fun h6 => flowtable_keyOf_b2 t2 t3 t4 Q h6) ∧ (alV h2 (.cells #[.int .i64 0, .bool false, .int .u64 0, .int .u64 0, .int .i64 0] T_flowtable_end) fun t4 h7 => (ldI h7 t1 .i64 fun t97 => (.int .i64 t97 : Value) = .int .i64 t7) ∧ (ldB h7 (Addr.add t1 1) fun t99_0 => ldI h7 (Addr.add t1 2) .u64 fun t99_1 => ldI h7 (Addr.add t1 3) .u64 fun t99_2 => (.agg #[.bool t99_0, .int .u64 t99_1, .int .u64 t99_2] : Value) = .agg #[.bool t9_0, .int .u64 t9_1, .int .u64 t9_2]) ∧ (ldI h7 (Addr.add t1 7) .i64 fun t911 => (.int .i64 t911 : Value) = .int .i64 t11) ∧ (ldI h7 t1 .i64 fun t914 => (.int .i64 t914 : Value) = .int .i64 t14) ∧ (ldB h7 (Addr.add t1 4) fun t916_0 => ldI h7 (Addr.add t1 5) .u64 fun t916_1 => ldI h7 (Addr.add t1 6) .u64 fun t916_2 => (.agg #[.bool t916_0, .int .u64 t916_1, .int .u64 t916_2] : Value) = .agg #[.bool t16_0, .int .u64 t16_1, .int .u64 t16_2]) ∧ (ldI h7 (Addr.add t1 8) .i64 fun t918 => (.int .i64 t918 : Value) = .int .i64 t18) ∧ alV h7 (.cells #[.int .i64 0, .bool false, .int .u64 0, .int .u64 0, .int .i64 0] T_flowtable_end) fun t3 h8 => (ldI h8 t1 .i64 fun t97 => (.int .i64 t97 : Value) = .int .i64 t7) ∧ (ldB h8 (Addr.add t1 1) fun t99_0 => ldI h8 (Addr.add t1 2) .u64 fun t99_1 => ldI h8 (Addr.add t1 3) .u64 fun t99_2 => (.agg #[.bool t99_0, .int .u64 t99_1, .int .u64 t99_2] : Value) = .agg #[.bool t9_0, .int .u64 t9_1, .int .u64 t9_2]) ∧ (ldI h8 (Addr.add t1 7) .i64 fun t911 => (.int .i64 t911 : Value) = .int .i64 t11) ∧ (ldI h8 t1 .i64 fun t914 => (.int .i64 t914 : Value) = .int .i64 t14) ∧ (ldB h8 (Addr.add t1 4) fun t916_0 => ldI h8 (Addr.add t1 5) .u64 fun t916_1 => ldI h8 (Addr.add t1 6) .u64 fun t916_2 => (.agg #[.bool t916_0, .int .u64 t916_1, .int .u64 t916_2] : Value) = .agg #[.bool t16_0, .int .u64 t16_1, .int .u64 t16_2]) ∧ (ldI h8 (Addr.add t1 8) .i64 fun t918 => (.int .i64 t918 : Value) = .int .i64 t18) ∧ stN h8 t3 [.int .i64 t7, .bool t9_0, .int .u64 t9_1, .int .u64 t9_2, .int .i64 t11] 0 fun h9 => (ldI h9 t1 .i64 fun t914 => (.int .i64 t914 : Value) = .int .i64 t14) ∧ (ldB h9 (Addr.add t1 4) fun t916_0 => ldI h9 (Addr.add t1 5) .u64 fun t916_1 => ldI h9 (Addr.add t1 6) .u64 fun t916_2 => (.agg #[.bool t916_0, .int .u64 t916_1, .int .u64 t916_2] : Value) = .agg #[.bool t16_0, .int .u64 t16_1, .int .u64 t16_2]) ∧ (ldI h9 (Addr.add t1 8) .i64 fun t918 => (.int .i64 t918 : Value) = .int .i64 t18) ∧ stN h9 t4 [.int .i64 t14, .bool t16_0, .int .u64 t16_1, .int .u64 t16_2, .int .i64 t18] 0 fun h10 => flowtable_keyOf_b2 t2 t3 t4 Q h10)
set_option maxRecDepth 100000 in
theorem flowtable_keyOf_s (f_0_0 : Int) (f_0_1 : Bool) (f_0_2 f_0_3 : Int) (f_0_4 : Bool) (f_0_5 f_0_6 f_0_7 f_0_8 : Int) {Q : QT} {h : Heap} (hk : flowtable_keyOf_v f_0_0 f_0_1 f_0_2 f_0_3 f_0_4 f_0_5 f_0_6 f_0_7 f_0_8 Q h) : CallT Try.prog fn_flowtable_keyOf #[.agg #[.int .i64 f_0_0, .bool f_0_1, .int .u64 f_0_2, .int .u64 f_0_3, .bool f_0_4, .int .u64 f_0_5, .int .u64 f_0_6, .int .i64 f_0_7, .int .i64 f_0_8]] h Q :=
 callU follows Try.func33 (Try.call33 _) rfl rfl [(6, fun e h => dA (e 2) fun t2 => dA (e 3) fun a_3 => dA (e 4) fun b_4 => flowtable_keyOf_b2 t2 a_3 b_4 Q h), (11, fun e h => dA (e 2) fun t2 => dA (e 3) fun a_3 => dA (e 4) fun b_4 => flowtable_keyOf_b3 t2 a_3 b_4 Q h), (12, fun e h => dA (e 2) fun t2 => dA (e 3) fun a_3 => dA (e 4) fun b_4 => flowtable_keyOf_b1 t2 a_3 b_4 Q h)] []
 ⟨fun e h _ hk => by
 have F := Ag.nil (e := e)
 have ⟨t2, F, hk⟩ := eA F hk
 have ⟨a_3, F, hk⟩ := eA F hk
 have ⟨b_4, F, hk⟩ := eA F hk
 exact cutU F (by as_aux_lemma => kernel_rfl) hk, fun e h _ hk => by
 have F := Ag.nil (e := e)
 have ⟨t2, F, hk⟩ := eA F hk
 have ⟨a_3, F, hk⟩ := eA F hk
 have ⟨b_4, F, hk⟩ := eA F hk
 exact cutU F (by as_aux_lemma => kernel_rfl) hk, fun e h _ hk => by
 have F := Ag.nil (e := e)
 have ⟨t2, F, hk⟩ := eA F hk
 have ⟨a_3, F, hk⟩ := eA F hk
 have ⟨b_4, F, hk⟩ := eA F hk
 exact cutU F (by as_aux_lemma => kernel_rfl) hk, trivial⟩
 trivial (by as_aux_lemma => kernel_rfl) hk
/-! ### intrusion/intrusionref22.limit -/
def ref22_limit_v (n_0 low_1 high_2 : Int) (Q : QT) (h : Heap) : Prop :=
 if (decide (n_0 < low_1)) = true then (Q (.int .i64 low_1) h) else (if (decide (n_0 > high_2)) = true then (Q (.int .i64 high_2) h) else (Q (.int .i64 n_0) h))
set_option maxRecDepth 100000 in
theorem ref22_limit_s (n_0 low_1 high_2 : Int) {Q : QT} {h : Heap} (hk : ref22_limit_v n_0 low_1 high_2 Q h) : CallT Try.prog fn_ref22_limit #[.int .i64 n_0, .int .i64 low_1, .int .i64 high_2] h Q :=
 callU follows Try.func34 (Try.call34 _) rfl rfl [] []
 trivial
 trivial (by as_aux_lemma => kernel_rfl) hk
/-! ### (*intrusion/intrusionref22.Table).wrong -/
def ref22_Table_wrong_v (t_0 : Option Addr) (at_1 : Int) (Q : QT) (h : Heap) : Prop :=
 nn t_0 fun t7 => ldI h (Addr.add t7 2) .i64 fun t9 => if (decide (at_1 < t9)) = true then (Q (.bool true) h) else (Q (.bool (decide (at_1 > 1099511627776))) h)
set_option maxRecDepth 100000 in
theorem ref22_Table_wrong_s (t_0 : Option Addr) (at_1 : Int) {Q : QT} {h : Heap} (hk : ref22_Table_wrong_v t_0 at_1 Q h) : CallT Try.prog fn_ref22_Table_wrong #[.pointer t_0, .int .i64 at_1] h Q :=
 callU follows Try.func35 (Try.call35 _) rfl rfl [] []
 trivial
 trivial (by as_aux_lemma => kernel_rfl) hk
/-! ### (*intrusion/intrusionref22.Table).without -/
def ref22_Table_without_b2 (t_0 l_5a : Option Addr) (l_5n l_5c : Nat) (Q : QT) (h : Heap) : Prop :=
 nn t_0 fun t40 => ldL h (Addr.add t40 4) fun t42a t42n t42c => nn t_0 fun t47 => st1 h (Addr.add t47 4) (.slice l_5a l_5n l_5c) fun h3 => Q (.bool (decide (((l_5n : Nat) : Int) < ((t42n : Nat) : Int)))) h3
def ref22_Table_without_l1 (t_0 : Option Addr) (id_1 : Int) (Q : QT) (l_5a : Option Addr) (l_5n l_5c : Nat) (i_6 : Int) (h : Heap) (Kn1 : (Option Addr) × Nat × Nat × Int → Heap → Prop) : Prop :=
 nn t_0 fun t10 => ldL h (Addr.add t10 4) fun t12a t12n t12c => if (decide (i_6 < ((t12n : Nat) : Int))) = true then (nn t_0 fun t18 => ldL h (Addr.add t18 4) fun t20a t20n t20c => idxA i_6 t20n (nn t20a fun t22 => ldI h (Addr.add t22 ((i_6).toNat * 12)) .i64 fun t24 => if (t24 != id_1) = true then (nn t_0 fun t29 => ldL h (Addr.add t29 4) fun t31a t31n t31c => idxA i_6 t31n (nn t31a fun t33 => ldI h (Addr.add t33 ((i_6).toNat * 12)) .i64 fun t34_0 => ldI h (Addr.add (Addr.add t33 ((i_6).toNat * 12)) 1) .i64 fun t34_1 => ldI h (Addr.add (Addr.add t33 ((i_6).toNat * 12)) 2) .i64 fun t34_2 => ldI h (Addr.add (Addr.add t33 ((i_6).toNat * 12)) 3) .i64 fun t34_3 => ldB h (Addr.add (Addr.add t33 ((i_6).toNat * 12)) 4) fun t34_4 => ldI h (Addr.add (Addr.add t33 ((i_6).toNat * 12)) 5) .u64 fun t34_5 => ldI h (Addr.add (Addr.add t33 ((i_6).toNat * 12)) 6) .u64 fun t34_6 => ldB h (Addr.add (Addr.add t33 ((i_6).toNat * 12)) 7) fun t34_7 => ldI h (Addr.add (Addr.add t33 ((i_6).toNat * 12)) 8) .u64 fun t34_8 => ldI h (Addr.add (Addr.add t33 ((i_6).toNat * 12)) 9) .u64 fun t34_9 => ldI h (Addr.add (Addr.add t33 ((i_6).toNat * 12)) 10) .i64 fun t34_10 => ldI h (Addr.add (Addr.add t33 ((i_6).toNat * 12)) 11) .i64 fun t34_11 => alV h (.cells #[.int .i64 t34_0, .int .i64 t34_1, .int .i64 t34_2, .int .i64 t34_3, .bool t34_4, .int .u64 t34_5, .int .u64 t34_6, .bool t34_7, .int .u64 t34_8, .int .u64 t34_9, .int .i64 t34_10, .int .i64 t34_11] T_intrusionref22_Entry) fun t35 h1 => bltV Try.prog .append #[T_sl_intrusionref22_Entry, T_sl_intrusionref22_Entry] T_sl_intrusionref22_Entry #[false, false] #[.slice l_5a l_5n l_5c, .slice (some t35) 1 1] h1 fun v h2 => ∃ t36a : Option Addr, ∃ t36n : Nat, ∃ t36c : Nat, v = .slice t36a t36n t36c ∧ Kn1 (t36a, t36n, t36c, wrap .i64 (i_6 + 1)) h2)) else (Kn1 (l_5a, l_5n, l_5c, wrap .i64 (i_6 + 1)) h))) else (ref22_Table_without_b2 t_0 l_5a l_5n l_5c Q h)
def ref22_Table_without_v (t_0 : Option Addr) (id_1 : Int) (Q : QT) (h : Heap) : Prop :=
 LoopV (fun (s : (Option Addr) × Nat × Nat × Int) h Kn => ref22_Table_without_l1 t_0 id_1 Q s.1 s.2.1 s.2.2.1 s.2.2.2 h Kn) (none, 0, 0, 0) h
set_option maxRecDepth 100000 in
theorem ref22_Table_without_s (t_0 : Option Addr) (id_1 : Int) {Q : QT} {h : Heap} (hk : ref22_Table_without_v t_0 id_1 Q h) : CallT Try.prog fn_ref22_Table_without #[.pointer t_0, .int .i64 id_1] h Q :=
 callU follows Try.func36 (Try.call36 _) rfl rfl [(16, fun e h => dP (e 0) fun t_0 => dL (e 5) fun l_5a l_5n l_5c => ref22_Table_without_b2 t_0 l_5a l_5n l_5c Q h)] [(8, fun e h => dP (e 0) fun t_0 => dI .i64 (e 1) fun id_1 => dL (e 5) fun l_5a l_5n l_5c => dI .i64 (e 6) fun i_6 => LoopV (fun (s : (Option Addr) × Nat × Nat × Int) h Kn => ref22_Table_without_l1 t_0 id_1 Q s.1 s.2.1 s.2.2.1 s.2.2.2 h Kn) (l_5a, l_5n, l_5c, i_6) h)]
 ⟨fun e h _ hk => by
 have F := Ag.nil (e := e)
 have ⟨t_0, F, hk⟩ := eP F hk
 have ⟨l_5a, l_5n, l_5c, F, hk⟩ := eL F hk
 exact cutU F (by as_aux_lemma => kernel_rfl) hk, trivial⟩
 ⟨⟨by kernel_rfl, fun e h he hk => by
 have F := Ag.nil (e := e)
 have ⟨t_0, F, hk⟩ := eP F hk
 have ⟨id_1, F, hk⟩ := eI F hk
 have ⟨l_5a, l_5n, l_5c, F, hk⟩ := eL F hk
 have ⟨i_6, F, hk⟩ := eI F hk
 exact loopU (s0 := (l_5a, l_5n, l_5c, i_6)) follows (fun _ h => by cases h) he F (fun s => [(6, .int .i64 s.2.2.2), (5, .slice s.1 s.2.1 s.2.2.1)]) (by kernel_rfl) (F.take 2) hk (fun Kn1 e h => dL (e 5) fun l_5a l_5n l_5c => dI .i64 (e 6) fun i_6 => Kn1 (l_5a, l_5n, l_5c, i_6) h) (fun Kn1 e h hk => by
  have F := Ag.nil (e := e)
  have ⟨l_5a, l_5n, l_5c, F, hk⟩ := eL F hk
  have ⟨i_6, F, hk⟩ := eI F hk
  exact ⟨(l_5a, l_5n, l_5c, i_6), F, hk⟩)
  (fun Kn1 => []) (fun Kn1 => [])
  (fun Kn1 => trivial)
  (fun Kn1 => trivial) (fun e s h Kn1 => by as_aux_lemma => kernel_rfl)⟩, trivial⟩ (by as_aux_lemma => kernel_rfl) hk
/-! ### intrusion/address.Compare -/
def address_Compare_v (a_0_0 : Bool) (a_0_1 a_0_2 : Int) (b_1_0 : Bool) (b_1_1 b_1_2 : Int) (Q : QT) (h : Heap) : Prop :=
 alV h (.cells #[.bool a_0_0, .int .u64 a_0_1, .int .u64 a_0_2] T_api_Addr) fun t2 h1 => alV h1 (.cells #[.bool b_1_0, .int .u64 b_1_1, .int .u64 b_1_2] T_api_Addr) fun t3 h2 => ldB h2 t2 fun t6_0 => ldI h2 (Addr.add t2 1) .u64 fun t6_1 => ldI h2 (Addr.add t2 2) .u64 fun t6_2 => ldB h2 t3 fun t7_0 => ldI h2 (Addr.add t3 1) .u64 fun t7_1 => ldI h2 (Addr.add t3 2) .u64 fun t7_2 => if ((t6_0 == t7_0) && ((t6_1 == t7_1) && ((t6_2 == t7_2) && true))) = true then (Q (.int .i64 0) h2) else (ldB h2 t2 fun t11 => ldB h2 t3 fun t13 => if (!(t11 == t13)) = true then (ldB h2 t3 fun t16 => if t16 = true then (Q (.int .i64 (-1)) h2) else (Q (.int .i64 1) h2)) else (ldI h2 (Addr.add t2 1) .u64 fun t19 => ldI h2 (Addr.add t3 1) .u64 fun t21 => if (t19 != t21) = true then (ldI h2 (Addr.add t2 1) .u64 fun t24 => ldI h2 (Addr.add t3 1) .u64 fun t26 => if (decide (t24 < t26)) = true then (Q (.int .i64 (-1)) h2) else (Q (.int .i64 1) h2)) else (ldI h2 (Addr.add t2 2) .u64 fun t30 => ldI h2 (Addr.add t3 2) .u64 fun t32 => if (decide (t30 < t32)) = true then (Q (.int .i64 (-1)) h2) else (Q (.int .i64 1) h2))))
set_option maxRecDepth 100000 in
theorem address_Compare_s (a_0_0 : Bool) (a_0_1 a_0_2 : Int) (b_1_0 : Bool) (b_1_1 b_1_2 : Int) {Q : QT} {h : Heap} (hk : address_Compare_v a_0_0 a_0_1 a_0_2 b_1_0 b_1_1 b_1_2 Q h) : CallT Try.prog fn_address_Compare #[.agg #[.bool a_0_0, .int .u64 a_0_1, .int .u64 a_0_2], .agg #[.bool b_1_0, .int .u64 b_1_1, .int .u64 b_1_2]] h Q :=
 callU follows Try.func39 (Try.call39 _) rfl rfl [] []
 trivial
 trivial (by as_aux_lemma => kernel_rfl) hk
end Go.Proofs.Ytbmifkjdjekenaa
