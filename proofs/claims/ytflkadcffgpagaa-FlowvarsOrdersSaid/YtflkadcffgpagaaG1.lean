/-
  Printed by wip/tool/gen2.py: verification conditions, and the proof that each suffices.
-/
import Derived.Test.YtflkadcffgpagaaProg
import Derived.Test.YtflkadcffgpagaaVcTree
namespace Go.Proofs.Ytflkadcffgpagaa
set_option linter.unusedSimpArgs false
set_option linter.unusedVariables false
set_option maxRecDepth 20000
open Go IntKind
abbrev fn_main_main : FuncId := 0
abbrev fn_gosem_cut : FuncId := 1
abbrev fn_gosem_cut_init : FuncId := 2
abbrev fn_law48_FlowvarsFails : FuncId := 3
abbrev fn_law48_FlowvarsConditions : FuncId := 4
abbrev fn_law48_FlowvarsCalls : FuncId := 5
abbrev fn_law48_FlowvarsOrders : FuncId := 6
abbrev fn_law48_FlowvarsNone : FuncId := 7
abbrev fn_flowvars_New : FuncId := 8
abbrev fn_law48_large : FuncId := 9
abbrev fn_law48_awake : FuncId := 10
abbrev fn_flowvars_Vars_Names : FuncId := 11
abbrev fn_flowvars_Vars_Do : FuncId := 12
abbrev fn_law48_same : FuncId := 13
abbrev fn_flowvars_Vars_Holds : FuncId := 14
abbrev fn_ref48_New : FuncId := 15
abbrev fn_ref48_Vars_Do : FuncId := 16
abbrev fn_ref48_Vars_Holds : FuncId := 17
abbrev fn_flowvars_Vars_Clear : FuncId := 18
abbrev fn_ref48_Vars_Clear : FuncId := 19
abbrev fn_ref48_Vars_Names : FuncId := 20
abbrev fn_lexer_IsName : FuncId := 21
abbrev fn_flowvars_right : FuncId := 22
abbrev fn_slices_Sorted_string : FuncId := 23
abbrev fn_maps_Keys_map_string_bool_string_bool : FuncId := 24
abbrev fn_maps_Clone_map_string_bool_string_bool : FuncId := 25
abbrev fn_flowvars_Vars_has : FuncId := 26
abbrev fn_ref04_IsName : FuncId := 27
abbrev fn_ref48_set : FuncId := 28
abbrev fn_ref48_with : FuncId := 29
abbrev fn_ref48_without : FuncId := 30
abbrev fn_lexer_class : FuncId := 31
abbrev fn_lexer_while : FuncId := 32
abbrev fn_lexer_inName : FuncId := 33
abbrev fn_slices_Collect_string : FuncId := 34
abbrev fn_slices_Sort_string_string : FuncId := 35
abbrev fn_maps_Keys_map_string_bool_string_bool__1 : FuncId := 36
abbrev fn_maps_clone : FuncId := 37
abbrev fn_ref04_Letter : FuncId := 38
abbrev fn_ref04_inName : FuncId := 39
abbrev fn_slices_AppendSeq_string_string : FuncId := 40
abbrev fn_slices_pdqsortOrdered_string : FuncId := 41
abbrev fn_math_bits_Len : FuncId := 42
abbrev fn_ref04_Digit : FuncId := 43
abbrev fn_slices_insertionSortOrdered_string : FuncId := 44
abbrev fn_slices_heapSortOrdered_string : FuncId := 45
abbrev fn_slices_breakPatternsOrdered_string : FuncId := 46
abbrev fn_slices_choosePivotOrdered_string : FuncId := 47
abbrev fn_slices_reverseRangeOrdered_string : FuncId := 48
abbrev fn_slices_partialInsertionSortOrdered_string : FuncId := 49
abbrev fn_cmp_Less_string : FuncId := 50
abbrev fn_slices_partitionEqualOrdered_string : FuncId := 51
abbrev fn_slices_partitionOrdered_string : FuncId := 52
abbrev fn_math_bits_Len32 : FuncId := 53
abbrev fn_math_bits_Len64 : FuncId := 54
abbrev fn_slices_siftDownOrdered_string : FuncId := 55
abbrev fn_slices_nextPowerOfTwo : FuncId := 56
abbrev fn_slices_xorshift_Next : FuncId := 57
abbrev fn_slices_medianAdjacentOrdered_string : FuncId := 58
abbrev fn_slices_medianOrdered_string : FuncId := 59
abbrev fn_cmp_isNaN_string : FuncId := 60
abbrev fn_slices_order2Ordered_string : FuncId := 61
abbrev fn_runtime_boundsError_Error : FuncId := 62
abbrev fn_runtime_boundsError_RuntimeError : FuncId := 63
abbrev fn_runtime_errorString_Error : FuncId := 64
abbrev fn_runtime_errorString_RuntimeError : FuncId := 65
abbrev fn_runtime_plainError_Error : FuncId := 66
abbrev fn_runtime_plainError_RuntimeError : FuncId := 67
abbrev fn_runtime_errorAddressString_Error : FuncId := 68
abbrev fn_runtime_errorAddressString_RuntimeError : FuncId := 69
abbrev fn_runtime_TypeAssertionError_Error : FuncId := 70
abbrev fn_runtime_TypeAssertionError_RuntimeError : FuncId := 71
abbrev fn_runtime_PanicNilError_Error : FuncId := 72
abbrev fn_runtime_PanicNilError_RuntimeError : FuncId := 73
abbrev fn_internal_abi_Type_Align : FuncId := 74
abbrev fn_internal_runtime_maps_unhashableTypeError_Error : FuncId := 75
abbrev fn_internal_runtime_maps_unhashableTypeError_RuntimeError : FuncId := 76
abbrev fn_api_Errno_Error : FuncId := 77
abbrev fn_internal_abi_Kind_String : FuncId := 78
abbrev T_t : TypeId := 0
abbrev T_func : TypeId := 1
abbrev T_int64 : TypeId := 2
abbrev T_int : TypeId := 3
abbrev T_bool : TypeId := 4
abbrev T_uint8 : TypeId := 5
abbrev T_abi_BoundsErrorCode : TypeId := 6
abbrev T_struct_x_int64_y_int_signed_bool_code_abi_BoundsErrorCode : TypeId := 7
abbrev T_runtime_boundsError : TypeId := 8
abbrev T_string : TypeId := 9
abbrev T_runtime_errorString : TypeId := 10
abbrev T_runtime_plainError : TypeId := 11
abbrev T_uintptr : TypeId := 12
abbrev T_struct_msg_string_addr_uintptr : TypeId := 13
abbrev T_runtime_errorAddressString : TypeId := 14
abbrev T_p_runtime_TypeAssertionError : TypeId := 15
abbrev T_p_runtime_PanicNilError : TypeId := 16
abbrev T_p_abi_Type : TypeId := 17
abbrev T_struct_typ_p_abi_Type : TypeId := 18
abbrev T_maps_unhashableTypeError : TypeId := 19
abbrev T_interface : TypeId := 20
abbrev T_int32 : TypeId := 21
abbrev T_sl_intrusionlaw48_Call : TypeId := 22
abbrev T_p_flowvars_Vars : TypeId := 23
abbrev T_func_p_flowvars_Vars : TypeId := 24
abbrev T_func_sl_intrusionlaw48_Call_bool : TypeId := 25
abbrev T_func_bool : TypeId := 26
abbrev T_sl_string : TypeId := 27
abbrev T_func_int_sl_string : TypeId := 28
abbrev T_api_Errno : TypeId := 29
abbrev T_func_int_sl_api_FlowOp_api_Errno : TypeId := 30
abbrev T_sl_api_FlowOp : TypeId := 31
abbrev T_struct_Kind_int_Dir_int_Ops_sl_api_FlowOp : TypeId := 32
abbrev T_intrusionlaw48_Call : TypeId := 33
abbrev T_func_sl_string_sl_string_bool : TypeId := 34
abbrev T_struct_Op_int_Name_string : TypeId := 35
abbrev T_api_FlowOp : TypeId := 36
abbrev T_func_int_sl_api_FlowOp_bool : TypeId := 37
abbrev T_func_sl_intrusionlaw48_Call_int_sl_api_FlowOp_bool : TypeId := 38
abbrev T_p_intrusionref48_Vars : TypeId := 39
abbrev T_func_p_intrusionref48_Vars : TypeId := 40
abbrev T_func_string_bool : TypeId := 41
abbrev T_func_sl_intrusionlaw48_Call_int_string_bool : TypeId := 42
abbrev T_func_intrusionlaw48_Call_bool : TypeId := 43
abbrev T_map_string_bool : TypeId := 44
abbrev T_2_map_string_bool : TypeId := 45
abbrev T_struct_set_2_map_string_bool : TypeId := 46
abbrev T_flowvars_Vars : TypeId := 47
abbrev T_func_int_bool : TypeId := 48
abbrev T_func_iter_Seq_string_sl_string : TypeId := 49
abbrev T_func_func_string_bool : TypeId := 50
abbrev T_iter_Seq_string : TypeId := 51
abbrev T_func_map_string_bool_iter_Seq_string : TypeId := 52
abbrev T_func_map_string_bool_map_string_bool : TypeId := 53
abbrev T_func_int_string_bool : TypeId := 54
abbrev T_struct_Server_sl_string_Client_sl_string : TypeId := 55
abbrev T_intrusionref48_Vars : TypeId := 56
abbrev T_func_sl_string_string_bool : TypeId := 57
abbrev T_func_sl_string_string_sl_string : TypeId := 58
abbrev T_func_uint8_int : TypeId := 59
abbrev T_func_string_int_func_uint8_bool_int : TypeId := 60
abbrev T_func_uint8_bool : TypeId := 61
abbrev T_func_sl_string : TypeId := 62
abbrev T_func_interface_interface : TypeId := 63
abbrev T_func_sl_string_iter_Seq_string_sl_string : TypeId := 64
abbrev T_func_sl_string_int_int_int : TypeId := 65
abbrev T_func_uint_int : TypeId := 66
abbrev T_uint : TypeId := 67
abbrev T_func_sl_string_int_int : TypeId := 68
abbrev T_slices_sortedHint : TypeId := 69
abbrev T_int_slices_sortedHint : TypeId := 70
abbrev T_func_sl_string_int_int_int_slices_sortedHint : TypeId := 71
abbrev T_func_sl_string_int_int_bool : TypeId := 72
abbrev T_func_string_string_bool : TypeId := 73
abbrev T_func_sl_string_int_int_int_int : TypeId := 74
abbrev T_int_bool : TypeId := 75
abbrev T_func_sl_string_int_int_int_int_bool : TypeId := 76
abbrev T_func_uint32_int : TypeId := 77
abbrev T_uint32 : TypeId := 78
abbrev T_func_uint64_int : TypeId := 79
abbrev T_uint64 : TypeId := 80
abbrev T_slices_xorshift : TypeId := 81
abbrev T_func_int_uint : TypeId := 82
abbrev T_func_uint64 : TypeId := 83
abbrev T_func_sl_string_int_p_int_int : TypeId := 84
abbrev T_p_int : TypeId := 85
abbrev T_func_sl_string_int_int_int_p_int_int : TypeId := 86
abbrev T_p_slices_xorshift : TypeId := 87
abbrev T_int_int : TypeId := 88
abbrev T_func_sl_string_int_int_p_int_int_int : TypeId := 89
abbrev T_func_string : TypeId := 90
abbrev T_struct__interface_p_abi_Type_concrete_p_abi_Type_asserted_ : TypeId := 91
abbrev T_runtime_TypeAssertionError : TypeId := 92
abbrev T_0_p_runtime_PanicNilError : TypeId := 93
abbrev T_struct___0_p_runtime_PanicNilError : TypeId := 94
abbrev T_runtime_PanicNilError : TypeId := 95
abbrev T_func_int : TypeId := 96
abbrev T_abi_TFlag : TypeId := 97
abbrev T_abi_Kind : TypeId := 98
abbrev T_func_unsafe_Pointer_unsafe_Pointer_bool : TypeId := 99
abbrev T_p_uint8 : TypeId := 100
abbrev T_abi_NameOff : TypeId := 101
abbrev T_abi_TypeOff : TypeId := 102
abbrev T_struct_Size__uintptr_PtrBytes_uintptr_Hash_uint32_TFlag_ab : TypeId := 103
abbrev T_abi_Type : TypeId := 104
abbrev T_unsafe_Pointer : TypeId := 105
theorem follows : Try.prog.follows .mixedOrders = true := by kernel_rfl
variable [Gh]
/-! ### intrusion/intrusionlaw48.FlowvarsFails -/
def law48_FlowvarsFails_b2 (Q : QT) (h : Heap) : Prop :=
 CallT Try.prog fn_law48_awake #[] h fun v h17 => ∃ t86 : Bool, v = .bool t86 ∧ Q (.bool t86) h17
def law48_FlowvarsFails_l1 (l_0a : Option Addr) (l_0n l_0c : Nat) (v_3 : Option Addr) (t17 : Int) (Q : QT) (t18 : Int) (h : Heap) (Kn1 : Int → Heap → Prop) : Prop :=
 if (decide (t18 < t17)) = true then (CallT Try.prog fn_flowvars_Vars_Names #[.pointer v_3, .int .i64 1] h fun v h4 => ∃ t22a : Option Addr, ∃ t22n : Nat, ∃ t22c : Nat, v = .slice t22a t22n t22c ∧ CallT Try.prog fn_flowvars_Vars_Names #[.pointer v_3, .int .i64 2] h4 fun v h5 => ∃ t24a : Option Addr, ∃ t24n : Nat, ∃ t24c : Nat, v = .slice t24a t24n t24c ∧ idxA t18 l_0n (nn l_0a fun t28 => ldI h5 (Addr.add (Addr.add t28 ((t18).toNat * 3)) 1) .i64 fun t30 => idxA t18 l_0n (nn l_0a fun t33 => ldL h5 (Addr.add (Addr.add t33 ((t18).toNat * 3)) 2) fun t35a t35n t35c => CallT Try.prog fn_flowvars_Vars_Do #[.pointer v_3, .int .i64 t30, .slice t35a t35n t35c] h5 fun v h6 => ∃ t36 : Int, v = .int .i64 t36 ∧ CallT Try.prog fn_flowvars_Vars_Names #[.pointer v_3, .int .i64 1] h6 fun v h7 => ∃ t38a : Option Addr, ∃ t38n : Nat, ∃ t38c : Nat, v = .slice t38a t38n t38c ∧ CallT Try.prog fn_flowvars_Vars_Names #[.pointer v_3, .int .i64 2] h7 fun v h8 => ∃ t40a : Option Addr, ∃ t40n : Nat, ∃ t40c : Nat, v = .slice t40a t40n t40c ∧ if (t36 != 0) = true then (CallT Try.prog fn_law48_same #[.slice t22a t22n t22c, .slice t38a t38n t38c] h8 fun v h9 => ∃ t54 : Bool, v = .bool t54 ∧ if (!t54) = true then (Q (.bool false) h9) else (if (t36 != 0) = true then (CallT Try.prog fn_law48_same #[.slice t24a t24n t24c, .slice t40a t40n t40c] h9 fun v h10 => ∃ t71 : Bool, v = .bool t71 ∧ if (!t71) = true then (Q (.bool false) h10) else (if (decide (((t38n : Nat) : Int) > 32)) = true then (Q (.bool false) h10) else (if (decide (((t40n : Nat) : Int) > 32)) = true then (Q (.bool false) h10) else (Kn1 (wrap .i64 (t18 + 1)) h10)))) else (idxA t18 l_0n (nn l_0a fun t63 => ldI h9 (Addr.add (Addr.add t63 ((t18).toNat * 3)) 1) .i64 fun t65 => if (t65 != 2) = true then (CallT Try.prog fn_law48_same #[.slice t24a t24n t24c, .slice t40a t40n t40c] h9 fun v h11 => ∃ t71 : Bool, v = .bool t71 ∧ if (!t71) = true then (Q (.bool false) h11) else (if (decide (((t38n : Nat) : Int) > 32)) = true then (Q (.bool false) h11) else (if (decide (((t40n : Nat) : Int) > 32)) = true then (Q (.bool false) h11) else (Kn1 (wrap .i64 (t18 + 1)) h11)))) else (if (decide (((t38n : Nat) : Int) > 32)) = true then (Q (.bool false) h9) else (if (decide (((t40n : Nat) : Int) > 32)) = true then (Q (.bool false) h9) else (Kn1 (wrap .i64 (t18 + 1)) h9))))))) else (idxA t18 l_0n (nn l_0a fun t46 => ldI h8 (Addr.add (Addr.add t46 ((t18).toNat * 3)) 1) .i64 fun t48 => if (t48 != 1) = true then (CallT Try.prog fn_law48_same #[.slice t22a t22n t22c, .slice t38a t38n t38c] h8 fun v h12 => ∃ t54 : Bool, v = .bool t54 ∧ if (!t54) = true then (Q (.bool false) h12) else (if (t36 != 0) = true then (CallT Try.prog fn_law48_same #[.slice t24a t24n t24c, .slice t40a t40n t40c] h12 fun v h13 => ∃ t71 : Bool, v = .bool t71 ∧ if (!t71) = true then (Q (.bool false) h13) else (if (decide (((t38n : Nat) : Int) > 32)) = true then (Q (.bool false) h13) else (if (decide (((t40n : Nat) : Int) > 32)) = true then (Q (.bool false) h13) else (Kn1 (wrap .i64 (t18 + 1)) h13)))) else (idxA t18 l_0n (nn l_0a fun t63 => ldI h12 (Addr.add (Addr.add t63 ((t18).toNat * 3)) 1) .i64 fun t65 => if (t65 != 2) = true then (CallT Try.prog fn_law48_same #[.slice t24a t24n t24c, .slice t40a t40n t40c] h12 fun v h14 => ∃ t71 : Bool, v = .bool t71 ∧ if (!t71) = true then (Q (.bool false) h14) else (if (decide (((t38n : Nat) : Int) > 32)) = true then (Q (.bool false) h14) else (if (decide (((t40n : Nat) : Int) > 32)) = true then (Q (.bool false) h14) else (Kn1 (wrap .i64 (t18 + 1)) h14)))) else (if (decide (((t38n : Nat) : Int) > 32)) = true then (Q (.bool false) h12) else (if (decide (((t40n : Nat) : Int) > 32)) = true then (Q (.bool false) h12) else (Kn1 (wrap .i64 (t18 + 1)) h12))))))) else (if (t36 != 0) = true then (CallT Try.prog fn_law48_same #[.slice t24a t24n t24c, .slice t40a t40n t40c] h8 fun v h15 => ∃ t71 : Bool, v = .bool t71 ∧ if (!t71) = true then (Q (.bool false) h15) else (if (decide (((t38n : Nat) : Int) > 32)) = true then (Q (.bool false) h15) else (if (decide (((t40n : Nat) : Int) > 32)) = true then (Q (.bool false) h15) else (Kn1 (wrap .i64 (t18 + 1)) h15)))) else (idxA t18 l_0n (nn l_0a fun t63 => ldI h8 (Addr.add (Addr.add t63 ((t18).toNat * 3)) 1) .i64 fun t65 => if (t65 != 2) = true then (CallT Try.prog fn_law48_same #[.slice t24a t24n t24c, .slice t40a t40n t40c] h8 fun v h16 => ∃ t71 : Bool, v = .bool t71 ∧ if (!t71) = true then (Q (.bool false) h16) else (if (decide (((t38n : Nat) : Int) > 32)) = true then (Q (.bool false) h16) else (if (decide (((t40n : Nat) : Int) > 32)) = true then (Q (.bool false) h16) else (Kn1 (wrap .i64 (t18 + 1)) h16)))) else (if (decide (((t38n : Nat) : Int) > 32)) = true then (Q (.bool false) h8) else (if (decide (((t40n : Nat) : Int) > 32)) = true then (Q (.bool false) h8) else (Kn1 (wrap .i64 (t18 + 1)) h8))))))))))) else (law48_FlowvarsFails_b2 Q h)
def law48_FlowvarsFails_v (l_0a : Option Addr) (l_0n l_0c : Nat) (Q : QT) (h : Heap) : Prop :=
 CallT Try.prog fn_flowvars_New #[] h fun v h1 => ∃ t10 : Option Addr, v = .pointer t10 ∧ if (Option.isNone t10) = true then (Q (.bool false) h1) else (CallT Try.prog fn_law48_large #[.slice l_0a l_0n l_0c] h1 fun v h2 => ∃ t14 : Bool, v = .bool t14 ∧ if t14 = true then (CallT Try.prog fn_law48_awake #[] h2 fun v h3 => ∃ t15 : Bool, v = .bool t15 ∧ Q (.bool t15) h3) else (LoopV (fun (s : Int) h Kn => law48_FlowvarsFails_l1 l_0a l_0n l_0c t10 ((l_0n : Nat) : Int) Q s h Kn) 0 h2))
set_option maxRecDepth 100000 in
theorem law48_FlowvarsFails_s (l_0a : Option Addr) (l_0n l_0c : Nat) {Q : QT} {h : Heap} (hk : law48_FlowvarsFails_v l_0a l_0n l_0c Q h) : CallT Try.prog fn_law48_FlowvarsFails #[.slice l_0a l_0n l_0c] h Q :=
 callU follows Try.func3 (Try.call3 _) rfl rfl [(32, fun e h => law48_FlowvarsFails_b2 Q h)] [(16, fun e h => dL (e 0) fun l_0a l_0n l_0c => dP (e 3) fun v_3 => dI .i64 (e 17) fun t17 => dI .i64 (e 18) fun t18 => LoopV (fun (s : Int) h Kn => law48_FlowvarsFails_l1 l_0a l_0n l_0c v_3 t17 Q s h Kn) t18 h)]
 ⟨fun e h _ hk => by
 have F := Ag.nil (e := e)
 exact cutU F (by as_aux_lemma => kernel_rfl) hk, trivial⟩
 ⟨⟨by kernel_rfl, fun e h he hk => by
 have F := Ag.nil (e := e)
 have ⟨l_0a, l_0n, l_0c, F, hk⟩ := eL F hk
 have ⟨v_3, F, hk⟩ := eP F hk
 have ⟨t17, F, hk⟩ := eI F hk
 have ⟨t18, F, hk⟩ := eI F hk
 exact loopU (s0 := t18) follows (fun _ h => by cases h) he F (fun s => [(18, .int .i64 s)]) (by kernel_rfl) (F.take 1) hk (fun Kn1 e h => dI .i64 (e 18) fun t18 => Kn1 t18 h) (fun Kn1 e h hk => by
  have F := Ag.nil (e := e)
  have ⟨t18, F, hk⟩ := eI F hk
  exact ⟨t18, F, hk⟩)
  (fun Kn1 => []) (fun Kn1 => [])
  (fun Kn1 => trivial)
  (fun Kn1 => trivial) (fun e s h Kn1 => by as_aux_lemma => kernel_rfl)⟩, trivial⟩ (by as_aux_lemma => kernel_rfl) hk
/-! ### intrusion/intrusionlaw48.FlowvarsConditions -/
def law48_FlowvarsConditions_b4 (dir_1 : Int) (conditions_2a : Option Addr) (conditions_2n conditions_2c : Nat) (v_7 : Option Addr) (all_9 : Bool) (Q : QT) (h : Heap) : Prop :=
 CallT Try.prog fn_flowvars_Vars_Holds #[.pointer v_7, .int .i64 dir_1, .slice conditions_2a conditions_2n conditions_2c] h fun v h8 => ∃ t68 : Bool, v = .bool t68 ∧ if (t68 == all_9) = true then (CallT Try.prog fn_law48_awake #[] h8 fun v h9 => ∃ t72 : Bool, v = .bool t72 ∧ Q (.bool t72) h9) else (Q (.bool false) h8)
def law48_FlowvarsConditions_l3 (dir_1 : Int) (conditions_2a : Option Addr) (conditions_2n conditions_2c : Nat) (v_7 : Option Addr) (t41 : Int) (Q : QT) (all_9 : Bool) (t42 : Int) (h : Heap) (Kn3 : Bool × Int → Heap → Prop) : Prop :=
 if (decide (t42 < t41)) = true then (idxA t42 conditions_2n (nn conditions_2a fun t47 => ldS h (Addr.add (Addr.add t47 ((t42).toNat * 2)) 1) fun t49 => if (decide (((t49.size : Nat) : Int) > 200)) = true then (CallT Try.prog fn_law48_awake #[] h fun v h6 => ∃ t52 : Bool, v = .bool t52 ∧ Q (.bool t52) h6) else (if all_9 = true then (sliceSl 2 conditions_2a conditions_2n conditions_2c (some t42) (some (wrap .i64 (t42 + 1))) none fun t61a t61n t61c => CallT Try.prog fn_flowvars_Vars_Holds #[.pointer v_7, .int .i64 dir_1, .slice t61a t61n t61c] h fun v h7 => ∃ t62 : Bool, v = .bool t62 ∧ Kn3 (t62, wrap .i64 (t42 + 1)) h7) else (Kn3 (false, wrap .i64 (t42 + 1)) h)))) else (law48_FlowvarsConditions_b4 dir_1 conditions_2a conditions_2n conditions_2c v_7 all_9 Q h)
def law48_FlowvarsConditions_b2 (dir_1 : Int) (conditions_2a : Option Addr) (conditions_2n conditions_2c : Nat) (v_7 : Option Addr) (Q : QT) (h : Heap) : Prop :=
 LoopV (fun (s : Bool × Int) h Kn => law48_FlowvarsConditions_l3 dir_1 conditions_2a conditions_2n conditions_2c v_7 ((conditions_2n : Nat) : Int) Q s.1 s.2 h Kn) (true, 0) h
def law48_FlowvarsConditions_l1 (l_0a : Option Addr) (l_0n l_0c : Nat) (dir_1 : Int) (conditions_2a : Option Addr) (conditions_2n conditions_2c : Nat) (v_7 : Option Addr) (t23 : Int) (Q : QT) (t24 : Int) (h : Heap) (Kn1 : Int → Heap → Prop) : Prop :=
 if (decide (t24 < t23)) = true then (idxA t24 l_0n (nn l_0a fun t30 => ldI h (Addr.add (Addr.add t30 ((t24).toNat * 3)) 1) .i64 fun t32 => idxA t24 l_0n (nn l_0a fun t35 => ldL h (Addr.add (Addr.add t35 ((t24).toNat * 3)) 2) fun t37a t37n t37c => CallT Try.prog fn_flowvars_Vars_Do #[.pointer v_7, .int .i64 t32, .slice t37a t37n t37c] h fun v h5 => ∃ t38 : Int, v = .int .i64 t38 ∧ Kn1 (wrap .i64 (t24 + 1)) h5))) else (law48_FlowvarsConditions_b2 dir_1 conditions_2a conditions_2n conditions_2c v_7 Q h)
def law48_FlowvarsConditions_v (l_0a : Option Addr) (l_0n l_0c : Nat) (dir_1 : Int) (conditions_2a : Option Addr) (conditions_2n conditions_2c : Nat) (Q : QT) (h : Heap) : Prop :=
 CallT Try.prog fn_flowvars_New #[] h fun v h1 => ∃ t11 : Option Addr, v = .pointer t11 ∧ if (Option.isNone t11) = true then (Q (.bool false) h1) else (CallT Try.prog fn_law48_large #[.slice l_0a l_0n l_0c] h1 fun v h2 => ∃ t15 : Bool, v = .bool t15 ∧ if t15 = true then (CallT Try.prog fn_law48_awake #[] h2 fun v h3 => ∃ t21 : Bool, v = .bool t21 ∧ Q (.bool t21) h3) else (if (decide (((conditions_2n : Nat) : Int) > 40)) = true then (CallT Try.prog fn_law48_awake #[] h2 fun v h4 => ∃ t21 : Bool, v = .bool t21 ∧ Q (.bool t21) h4) else (LoopV (fun (s : Int) h Kn => law48_FlowvarsConditions_l1 l_0a l_0n l_0c dir_1 conditions_2a conditions_2n conditions_2c t11 ((l_0n : Nat) : Int) Q s h Kn) 0 h2)))
set_option maxRecDepth 100000 in
theorem law48_FlowvarsConditions_s (l_0a : Option Addr) (l_0n l_0c : Nat) (dir_1 : Int) (conditions_2a : Option Addr) (conditions_2n conditions_2c : Nat) {Q : QT} {h : Heap} (hk : law48_FlowvarsConditions_v l_0a l_0n l_0c dir_1 conditions_2a conditions_2n conditions_2c Q h) : CallT Try.prog fn_law48_FlowvarsConditions #[.slice l_0a l_0n l_0c, .int .i64 dir_1, .slice conditions_2a conditions_2n conditions_2c] h Q :=
 callU follows Try.func4 (Try.call4 _) rfl rfl [(24, fun e h => dI .i64 (e 1) fun dir_1 => dL (e 2) fun conditions_2a conditions_2n conditions_2c => dP (e 7) fun v_7 => law48_FlowvarsConditions_b2 dir_1 conditions_2a conditions_2n conditions_2c v_7 Q h), (40, fun e h => dI .i64 (e 1) fun dir_1 => dL (e 2) fun conditions_2a conditions_2n conditions_2c => dP (e 7) fun v_7 => dB (e 9) fun all_9 => law48_FlowvarsConditions_b4 dir_1 conditions_2a conditions_2n conditions_2c v_7 all_9 Q h)] [(16, fun e h => dL (e 0) fun l_0a l_0n l_0c => dI .i64 (e 1) fun dir_1 => dL (e 2) fun conditions_2a conditions_2n conditions_2c => dP (e 7) fun v_7 => dI .i64 (e 23) fun t23 => dI .i64 (e 24) fun t24 => LoopV (fun (s : Int) h Kn => law48_FlowvarsConditions_l1 l_0a l_0n l_0c dir_1 conditions_2a conditions_2n conditions_2c v_7 t23 Q s h Kn) t24 h), (28, fun e h => dI .i64 (e 1) fun dir_1 => dL (e 2) fun conditions_2a conditions_2n conditions_2c => dP (e 7) fun v_7 => dI .i64 (e 41) fun t41 => dB (e 9) fun all_9 => dI .i64 (e 42) fun t42 => LoopV (fun (s : Bool × Int) h Kn => law48_FlowvarsConditions_l3 dir_1 conditions_2a conditions_2n conditions_2c v_7 t41 Q s.1 s.2 h Kn) (all_9, t42) h)]
 ⟨fun e h _ hk => by
 have F := Ag.nil (e := e)
 have ⟨dir_1, F, hk⟩ := eI F hk
 have ⟨conditions_2a, conditions_2n, conditions_2c, F, hk⟩ := eL F hk
 have ⟨v_7, F, hk⟩ := eP F hk
 exact cutU F (by as_aux_lemma => kernel_rfl) hk, fun e h _ hk => by
 have F := Ag.nil (e := e)
 have ⟨dir_1, F, hk⟩ := eI F hk
 have ⟨conditions_2a, conditions_2n, conditions_2c, F, hk⟩ := eL F hk
 have ⟨v_7, F, hk⟩ := eP F hk
 have ⟨all_9, F, hk⟩ := eB F hk
 exact cutU F (by as_aux_lemma => kernel_rfl) hk, trivial⟩
 ⟨⟨by kernel_rfl, fun e h he hk => by
 have F := Ag.nil (e := e)
 have ⟨l_0a, l_0n, l_0c, F, hk⟩ := eL F hk
 have ⟨dir_1, F, hk⟩ := eI F hk
 have ⟨conditions_2a, conditions_2n, conditions_2c, F, hk⟩ := eL F hk
 have ⟨v_7, F, hk⟩ := eP F hk
 have ⟨t23, F, hk⟩ := eI F hk
 have ⟨t24, F, hk⟩ := eI F hk
 exact loopU (s0 := t24) follows (fun _ h => by cases h) he F (fun s => [(24, .int .i64 s)]) (by kernel_rfl) (F.take 1) hk (fun Kn1 e h => dI .i64 (e 24) fun t24 => Kn1 t24 h) (fun Kn1 e h hk => by
  have F := Ag.nil (e := e)
  have ⟨t24, F, hk⟩ := eI F hk
  exact ⟨t24, F, hk⟩)
  (fun Kn1 => []) (fun Kn1 => [])
  (fun Kn1 => trivial)
  (fun Kn1 => trivial) (fun e s h Kn1 => by as_aux_lemma => kernel_rfl)⟩, ⟨by kernel_rfl, fun e h he hk => by
 have F := Ag.nil (e := e)
 have ⟨dir_1, F, hk⟩ := eI F hk
 have ⟨conditions_2a, conditions_2n, conditions_2c, F, hk⟩ := eL F hk
 have ⟨v_7, F, hk⟩ := eP F hk
 have ⟨t41, F, hk⟩ := eI F hk
 have ⟨all_9, F, hk⟩ := eB F hk
 have ⟨t42, F, hk⟩ := eI F hk
 exact loopU (s0 := (all_9, t42)) follows (fun _ h => by cases h) he F (fun s => [(42, .int .i64 s.2), (9, .bool s.1)]) (by kernel_rfl) (F.take 2) hk (fun Kn3 e h => dB (e 9) fun all_9 => dI .i64 (e 42) fun t42 => Kn3 (all_9, t42) h) (fun Kn3 e h hk => by
  have F := Ag.nil (e := e)
  have ⟨all_9, F, hk⟩ := eB F hk
  have ⟨t42, F, hk⟩ := eI F hk
  exact ⟨(all_9, t42), F, hk⟩)
  (fun Kn3 => []) (fun Kn3 => [])
  (fun Kn3 => trivial)
  (fun Kn3 => trivial) (fun e s h Kn3 => by as_aux_lemma => kernel_rfl)⟩, trivial⟩ (by as_aux_lemma => kernel_rfl) hk
/-! ### intrusion/intrusionlaw48.FlowvarsCalls -/
def law48_FlowvarsCalls_b2 (l_0a : Option Addr) (l_0n l_0c : Nat) (v_3 w_4 : Option Addr) (c_6 : Addr) (t15 t16 : Int) (Q : QT) (Kn1 : Int → Heap → Prop) (h : Heap) : Prop :=
 ldI h (Addr.add c_6 1) .i64 fun t63 => ldI h (Addr.add c_6 1) .i64 fun t67 => CallT Try.prog fn_flowvars_Vars_Names #[.pointer v_3, .int .i64 t63] h fun v h13 => ∃ t64a : Option Addr, ∃ t64n : Nat, ∃ t64c : Nat, v = .slice t64a t64n t64c ∧ (ldI h13 (Addr.add c_6 1) .i64 fun t967 => (.int .i64 t967 : Value) = .int .i64 t67) ∧ CallT Try.prog fn_ref48_Vars_Names #[.pointer w_4, .int .i64 t67] h13 fun v h14 => ∃ t68a : Option Addr, ∃ t68n : Nat, ∃ t68c : Nat, v = .slice t68a t68n t68c ∧ CallT Try.prog fn_law48_same #[.slice t64a t64n t64c, .slice t68a t68n t68c] h14 fun v h15 => ∃ t69 : Bool, v = .bool t69 ∧ if (!t69) = true then (Q (.bool false) h15) else (CallT Try.prog fn_flowvars_Vars_Names #[.pointer v_3, .int .i64 1] h15 fun v h16 => ∃ t73a : Option Addr, ∃ t73n : Nat, ∃ t73c : Nat, v = .slice t73a t73n t73c ∧ CallT Try.prog fn_ref48_Vars_Names #[.pointer w_4, .int .i64 1] h16 fun v h17 => ∃ t75a : Option Addr, ∃ t75n : Nat, ∃ t75c : Nat, v = .slice t75a t75n t75c ∧ CallT Try.prog fn_law48_same #[.slice t73a t73n t73c, .slice t75a t75n t75c] h17 fun v h18 => ∃ t76 : Bool, v = .bool t76 ∧ if (!t76) = true then (Q (.bool false) h18) else (CallT Try.prog fn_flowvars_Vars_Names #[.pointer v_3, .int .i64 2] h18 fun v h19 => ∃ t81a : Option Addr, ∃ t81n : Nat, ∃ t81c : Nat, v = .slice t81a t81n t81c ∧ CallT Try.prog fn_ref48_Vars_Names #[.pointer w_4, .int .i64 2] h19 fun v h20 => ∃ t83a : Option Addr, ∃ t83n : Nat, ∃ t83c : Nat, v = .slice t83a t83n t83c ∧ CallT Try.prog fn_law48_same #[.slice t81a t81n t81c, .slice t83a t83n t83c] h20 fun v h21 => ∃ t84 : Bool, v = .bool t84 ∧ if (!t84) = true then (Q (.bool false) h21) else (Kn1 (wrap .i64 (t16 + 1)) h21)))
def law48_FlowvarsCalls_b3 (Q : QT) (h : Heap) : Prop :=
 CallT Try.prog fn_law48_awake #[] h fun v h22 => ∃ t88 : Bool, v = .bool t88 ∧ Q (.bool t88) h22
def law48_FlowvarsCalls_l1 (l_0a : Option Addr) (l_0n l_0c : Nat) (v_3 w_4 : Option Addr) (t15 : Int) (Q : QT) (t16 : Int) (h : Heap) (Kn1 : Int → Heap → Prop) : Prop :=
 if (decide (t16 < t15)) = true then (idxA t16 l_0n (nn l_0a fun t21 => ldI h (Addr.add t21 ((t16).toNat * 3)) .i64 fun t22_0 => ldI h (Addr.add (Addr.add t21 ((t16).toNat * 3)) 1) .i64 fun t22_1 => ldL h (Addr.add (Addr.add t21 ((t16).toNat * 3)) 2) fun t22_2a t22_2n t22_2c => alV h (.cells #[.int .i64 0, .int .i64 0, .slice none 0 0] T_intrusionlaw48_Call) fun t6 h5 => stN h5 t6 [.int .i64 t22_0, .int .i64 t22_1, .slice t22_2a t22_2n t22_2c] 0 fun h6 => ldI h6 t6 .i64 fun t24 => if (t24 == 0) = true then (ldI h6 (Addr.add t6 1) .i64 fun t29 => ldL h6 (Addr.add t6 2) fun t31a t31n t31c => ldI h6 (Addr.add t6 1) .i64 fun t35 => ldL h6 (Addr.add t6 2) fun t37a t37n t37c => CallT Try.prog fn_flowvars_Vars_Do #[.pointer v_3, .int .i64 t29, .slice t31a t31n t31c] h6 fun v h7 => ∃ t32 : Int, v = .int .i64 t32 ∧ (ldI h7 (Addr.add t6 1) .i64 fun t935 => (.int .i64 t935 : Value) = .int .i64 t35) ∧ (ldL h7 (Addr.add t6 2) fun t937a t937n t937c => (.slice t937a t937n t937c : Value) = .slice t37a t37n t37c) ∧ CallT Try.prog fn_ref48_Vars_Do #[.pointer w_4, .int .i64 t35, .slice t37a t37n t37c] h7 fun v h8 => ∃ t38 : Int, v = .int .i64 t38 ∧ if (t32 != t38) = true then (Q (.bool false) h8) else (law48_FlowvarsCalls_b2 l_0a l_0n l_0c v_3 w_4 t6 t15 t16 Q Kn1 h8)) else (if (t24 == 1) = true then (ldI h6 (Addr.add t6 1) .i64 fun t44 => ldL h6 (Addr.add t6 2) fun t46a t46n t46c => ldI h6 (Addr.add t6 1) .i64 fun t50 => ldL h6 (Addr.add t6 2) fun t52a t52n t52c => CallT Try.prog fn_flowvars_Vars_Holds #[.pointer v_3, .int .i64 t44, .slice t46a t46n t46c] h6 fun v h9 => ∃ t47 : Bool, v = .bool t47 ∧ (ldI h9 (Addr.add t6 1) .i64 fun t950 => (.int .i64 t950 : Value) = .int .i64 t50) ∧ (ldL h9 (Addr.add t6 2) fun t952a t952n t952c => (.slice t952a t952n t952c : Value) = .slice t52a t52n t52c) ∧ CallT Try.prog fn_ref48_Vars_Holds #[.pointer w_4, .int .i64 t50, .slice t52a t52n t52c] h9 fun v h10 => ∃ t53 : Bool, v = .bool t53 ∧ if (!(t47 == t53)) = true then (Q (.bool false) h10) else (law48_FlowvarsCalls_b2 l_0a l_0n l_0c v_3 w_4 t6 t15 t16 Q Kn1 h10)) else (if (t24 == 2) = true then (CallT Try.prog fn_flowvars_Vars_Clear #[.pointer v_3] h6 fun v h11 => v = .tuple #[] ∧ CallT Try.prog fn_ref48_Vars_Clear #[.pointer w_4] h11 fun v h12 => v = .tuple #[] ∧ law48_FlowvarsCalls_b2 l_0a l_0n l_0c v_3 w_4 t6 t15 t16 Q Kn1 h12) else (law48_FlowvarsCalls_b2 l_0a l_0n l_0c v_3 w_4 t6 t15 t16 Q Kn1 h6))))) else (law48_FlowvarsCalls_b3 Q h)
def law48_FlowvarsCalls_v (l_0a : Option Addr) (l_0n l_0c : Nat) (Q : QT) (h : Heap) : Prop :=
 CallT Try.prog fn_law48_large #[.slice l_0a l_0n l_0c] h fun v h1 => ∃ t8 : Bool, v = .bool t8 ∧ if t8 = true then (CallT Try.prog fn_law48_awake #[] h1 fun v h2 => ∃ t9 : Bool, v = .bool t9 ∧ Q (.bool t9) h2) else (CallT Try.prog fn_flowvars_New #[] h1 fun v h3 => ∃ t10 : Option Addr, v = .pointer t10 ∧ CallT Try.prog fn_ref48_New #[] h3 fun v h4 => ∃ t11 : Option Addr, v = .pointer t11 ∧ if (Option.isNone t10) = true then (Q (.bool false) h4) else (LoopV (fun (s : Int) h Kn => law48_FlowvarsCalls_l1 l_0a l_0n l_0c t10 t11 ((l_0n : Nat) : Int) Q s h Kn) 0 h4))
set_option maxRecDepth 100000 in
theorem law48_FlowvarsCalls_s (l_0a : Option Addr) (l_0n l_0c : Nat) {Q : QT} {h : Heap} (hk : law48_FlowvarsCalls_v l_0a l_0n l_0c Q h) : CallT Try.prog fn_law48_FlowvarsCalls #[.slice l_0a l_0n l_0c] h Q :=
 callU follows Try.func5 (Try.call5 _) rfl rfl [(48, fun e h => law48_FlowvarsCalls_b3 Q h)] [(16, fun e h => dL (e 0) fun l_0a l_0n l_0c => dP (e 3) fun v_3 => dP (e 4) fun w_4 => dI .i64 (e 15) fun t15 => dI .i64 (e 16) fun t16 => LoopV (fun (s : Int) h Kn => law48_FlowvarsCalls_l1 l_0a l_0n l_0c v_3 w_4 t15 Q s h Kn) t16 h)]
 ⟨fun e h _ hk => by
 have F := Ag.nil (e := e)
 exact cutU F (by as_aux_lemma => kernel_rfl) hk, trivial⟩
 ⟨⟨by kernel_rfl, fun e h he hk => by
 have F := Ag.nil (e := e)
 have ⟨l_0a, l_0n, l_0c, F, hk⟩ := eL F hk
 have ⟨v_3, F, hk⟩ := eP F hk
 have ⟨w_4, F, hk⟩ := eP F hk
 have ⟨t15, F, hk⟩ := eI F hk
 have ⟨t16, F, hk⟩ := eI F hk
 exact loopU (s0 := t16) follows (fun _ h => by cases h) he F (fun s => [(16, .int .i64 s)]) (by kernel_rfl) (F.take 1) hk (fun Kn1 e h => dI .i64 (e 16) fun t16 => Kn1 t16 h) (fun Kn1 e h hk => by
  have F := Ag.nil (e := e)
  have ⟨t16, F, hk⟩ := eI F hk
  exact ⟨t16, F, hk⟩)
  (fun Kn1 => [(42, fun e h => dL (e 0) fun l_0a l_0n l_0c => dP (e 3) fun v_3 => dP (e 4) fun w_4 => dA (e 6) fun c_6 => dI .i64 (e 15) fun t15 => dI .i64 (e 16) fun t16 => law48_FlowvarsCalls_b2 l_0a l_0n l_0c v_3 w_4 c_6 t15 t16 Q Kn1 h)]) (fun Kn1 => [])
  (fun Kn1 => ⟨fun e h _ hk => by
 have F := Ag.nil (e := e)
 have ⟨l_0a, l_0n, l_0c, F, hk⟩ := eL F hk
 have ⟨v_3, F, hk⟩ := eP F hk
 have ⟨w_4, F, hk⟩ := eP F hk
 have ⟨c_6, F, hk⟩ := eA F hk
 have ⟨t15, F, hk⟩ := eI F hk
 have ⟨t16, F, hk⟩ := eI F hk
 exact cutU F (by as_aux_lemma => kernel_rfl) hk, trivial⟩)
  (fun Kn1 => trivial) (fun e s h Kn1 => by as_aux_lemma => kernel_rfl)⟩, trivial⟩ (by as_aux_lemma => kernel_rfl) hk
/-! ### intrusion/intrusionlaw48.FlowvarsOrders -/
def law48_FlowvarsOrders_l2 (l_0a : Option Addr) (l_0n l_0c : Nat) (dir_1 : Int) (name_2 : ByteArray) (v_7 : Option Addr) (c_10 : Addr) (t27 t28 t55 : Int) (Q : QT) (Kn1 : Bool × Int → Heap → Prop) (set_8 : Bool) (t56 : Int) (h : Heap) (Kn2 : Bool × Int → Heap → Prop) : Prop :=
 if (decide (t56 < t55)) = true then (ldL h (Addr.add c_10 2) fun t60a t60n t60c => idxA t56 t60n (nn t60a fun t62 => ldS h (Addr.add (Addr.add t62 ((t56).toNat * 2)) 1) fun t64 => if (t64.toList == name_2.toList) = true then (ldL h (Addr.add c_10 2) fun t69a t69n t69c => idxA t56 t69n (nn t69a fun t71 => ldI h (Addr.add t71 ((t56).toNat * 2)) .i64 fun t73 => if (t73 == 1) = true then (ldL h (Addr.add c_10 2) fun t86a t86n t86c => idxA t56 t86n (nn t86a fun t88 => ldI h (Addr.add t88 ((t56).toNat * 2)) .i64 fun t90 => Kn2 ((t90 == 1), wrap .i64 (t56 + 1)) h)) else (ldL h (Addr.add c_10 2) fun t77a t77n t77c => idxA t56 t77n (nn t77a fun t79 => ldI h (Addr.add t79 ((t56).toNat * 2)) .i64 fun t81 => if (t81 == 2) = true then (ldL h (Addr.add c_10 2) fun t86a t86n t86c => idxA t56 t86n (nn t86a fun t88 => ldI h (Addr.add t88 ((t56).toNat * 2)) .i64 fun t90 => Kn2 ((t90 == 1), wrap .i64 (t56 + 1)) h)) else (Kn2 (set_8, wrap .i64 (t56 + 1)) h))))) else (Kn2 (set_8, wrap .i64 (t56 + 1)) h))) else (Kn1 (set_8, wrap .i64 (t28 + 1)) h)
def law48_FlowvarsOrders_b6 (dir_1 : Int) (name_2 : ByteArray) (v_7 : Option Addr) (set_8 : Bool) (names_12a : Option Addr) (names_12n names_12c : Nat) (found_13 : Bool) (i_14 t98 t99 : Int) (Q : QT) (Kn4 : Bool × Int → Heap → Prop) (h : Heap) : Prop :=
 if (decide (i_14 > 0)) = true then (idxA i_14 names_12n (nn names_12a fun t116 => ldS h (Addr.add t116 ((i_14).toNat * 1)) fun t117 => idxA (wrap .i64 (i_14 - 1)) names_12n (nn names_12a fun t121 => ldS h (Addr.add t121 (((wrap .i64 (i_14 - 1))).toNat * 1)) fun t122 => if (Op.bytesLess t117.toList t122.toList || (t117.toList == t122.toList)) = true then (Q (.bool false) h) else (idxA i_14 names_12n (nn names_12a fun t128 => ldS h (Addr.add t128 ((i_14).toNat * 1)) fun t129 => CallT Try.prog fn_lexer_IsName #[.string t129] h fun v h10 => ∃ t130 : Bool, v = .bool t130 ∧ if (!t130) = true then (Q (.bool false) h10) else (Kn4 (found_13, wrap .i64 (t99 + 1)) h10)))))) else (idxA i_14 names_12n (nn names_12a fun t128 => ldS h (Addr.add t128 ((i_14).toNat * 1)) fun t129 => CallT Try.prog fn_lexer_IsName #[.string t129] h fun v h11 => ∃ t130 : Bool, v = .bool t130 ∧ if (!t130) = true then (Q (.bool false) h11) else (Kn4 (found_13, wrap .i64 (t99 + 1)) h11)))
def law48_FlowvarsOrders_b5 (dir_1 : Int) (name_2 : ByteArray) (v_7 : Option Addr) (set_8 : Bool) (names_12a : Option Addr) (names_12n names_12c : Nat) (found_13 : Bool) (Q : QT) (h : Heap) : Prop :=
 if (!(found_13 == set_8)) = true then (Q (.bool false) h) else (alV h (.cells #[.int .i64 3, .string name_2] T_api_FlowOp) fun t142 h12 => CallT Try.prog fn_flowvars_Vars_Holds #[.pointer v_7, .int .i64 dir_1, .slice (some t142) 1 1] h12 fun v h13 => ∃ t143 : Bool, v = .bool t143 ∧ if (!(t143 == set_8)) = true then (Q (.bool false) h13) else (alV h13 (.cells #[.int .i64 4, .string name_2] T_api_FlowOp) fun t152 h14 => CallT Try.prog fn_flowvars_Vars_Holds #[.pointer v_7, .int .i64 dir_1, .slice (some t152) 1 1] h14 fun v h15 => ∃ t153 : Bool, v = .bool t153 ∧ if (t153 == set_8) = true then (Q (.bool false) h15) else (if (decide (((names_12n : Nat) : Int) ≤ 32)) = true then (CallT Try.prog fn_law48_awake #[] h15 fun v h16 => ∃ t161 : Bool, v = .bool t161 ∧ Q (.bool t161) h16) else (Q (.bool false) h15))))
def law48_FlowvarsOrders_l4 (dir_1 : Int) (name_2 : ByteArray) (v_7 : Option Addr) (set_8 : Bool) (names_12a : Option Addr) (names_12n names_12c : Nat) (t98 : Int) (Q : QT) (found_13 : Bool) (t99 : Int) (h : Heap) (Kn4 : Bool × Int → Heap → Prop) : Prop :=
 if (decide (t99 < t98)) = true then (if found_13 = true then (law48_FlowvarsOrders_b6 dir_1 name_2 v_7 set_8 names_12a names_12n names_12c true t99 t98 t99 Q Kn4 h) else (idxA t99 names_12n (nn names_12a fun t106 => ldS h (Addr.add t106 ((t99).toNat * 1)) fun t107 => law48_FlowvarsOrders_b6 dir_1 name_2 v_7 set_8 names_12a names_12n names_12c (t107.toList == name_2.toList) t99 t98 t99 Q Kn4 h))) else (law48_FlowvarsOrders_b5 dir_1 name_2 v_7 set_8 names_12a names_12n names_12c found_13 Q h)
def law48_FlowvarsOrders_b3 (dir_1 : Int) (name_2 : ByteArray) (v_7 : Option Addr) (set_8 : Bool) (Q : QT) (h : Heap) : Prop :=
 CallT Try.prog fn_flowvars_Vars_Names #[.pointer v_7, .int .i64 dir_1] h fun v h9 => ∃ t96a : Option Addr, ∃ t96n : Nat, ∃ t96c : Nat, v = .slice t96a t96n t96c ∧ LoopV (fun (s : Bool × Int) h Kn => law48_FlowvarsOrders_l4 dir_1 name_2 v_7 set_8 t96a t96n t96c ((t96n : Nat) : Int) Q s.1 s.2 h Kn) (false, 0) h9
def law48_FlowvarsOrders_l1 (l_0a : Option Addr) (l_0n l_0c : Nat) (dir_1 : Int) (name_2 : ByteArray) (v_7 : Option Addr) (t27 : Int) (Q : QT) (set_8 : Bool) (t28 : Int) (h : Heap) (Kn1 : Bool × Int → Heap → Prop) : Prop :=
 if (decide (t28 < t27)) = true then (idxA t28 l_0n (nn l_0a fun t33 => ldI h (Addr.add t33 ((t28).toNat * 3)) .i64 fun t34_0 => ldI h (Addr.add (Addr.add t33 ((t28).toNat * 3)) 1) .i64 fun t34_1 => ldL h (Addr.add (Addr.add t33 ((t28).toNat * 3)) 2) fun t34_2a t34_2n t34_2c => alV h (.cells #[.int .i64 0, .int .i64 0, .slice none 0 0] T_intrusionlaw48_Call) fun t10 h5 => stN h5 t10 [.int .i64 t34_0, .int .i64 t34_1, .slice t34_2a t34_2n t34_2c] 0 fun h6 => ldI h6 t10 .i64 fun t36 => if (t36 == 2) = true then (CallT Try.prog fn_flowvars_Vars_Clear #[.pointer v_7] h6 fun v h7 => v = .tuple #[] ∧ Kn1 (false, wrap .i64 (t28 + 1)) h7) else (ldI h6 (Addr.add t10 1) .i64 fun t42 => ldL h6 (Addr.add t10 2) fun t44a t44n t44c => CallT Try.prog fn_flowvars_Vars_Do #[.pointer v_7, .int .i64 t42, .slice t44a t44n t44c] h6 fun v h8 => ∃ t45 : Int, v = .int .i64 t45 ∧ if (t45 != 0) = true then (Kn1 (set_8, wrap .i64 (t28 + 1)) h8) else (ldI h8 (Addr.add t10 1) .i64 fun t49 => if (t49 != dir_1) = true then (Kn1 (set_8, wrap .i64 (t28 + 1)) h8) else (ldL h8 (Addr.add t10 2) fun t54a t54n t54c => LoopV (fun (s : Bool × Int) h Kn => law48_FlowvarsOrders_l2 l_0a l_0n l_0c dir_1 name_2 v_7 t10 t27 t28 ((t54n : Nat) : Int) Q Kn1 s.1 s.2 h Kn) (set_8, 0) h8))))) else (law48_FlowvarsOrders_b3 dir_1 name_2 v_7 set_8 Q h)
def law48_FlowvarsOrders_v (l_0a : Option Addr) (l_0n l_0c : Nat) (dir_1 : Int) (name_2 : ByteArray) (Q : QT) (h : Heap) : Prop :=
 CallT Try.prog fn_flowvars_New #[] h fun v h1 => ∃ t15 : Option Addr, v = .pointer t15 ∧ if (Option.isNone t15) = true then (Q (.bool false) h1) else (CallT Try.prog fn_law48_large #[.slice l_0a l_0n l_0c] h1 fun v h2 => ∃ t19 : Bool, v = .bool t19 ∧ if t19 = true then (CallT Try.prog fn_law48_awake #[] h2 fun v h3 => ∃ t25 : Bool, v = .bool t25 ∧ Q (.bool t25) h3) else (if (decide (((name_2.size : Nat) : Int) > 200)) = true then (CallT Try.prog fn_law48_awake #[] h2 fun v h4 => ∃ t25 : Bool, v = .bool t25 ∧ Q (.bool t25) h4) else (LoopV (fun (s : Bool × Int) h Kn => law48_FlowvarsOrders_l1 l_0a l_0n l_0c dir_1 name_2 t15 ((l_0n : Nat) : Int) Q s.1 s.2 h Kn) (false, 0) h2)))
set_option maxRecDepth 100000 in
theorem law48_FlowvarsOrders_s (l_0a : Option Addr) (l_0n l_0c : Nat) (dir_1 : Int) (name_2 : ByteArray) {Q : QT} {h : Heap} (hk : law48_FlowvarsOrders_v l_0a l_0n l_0c dir_1 name_2 Q h) : CallT Try.prog fn_law48_FlowvarsOrders #[.slice l_0a l_0n l_0c, .int .i64 dir_1, .string name_2] h Q :=
 callU follows Try.func6 (Try.call6 _) rfl rfl [(46, fun e h => dI .i64 (e 1) fun dir_1 => dS (e 2) fun name_2 => dP (e 7) fun v_7 => dB (e 8) fun set_8 => law48_FlowvarsOrders_b3 dir_1 name_2 v_7 set_8 Q h), (64, fun e h => dI .i64 (e 1) fun dir_1 => dS (e 2) fun name_2 => dP (e 7) fun v_7 => dB (e 8) fun set_8 => dL (e 12) fun names_12a names_12n names_12c => dB (e 13) fun found_13 => law48_FlowvarsOrders_b5 dir_1 name_2 v_7 set_8 names_12a names_12n names_12c found_13 Q h)] [(18, fun e h => dL (e 0) fun l_0a l_0n l_0c => dI .i64 (e 1) fun dir_1 => dS (e 2) fun name_2 => dP (e 7) fun v_7 => dI .i64 (e 27) fun t27 => dB (e 8) fun set_8 => dI .i64 (e 28) fun t28 => LoopV (fun (s : Bool × Int) h Kn => law48_FlowvarsOrders_l1 l_0a l_0n l_0c dir_1 name_2 v_7 t27 Q s.1 s.2 h Kn) (set_8, t28) h), (52, fun e h => dI .i64 (e 1) fun dir_1 => dS (e 2) fun name_2 => dP (e 7) fun v_7 => dB (e 8) fun set_8 => dL (e 12) fun names_12a names_12n names_12c => dI .i64 (e 98) fun t98 => dB (e 13) fun found_13 => dI .i64 (e 99) fun t99 => LoopV (fun (s : Bool × Int) h Kn => law48_FlowvarsOrders_l4 dir_1 name_2 v_7 set_8 names_12a names_12n names_12c t98 Q s.1 s.2 h Kn) (found_13, t99) h)]
 ⟨fun e h _ hk => by
 have F := Ag.nil (e := e)
 have ⟨dir_1, F, hk⟩ := eI F hk
 have ⟨name_2, F, hk⟩ := eS F hk
 have ⟨v_7, F, hk⟩ := eP F hk
 have ⟨set_8, F, hk⟩ := eB F hk
 exact cutU F (by as_aux_lemma => kernel_rfl) hk, fun e h _ hk => by
 have F := Ag.nil (e := e)
 have ⟨dir_1, F, hk⟩ := eI F hk
 have ⟨name_2, F, hk⟩ := eS F hk
 have ⟨v_7, F, hk⟩ := eP F hk
 have ⟨set_8, F, hk⟩ := eB F hk
 have ⟨names_12a, names_12n, names_12c, F, hk⟩ := eL F hk
 have ⟨found_13, F, hk⟩ := eB F hk
 exact cutU F (by as_aux_lemma => kernel_rfl) hk, trivial⟩
 ⟨⟨by kernel_rfl, fun e h he hk => by
 have F := Ag.nil (e := e)
 have ⟨l_0a, l_0n, l_0c, F, hk⟩ := eL F hk
 have ⟨dir_1, F, hk⟩ := eI F hk
 have ⟨name_2, F, hk⟩ := eS F hk
 have ⟨v_7, F, hk⟩ := eP F hk
 have ⟨t27, F, hk⟩ := eI F hk
 have ⟨set_8, F, hk⟩ := eB F hk
 have ⟨t28, F, hk⟩ := eI F hk
 exact loopU (s0 := (set_8, t28)) follows (fun _ h => by cases h) he F (fun s => [(28, .int .i64 s.2), (8, .bool s.1)]) (by kernel_rfl) (F.take 2) hk (fun Kn1 e h => dB (e 8) fun set_8 => dI .i64 (e 28) fun t28 => Kn1 (set_8, t28) h) (fun Kn1 e h hk => by
  have F := Ag.nil (e := e)
  have ⟨set_8, F, hk⟩ := eB F hk
  have ⟨t28, F, hk⟩ := eI F hk
  exact ⟨(set_8, t28), F, hk⟩)
  (fun Kn1 => []) (fun Kn1 => [(34, fun e h => dL (e 0) fun l_0a l_0n l_0c => dI .i64 (e 1) fun dir_1 => dS (e 2) fun name_2 => dP (e 7) fun v_7 => dA (e 10) fun c_10 => dI .i64 (e 27) fun t27 => dI .i64 (e 28) fun t28 => dI .i64 (e 55) fun t55 => dB (e 8) fun set_8 => dI .i64 (e 56) fun t56 => LoopV (fun (s : Bool × Int) h Kn => law48_FlowvarsOrders_l2 l_0a l_0n l_0c dir_1 name_2 v_7 c_10 t27 t28 t55 Q Kn1 s.1 s.2 h Kn) (set_8, t56) h)])
  (fun Kn1 => trivial)
  (fun Kn1 => ⟨⟨by kernel_rfl, fun e h he hk => by
 have F := Ag.nil (e := e)
 have ⟨l_0a, l_0n, l_0c, F, hk⟩ := eL F hk
 have ⟨dir_1, F, hk⟩ := eI F hk
 have ⟨name_2, F, hk⟩ := eS F hk
 have ⟨v_7, F, hk⟩ := eP F hk
 have ⟨c_10, F, hk⟩ := eA F hk
 have ⟨t27, F, hk⟩ := eI F hk
 have ⟨t28, F, hk⟩ := eI F hk
 have ⟨t55, F, hk⟩ := eI F hk
 have ⟨set_8, F, hk⟩ := eB F hk
 have ⟨t56, F, hk⟩ := eI F hk
 exact loopU (s0 := (set_8, t56)) follows (keep_sub (by kernel_rfl)) he F (fun s => [(56, .int .i64 s.2), (8, .bool s.1)]) (by kernel_rfl) (F.take 2) hk (fun Kn2 e h => dB (e 8) fun set_8 => dI .i64 (e 56) fun t56 => Kn2 (set_8, t56) h) (fun Kn2 e h hk => by
  have F := Ag.nil (e := e)
  have ⟨set_8, F, hk⟩ := eB F hk
  have ⟨t56, F, hk⟩ := eI F hk
  exact ⟨(set_8, t56), F, hk⟩)
  (fun Kn2 => []) (fun Kn2 => [])
  (fun Kn2 => trivial)
  (fun Kn2 => trivial) (fun e s h Kn2 => by as_aux_lemma => kernel_rfl)⟩, trivial⟩) (fun e s h Kn1 => by as_aux_lemma => kernel_rfl)⟩, ⟨by kernel_rfl, fun e h he hk => by
 have F := Ag.nil (e := e)
 have ⟨dir_1, F, hk⟩ := eI F hk
 have ⟨name_2, F, hk⟩ := eS F hk
 have ⟨v_7, F, hk⟩ := eP F hk
 have ⟨set_8, F, hk⟩ := eB F hk
 have ⟨names_12a, names_12n, names_12c, F, hk⟩ := eL F hk
 have ⟨t98, F, hk⟩ := eI F hk
 have ⟨found_13, F, hk⟩ := eB F hk
 have ⟨t99, F, hk⟩ := eI F hk
 exact loopU (s0 := (found_13, t99)) follows (fun _ h => by cases h) he F (fun s => [(99, .int .i64 s.2), (13, .bool s.1)]) (by kernel_rfl) (F.take 2) hk (fun Kn4 e h => dB (e 13) fun found_13 => dI .i64 (e 99) fun t99 => Kn4 (found_13, t99) h) (fun Kn4 e h hk => by
  have F := Ag.nil (e := e)
  have ⟨found_13, F, hk⟩ := eB F hk
  have ⟨t99, F, hk⟩ := eI F hk
  exact ⟨(found_13, t99), F, hk⟩)
  (fun Kn4 => [(58, fun e h => dI .i64 (e 1) fun dir_1 => dS (e 2) fun name_2 => dP (e 7) fun v_7 => dB (e 8) fun set_8 => dL (e 12) fun names_12a names_12n names_12c => dB (e 13) fun found_13 => dI .i64 (e 14) fun i_14 => dI .i64 (e 98) fun t98 => dI .i64 (e 99) fun t99 => law48_FlowvarsOrders_b6 dir_1 name_2 v_7 set_8 names_12a names_12n names_12c found_13 i_14 t98 t99 Q Kn4 h)]) (fun Kn4 => [])
  (fun Kn4 => ⟨fun e h _ hk => by
 have F := Ag.nil (e := e)
 have ⟨dir_1, F, hk⟩ := eI F hk
 have ⟨name_2, F, hk⟩ := eS F hk
 have ⟨v_7, F, hk⟩ := eP F hk
 have ⟨set_8, F, hk⟩ := eB F hk
 have ⟨names_12a, names_12n, names_12c, F, hk⟩ := eL F hk
 have ⟨found_13, F, hk⟩ := eB F hk
 have ⟨i_14, F, hk⟩ := eI F hk
 have ⟨t98, F, hk⟩ := eI F hk
 have ⟨t99, F, hk⟩ := eI F hk
 exact cutU F (by as_aux_lemma => kernel_rfl) hk, trivial⟩)
  (fun Kn4 => trivial) (fun e s h Kn4 => by as_aux_lemma => kernel_rfl)⟩, trivial⟩ (by as_aux_lemma => kernel_rfl) hk
/-! ### intrusion/intrusionlaw48.FlowvarsNone -/
def law48_FlowvarsNone_v (c_0_0 c_0_1 : Int) (c_0_2a : Option Addr) (c_0_2n c_0_2c : Nat) (Q : QT) (h : Heap) : Prop :=
 alV h (.cells #[.int .i64 c_0_0, .int .i64 c_0_1, .slice c_0_2a c_0_2n c_0_2c] T_intrusionlaw48_Call) fun t1 h1 => CallT Try.prog fn_flowvars_Vars_Clear #[.pointer none] h1 fun v h2 => v = .tuple #[] ∧ ldI h2 (Addr.add t1 1) .i64 fun t8 => ldL h2 (Addr.add t1 2) fun t10a t10n t10c => CallT Try.prog fn_flowvars_Vars_Do #[.pointer none, .int .i64 t8, .slice t10a t10n t10c] h2 fun v h3 => ∃ t11 : Int, v = .int .i64 t11 ∧ if (t11 == 6) = true then (ldI h3 (Addr.add t1 1) .i64 fun t16 => ldL h3 (Addr.add t1 2) fun t18a t18n t18c => CallT Try.prog fn_flowvars_Vars_Holds #[.pointer none, .int .i64 t16, .slice t18a t18n t18c] h3 fun v h4 => ∃ t19 : Bool, v = .bool t19 ∧ if (!t19) = true then (ldI h4 (Addr.add t1 1) .i64 fun t25 => CallT Try.prog fn_flowvars_Vars_Names #[.pointer none, .int .i64 t25] h4 fun v h5 => ∃ t26a : Option Addr, ∃ t26n : Nat, ∃ t26c : Nat, v = .slice t26a t26n t26c ∧ if (((t26n : Nat) : Int) == 0) = true then (CallT Try.prog fn_law48_awake #[] h5 fun v h6 => ∃ t31 : Bool, v = .bool t31 ∧ Q (.bool t31) h6) else (Q (.bool false) h5)) else (Q (.bool false) h4)) else (Q (.bool false) h3)
set_option maxRecDepth 100000 in
theorem law48_FlowvarsNone_s (c_0_0 c_0_1 : Int) (c_0_2a : Option Addr) (c_0_2n c_0_2c : Nat) {Q : QT} {h : Heap} (hk : law48_FlowvarsNone_v c_0_0 c_0_1 c_0_2a c_0_2n c_0_2c Q h) : CallT Try.prog fn_law48_FlowvarsNone #[.agg #[.int .i64 c_0_0, .int .i64 c_0_1, .slice c_0_2a c_0_2n c_0_2c]] h Q :=
 callU follows Try.func7 (Try.call7 _) rfl rfl [] []
 trivial
 trivial (by as_aux_lemma => kernel_rfl) hk
/-! ### intrusion/flowvars.New -/
def flowvars_New_v (Q : QT) (h : Heap) : Prop :=
 mkMapV h fun t1 h1 => mkMapV h1 fun t2 h2 => alV h2 (.cells #[.map (some t1), .map (some t2)] T_flowvars_Vars) fun t5 h3 => Q (.pointer (some t5)) h3
set_option maxRecDepth 100000 in
theorem flowvars_New_s {Q : QT} {h : Heap} (hk : flowvars_New_v Q h) : CallT Try.prog fn_flowvars_New #[] h Q :=
 callU follows Try.func8 (Try.call8 _) rfl rfl [] []
 trivial
 trivial (by as_aux_lemma => kernel_rfl) hk
/-! ### intrusion/intrusionlaw48.large -/
def law48_large_l2 (l_0a : Option Addr) (l_0n l_0c : Nat) (i_3 t27 : Int) (Q : QT) (Kn1 : Int → Heap → Prop) (t28 : Int) (h : Heap) (Kn2 : Int → Heap → Prop) : Prop :=
 if (decide (t28 < t27)) = true then (idxA i_3 l_0n (nn l_0a fun t33 => ldL h (Addr.add (Addr.add t33 ((i_3).toNat * 3)) 2) fun t35a t35n t35c => idxA t28 t35n (nn t35a fun t37 => ldS h (Addr.add (Addr.add t37 ((t28).toNat * 2)) 1) fun t39 => if (decide (((t39.size : Nat) : Int) > 200)) = true then (Q (.bool true) h) else (Kn2 (wrap .i64 (t28 + 1)) h)))) else (Kn1 (wrap .i64 (i_3 + 1)) h)
def law48_large_b3 (l_0a : Option Addr) (l_0n l_0c : Nat) (Q : QT) (h : Heap) : Prop :=
 Q (.bool (decide (((l_0n : Nat) : Int) > 60))) h
def law48_large_l1 (l_0a : Option Addr) (l_0n l_0c : Nat) (Q : QT) (i_3 : Int) (h : Heap) (Kn1 : Int → Heap → Prop) : Prop :=
 if (decide (i_3 < ((l_0n : Nat) : Int))) = true then (if (decide (i_3 < 60)) = true then (idxA i_3 l_0n (nn l_0a fun t17 => ldL h (Addr.add (Addr.add t17 ((i_3).toNat * 3)) 2) fun t19a t19n t19c => if (decide (((t19n : Nat) : Int) > 40)) = true then (Q (.bool true) h) else (idxA i_3 l_0n (nn l_0a fun t24 => ldL h (Addr.add (Addr.add t24 ((i_3).toNat * 3)) 2) fun t26a t26n t26c => LoopV (fun (s : Int) h Kn => law48_large_l2 l_0a l_0n l_0c i_3 ((t26n : Nat) : Int) Q Kn1 s h Kn) 0 h)))) else (law48_large_b3 l_0a l_0n l_0c Q h)) else (law48_large_b3 l_0a l_0n l_0c Q h)
def law48_large_v (l_0a : Option Addr) (l_0n l_0c : Nat) (Q : QT) (h : Heap) : Prop :=
 LoopV (fun (s : Int) h Kn => law48_large_l1 l_0a l_0n l_0c Q s h Kn) 0 h
set_option maxRecDepth 100000 in
theorem law48_large_s (l_0a : Option Addr) (l_0n l_0c : Nat) {Q : QT} {h : Heap} (hk : law48_large_v l_0a l_0n l_0c Q h) : CallT Try.prog fn_law48_large #[.slice l_0a l_0n l_0c] h Q :=
 callU follows Try.func9 (Try.call9 _) rfl rfl [(26, fun e h => dL (e 0) fun l_0a l_0n l_0c => law48_large_b3 l_0a l_0n l_0c Q h)] [(6, fun e h => dL (e 0) fun l_0a l_0n l_0c => dI .i64 (e 3) fun i_3 => LoopV (fun (s : Int) h Kn => law48_large_l1 l_0a l_0n l_0c Q s h Kn) i_3 h)]
 ⟨fun e h _ hk => by
 have F := Ag.nil (e := e)
 have ⟨l_0a, l_0n, l_0c, F, hk⟩ := eL F hk
 exact cutU F (by as_aux_lemma => kernel_rfl) hk, trivial⟩
 ⟨⟨by kernel_rfl, fun e h he hk => by
 have F := Ag.nil (e := e)
 have ⟨l_0a, l_0n, l_0c, F, hk⟩ := eL F hk
 have ⟨i_3, F, hk⟩ := eI F hk
 exact loopU (s0 := i_3) follows (fun _ h => by cases h) he F (fun s => [(3, .int .i64 s)]) (by kernel_rfl) (F.take 1) hk (fun Kn1 e h => dI .i64 (e 3) fun i_3 => Kn1 i_3 h) (fun Kn1 e h hk => by
  have F := Ag.nil (e := e)
  have ⟨i_3, F, hk⟩ := eI F hk
  exact ⟨i_3, F, hk⟩)
  (fun Kn1 => []) (fun Kn1 => [(16, fun e h => dL (e 0) fun l_0a l_0n l_0c => dI .i64 (e 3) fun i_3 => dI .i64 (e 27) fun t27 => dI .i64 (e 28) fun t28 => LoopV (fun (s : Int) h Kn => law48_large_l2 l_0a l_0n l_0c i_3 t27 Q Kn1 s h Kn) t28 h)])
  (fun Kn1 => trivial)
  (fun Kn1 => ⟨⟨by kernel_rfl, fun e h he hk => by
 have F := Ag.nil (e := e)
 have ⟨l_0a, l_0n, l_0c, F, hk⟩ := eL F hk
 have ⟨i_3, F, hk⟩ := eI F hk
 have ⟨t27, F, hk⟩ := eI F hk
 have ⟨t28, F, hk⟩ := eI F hk
 exact loopU (s0 := t28) follows (keep_sub (by kernel_rfl)) he F (fun s => [(28, .int .i64 s)]) (by kernel_rfl) (F.take 1) hk (fun Kn2 e h => dI .i64 (e 28) fun t28 => Kn2 t28 h) (fun Kn2 e h hk => by
  have F := Ag.nil (e := e)
  have ⟨t28, F, hk⟩ := eI F hk
  exact ⟨t28, F, hk⟩)
  (fun Kn2 => []) (fun Kn2 => [])
  (fun Kn2 => trivial)
  (fun Kn2 => trivial) (fun e s h Kn2 => by as_aux_lemma => kernel_rfl)⟩, trivial⟩) (fun e s h Kn1 => by as_aux_lemma => kernel_rfl)⟩, trivial⟩ (by as_aux_lemma => kernel_rfl) hk
/-! ### intrusion/intrusionlaw48.awake -/
def law48_awake_v (Q : QT) (h : Heap) : Prop :=
 CallT Try.prog fn_flowvars_New #[] h fun v h1 => ∃ t3 : Option Addr, v = .pointer t3 ∧ if (Option.isNone t3) = true then (Q (.bool false) h1) else (CallT Try.prog fn_flowvars_Vars_Holds #[.pointer t3, .int .i64 1, .slice none 0 0] h1 fun v h2 => ∃ t8 : Bool, v = .bool t8 ∧ if (!t8) = true then (Q (.bool false) h2) else (alV h2 (.cells #[.int .i64 1, .string (⟨#[98]⟩ : ByteArray), .int .i64 1, .string (⟨#[97]⟩ : ByteArray), .int .i64 2, .string (⟨#[98]⟩ : ByteArray)] T_api_FlowOp) fun t16 h3 => CallT Try.prog fn_flowvars_Vars_Do #[.pointer t3, .int .i64 1, .slice (some t16) 3 3] h3 fun v h4 => ∃ t17 : Int, v = .int .i64 t17 ∧ if (t17 != 0) = true then (Q (.bool false) h4) else (alV h4 (.cells #[.int .i64 1, .string (⟨#[120]⟩ : ByteArray)] T_api_FlowOp) fun t23 h5 => CallT Try.prog fn_flowvars_Vars_Do #[.pointer t3, .int .i64 2, .slice (some t23) 1 1] h5 fun v h6 => ∃ t24 : Int, v = .int .i64 t24 ∧ if (t24 != 0) = true then (Q (.bool false) h6) else (alV h6 (.cells #[.int .i64 3, .string (⟨#[120]⟩ : ByteArray)] T_api_FlowOp) fun t28 h7 => CallT Try.prog fn_flowvars_Vars_Names #[.pointer t3, .int .i64 1] h7 fun v h8 => ∃ t30a : Option Addr, ∃ t30n : Nat, ∃ t30c : Nat, v = .slice t30a t30n t30c ∧ alV h8 (.cells #[.string (⟨#[97]⟩ : ByteArray)] T_string) fun t31 h9 => CallT Try.prog fn_law48_same #[.slice t30a t30n t30c, .slice (some t31) 1 1] h9 fun v h10 => ∃ t32 : Bool, v = .bool t32 ∧ if t32 = true then (CallT Try.prog fn_flowvars_Vars_Holds #[.pointer t3, .int .i64 2, .slice (some t28) 1 1] h10 fun v h11 => ∃ t36 : Bool, v = .bool t36 ∧ if t36 = true then (CallT Try.prog fn_flowvars_Vars_Holds #[.pointer t3, .int .i64 1, .slice (some t28) 1 1] h11 fun v h12 => ∃ t41 : Bool, v = .bool t41 ∧ if (!t41) = true then (CallT Try.prog fn_flowvars_Vars_Do #[.pointer t3, .int .i64 3, .slice none 0 0] h12 fun v h13 => ∃ t46 : Int, v = .int .i64 t46 ∧ if (t46 == 4) = true then (alV h13 (.cells #[.int .i64 1, .string (⟨#[49]⟩ : ByteArray)] T_api_FlowOp) fun t52 h14 => CallT Try.prog fn_flowvars_Vars_Do #[.pointer t3, .int .i64 1, .slice (some t52) 1 1] h14 fun v h15 => ∃ t53 : Int, v = .int .i64 t53 ∧ Q (.bool (t53 == 5)) h15) else (Q (.bool false) h13)) else (Q (.bool false) h12)) else (Q (.bool false) h11)) else (Q (.bool false) h10)))))
set_option maxRecDepth 100000 in
theorem law48_awake_s {Q : QT} {h : Heap} (hk : law48_awake_v Q h) : CallT Try.prog fn_law48_awake #[] h Q :=
 callU follows Try.func10 (Try.call10 _) rfl rfl [] []
 trivial
 trivial (by as_aux_lemma => kernel_rfl) hk
/-! ### (*intrusion/flowvars.Vars).Names -/
def flowvars_Vars_Names_v (v_0 : Option Addr) (dir_1 : Int) (Q : QT) (h : Heap) : Prop :=
 if (Option.isNone v_0) = true then (Q (.slice none 0 0) h) else (CallT Try.prog fn_flowvars_right #[.int .i64 dir_1] h fun v h1 => ∃ t9 : Bool, v = .bool t9 ∧ if (!t9) = true then (Q (.slice none 0 0) h1) else (nn v_0 fun t15 => idxA (wrap .i64 (dir_1 - 1)) 2 (ldM h1 (Addr.add t15 (((wrap .i64 (dir_1 - 1))).toNat * 1)) fun t18 => CallT Try.prog fn_maps_Keys_map_string_bool_string_bool #[.map t18] h1 fun v h2 => ∃ t19 : Value, v = t19 ∧ CallT Try.prog fn_slices_Sorted_string #[t19] h2 fun v h3 => ∃ t20a : Option Addr, ∃ t20n : Nat, ∃ t20c : Nat, v = .slice t20a t20n t20c ∧ Q (.slice t20a t20n t20c) h3)))
set_option maxRecDepth 100000 in
theorem flowvars_Vars_Names_s (v_0 : Option Addr) (dir_1 : Int) {Q : QT} {h : Heap} (hk : flowvars_Vars_Names_v v_0 dir_1 Q h) : CallT Try.prog fn_flowvars_Vars_Names #[.pointer v_0, .int .i64 dir_1] h Q :=
 callU follows Try.func11 (Try.call11 _) rfl rfl [] []
 trivial
 trivial (by as_aux_lemma => kernel_rfl) hk
/-! ### (*intrusion/flowvars.Vars).Do -/
def flowvars_Vars_Do_b2 (v_0 : Option Addr) (dir_1 : Int) (set_7 : Option Nat) (Q : QT) (h : Heap) : Prop :=
 nn v_0 fun t74 => idxA (wrap .i64 (dir_1 - 1)) 2 (st1 h (Addr.add t74 (((wrap .i64 (dir_1 - 1))).toNat * 1)) (.map set_7) fun h10 => Q (.int .i64 0) h10)
def flowvars_Vars_Do_l1 (v_0 : Option Addr) (dir_1 : Int) (set_7 : Option Nat) (t25a : Option Addr) (t25n t25c : Nat) (t26 : Int) (Q : QT) (t27 : Int) (h : Heap) (Kn1 : Int → Heap → Prop) : Prop :=
 if (decide (t27 < t26)) = true then (idxA t27 t25n (nn t25a fun t29 => ldI h (Addr.add t29 ((t27).toNat * 2)) .i64 fun t30_0 => ldS h (Addr.add (Addr.add t29 ((t27).toNat * 2)) 1) fun t30_1 => alV h (.cells #[.int .i64 0, .string (⟨#[]⟩ : ByteArray)] T_api_FlowOp) fun t9 h3 => stN h3 t9 [.int .i64 t30_0, .string t30_1] 0 fun h4 => ldI h4 t9 .i64 fun t33 => if (decide (t33 < 1)) = true then (Q (.int .i64 4) h4) else (ldI h4 t9 .i64 fun t37 => if (decide (t37 > 4)) = true then (Q (.int .i64 4) h4) else (ldS h4 (Addr.add t9 1) fun t42 => CallT Try.prog fn_lexer_IsName #[.string t42] h4 fun v h5 => ∃ t43 : Bool, v = .bool t43 ∧ if (!t43) = true then (Q (.int .i64 5) h5) else (ldI h5 t9 .i64 fun t47 => if (t47 == 2) = true then (ldS h5 (Addr.add t9 1) fun t51 => bltV Try.prog .delete #[T_map_string_bool, T_string] T_t #[false, false] #[.map set_7, .string t51] h5 fun v h6 => v = .tuple #[] ∧ Kn1 (wrap .i64 (t27 + 1)) h6) else (ldI h5 t9 .i64 fun t54 => if (t54 == 1) = true then (ldS h5 (Addr.add t9 1) fun t59 => lookV Try.prog T_map_string_bool (.map set_7) (.string t59) false h5 fun v h7 => ∃ t60 : Bool, v = .bool t60 ∧ if (!t60) = true then (bltV Try.prog .len #[T_map_string_bool] T_int #[false] #[.map set_7] h7 fun v h8 => ∃ t64 : Int, v = .int .i64 t64 ∧ if (decide (t64 ≥ 32)) = true then (Q (.int .i64 11) h8) else (ldS h8 (Addr.add t9 1) fun t68 => mapUpdV Try.prog T_map_string_bool (.map set_7) (.string t68) (.bool true) h8 fun h9 => Kn1 (wrap .i64 (t27 + 1)) h9)) else (Kn1 (wrap .i64 (t27 + 1)) h7)) else (Kn1 (wrap .i64 (t27 + 1)) h5))))))) else (flowvars_Vars_Do_b2 v_0 dir_1 set_7 Q h)
def flowvars_Vars_Do_v (v_0 : Option Addr) (dir_1 : Int) (l_2a : Option Addr) (l_2n l_2c : Nat) (Q : QT) (h : Heap) : Prop :=
 if (Option.isNone v_0) = true then (Q (.int .i64 6) h) else (CallT Try.prog fn_flowvars_right #[.int .i64 dir_1] h fun v h1 => ∃ t15 : Bool, v = .bool t15 ∧ if (!t15) = true then (Q (.int .i64 4) h1) else (nn v_0 fun t20 => idxA (wrap .i64 (dir_1 - 1)) 2 (ldM h1 (Addr.add t20 (((wrap .i64 (dir_1 - 1))).toNat * 1)) fun t23 => CallT Try.prog fn_maps_Clone_map_string_bool_string_bool #[.map t23] h1 fun v h2 => ∃ t24 : Option Nat, v = .map t24 ∧ LoopV (fun (s : Int) h Kn => flowvars_Vars_Do_l1 v_0 dir_1 t24 l_2a l_2n l_2c ((l_2n : Nat) : Int) Q s h Kn) 0 h2)))
set_option maxRecDepth 100000 in
theorem flowvars_Vars_Do_s (v_0 : Option Addr) (dir_1 : Int) (l_2a : Option Addr) (l_2n l_2c : Nat) {Q : QT} {h : Heap} (hk : flowvars_Vars_Do_v v_0 dir_1 l_2a l_2n l_2c Q h) : CallT Try.prog fn_flowvars_Vars_Do #[.pointer v_0, .int .i64 dir_1, .slice l_2a l_2n l_2c] h Q :=
 callU follows Try.func12 (Try.call12 _) rfl rfl [(42, fun e h => dP (e 0) fun v_0 => dI .i64 (e 1) fun dir_1 => dM (e 7) fun set_7 => flowvars_Vars_Do_b2 v_0 dir_1 set_7 Q h)] [(16, fun e h => dP (e 0) fun v_0 => dI .i64 (e 1) fun dir_1 => dM (e 7) fun set_7 => dL (e 25) fun t25a t25n t25c => dI .i64 (e 26) fun t26 => dI .i64 (e 27) fun t27 => LoopV (fun (s : Int) h Kn => flowvars_Vars_Do_l1 v_0 dir_1 set_7 t25a t25n t25c t26 Q s h Kn) t27 h)]
 ⟨fun e h _ hk => by
 have F := Ag.nil (e := e)
 have ⟨v_0, F, hk⟩ := eP F hk
 have ⟨dir_1, F, hk⟩ := eI F hk
 have ⟨set_7, F, hk⟩ := eM F hk
 exact cutU F (by as_aux_lemma => kernel_rfl) hk, trivial⟩
 ⟨⟨by kernel_rfl, fun e h he hk => by
 have F := Ag.nil (e := e)
 have ⟨v_0, F, hk⟩ := eP F hk
 have ⟨dir_1, F, hk⟩ := eI F hk
 have ⟨set_7, F, hk⟩ := eM F hk
 have ⟨t25a, t25n, t25c, F, hk⟩ := eL F hk
 have ⟨t26, F, hk⟩ := eI F hk
 have ⟨t27, F, hk⟩ := eI F hk
 exact loopU (s0 := t27) follows (fun _ h => by cases h) he F (fun s => [(27, .int .i64 s)]) (by kernel_rfl) (F.take 1) hk (fun Kn1 e h => dI .i64 (e 27) fun t27 => Kn1 t27 h) (fun Kn1 e h hk => by
  have F := Ag.nil (e := e)
  have ⟨t27, F, hk⟩ := eI F hk
  exact ⟨t27, F, hk⟩)
  (fun Kn1 => []) (fun Kn1 => [])
  (fun Kn1 => trivial)
  (fun Kn1 => trivial) (fun e s h Kn1 => by as_aux_lemma => kernel_rfl)⟩, trivial⟩ (by as_aux_lemma => kernel_rfl) hk
/-! ### intrusion/intrusionlaw48.same -/
def law48_same_l1 (a_0a : Option Addr) (a_0n a_0c : Nat) (b_1a : Option Addr) (b_1n b_1c : Nat) (t12 : Int) (Q : QT) (t13 : Int) (h : Heap) (Kn1 : Int → Heap → Prop) : Prop :=
 if (decide (t13 < t12)) = true then (idxA t13 a_0n (nn a_0a fun t18 => ldS h (Addr.add t18 ((t13).toNat * 1)) fun t19 => idxA t13 b_1n (nn b_1a fun t22 => ldS h (Addr.add t22 ((t13).toNat * 1)) fun t23 => if (!(t19.toList == t23.toList)) = true then (Q (.bool false) h) else (Kn1 (wrap .i64 (t13 + 1)) h)))) else (Q (.bool true) h)
def law48_same_v (a_0a : Option Addr) (a_0n a_0c : Nat) (b_1a : Option Addr) (b_1n b_1c : Nat) (Q : QT) (h : Heap) : Prop :=
 if (((a_0n : Nat) : Int) != ((b_1n : Nat) : Int)) = true then (Q (.bool false) h) else (LoopV (fun (s : Int) h Kn => law48_same_l1 a_0a a_0n a_0c b_1a b_1n b_1c ((a_0n : Nat) : Int) Q s h Kn) 0 h)
set_option maxRecDepth 100000 in
theorem law48_same_s (a_0a : Option Addr) (a_0n a_0c : Nat) (b_1a : Option Addr) (b_1n b_1c : Nat) {Q : QT} {h : Heap} (hk : law48_same_v a_0a a_0n a_0c b_1a b_1n b_1c Q h) : CallT Try.prog fn_law48_same #[.slice a_0a a_0n a_0c, .slice b_1a b_1n b_1c] h Q :=
 callU follows Try.func13 (Try.call13 _) rfl rfl [] [(10, fun e h => dL (e 0) fun a_0a a_0n a_0c => dL (e 1) fun b_1a b_1n b_1c => dI .i64 (e 12) fun t12 => dI .i64 (e 13) fun t13 => LoopV (fun (s : Int) h Kn => law48_same_l1 a_0a a_0n a_0c b_1a b_1n b_1c t12 Q s h Kn) t13 h)]
 trivial
 ⟨⟨by kernel_rfl, fun e h he hk => by
 have F := Ag.nil (e := e)
 have ⟨a_0a, a_0n, a_0c, F, hk⟩ := eL F hk
 have ⟨b_1a, b_1n, b_1c, F, hk⟩ := eL F hk
 have ⟨t12, F, hk⟩ := eI F hk
 have ⟨t13, F, hk⟩ := eI F hk
 exact loopU (s0 := t13) follows (fun _ h => by cases h) he F (fun s => [(13, .int .i64 s)]) (by kernel_rfl) (F.take 1) hk (fun Kn1 e h => dI .i64 (e 13) fun t13 => Kn1 t13 h) (fun Kn1 e h hk => by
  have F := Ag.nil (e := e)
  have ⟨t13, F, hk⟩ := eI F hk
  exact ⟨t13, F, hk⟩)
  (fun Kn1 => []) (fun Kn1 => [])
  (fun Kn1 => trivial)
  (fun Kn1 => trivial) (fun e s h Kn1 => by as_aux_lemma => kernel_rfl)⟩, trivial⟩ (by as_aux_lemma => kernel_rfl) hk
/-! ### (*intrusion/flowvars.Vars).Holds -/
def flowvars_Vars_Holds_l1 (v_0 : Option Addr) (dir_1 : Int) (t11a : Option Addr) (t11n t11c : Nat) (t12 : Int) (Q : QT) (t13 : Int) (h : Heap) (Kn1 : Int → Heap → Prop) : Prop :=
 if (decide (t13 < t12)) = true then (idxA t13 t11n (nn t11a fun t15 => ldI h (Addr.add t15 ((t13).toNat * 2)) .i64 fun t16_0 => ldS h (Addr.add (Addr.add t15 ((t13).toNat * 2)) 1) fun t16_1 => alV h (.cells #[.int .i64 0, .string (⟨#[]⟩ : ByteArray)] T_api_FlowOp) fun t8 h1 => stN h1 t8 [.int .i64 t16_0, .string t16_1] 0 fun h2 => ldI h2 t8 .i64 fun t18 => if (t18 == 3) = true then (ldS h2 (Addr.add t8 1) fun t24 => CallT Try.prog fn_flowvars_Vars_has #[.pointer v_0, .int .i64 dir_1, .string t24] h2 fun v h3 => ∃ t25 : Bool, v = .bool t25 ∧ if (!t25) = true then (Q (.bool false) h3) else (ldI h3 t8 .i64 fun t30 => if (t30 == 4) = true then (ldS h3 (Addr.add t8 1) fun t36 => CallT Try.prog fn_flowvars_Vars_has #[.pointer v_0, .int .i64 dir_1, .string t36] h3 fun v h4 => ∃ t37 : Bool, v = .bool t37 ∧ if t37 = true then (Q (.bool false) h4) else (Kn1 (wrap .i64 (t13 + 1)) h4)) else (Kn1 (wrap .i64 (t13 + 1)) h3))) else (ldI h2 t8 .i64 fun t30 => if (t30 == 4) = true then (ldS h2 (Addr.add t8 1) fun t36 => CallT Try.prog fn_flowvars_Vars_has #[.pointer v_0, .int .i64 dir_1, .string t36] h2 fun v h5 => ∃ t37 : Bool, v = .bool t37 ∧ if t37 = true then (Q (.bool false) h5) else (Kn1 (wrap .i64 (t13 + 1)) h5)) else (Kn1 (wrap .i64 (t13 + 1)) h2)))) else (Q (.bool true) h)
def flowvars_Vars_Holds_v (v_0 : Option Addr) (dir_1 : Int) (l_2a : Option Addr) (l_2n l_2c : Nat) (Q : QT) (h : Heap) : Prop :=
 if (Option.isNone v_0) = true then (Q (.bool false) h) else (LoopV (fun (s : Int) h Kn => flowvars_Vars_Holds_l1 v_0 dir_1 l_2a l_2n l_2c ((l_2n : Nat) : Int) Q s h Kn) 0 h)
set_option maxRecDepth 100000 in
theorem flowvars_Vars_Holds_s (v_0 : Option Addr) (dir_1 : Int) (l_2a : Option Addr) (l_2n l_2c : Nat) {Q : QT} {h : Heap} (hk : flowvars_Vars_Holds_v v_0 dir_1 l_2a l_2n l_2c Q h) : CallT Try.prog fn_flowvars_Vars_Holds #[.pointer v_0, .int .i64 dir_1, .slice l_2a l_2n l_2c] h Q :=
 callU follows Try.func14 (Try.call14 _) rfl rfl [] [(10, fun e h => dP (e 0) fun v_0 => dI .i64 (e 1) fun dir_1 => dL (e 11) fun t11a t11n t11c => dI .i64 (e 12) fun t12 => dI .i64 (e 13) fun t13 => LoopV (fun (s : Int) h Kn => flowvars_Vars_Holds_l1 v_0 dir_1 t11a t11n t11c t12 Q s h Kn) t13 h)]
 trivial
 ⟨⟨by kernel_rfl, fun e h he hk => by
 have F := Ag.nil (e := e)
 have ⟨v_0, F, hk⟩ := eP F hk
 have ⟨dir_1, F, hk⟩ := eI F hk
 have ⟨t11a, t11n, t11c, F, hk⟩ := eL F hk
 have ⟨t12, F, hk⟩ := eI F hk
 have ⟨t13, F, hk⟩ := eI F hk
 exact loopU (s0 := t13) follows (fun _ h => by cases h) he F (fun s => [(13, .int .i64 s)]) (by kernel_rfl) (F.take 1) hk (fun Kn1 e h => dI .i64 (e 13) fun t13 => Kn1 t13 h) (fun Kn1 e h hk => by
  have F := Ag.nil (e := e)
  have ⟨t13, F, hk⟩ := eI F hk
  exact ⟨t13, F, hk⟩)
  (fun Kn1 => []) (fun Kn1 => [])
  (fun Kn1 => trivial)
  (fun Kn1 => trivial) (fun e s h Kn1 => by as_aux_lemma => kernel_rfl)⟩, trivial⟩ (by as_aux_lemma => kernel_rfl) hk
/-! ### intrusion/intrusionref48.New -/
def ref48_New_v (Q : QT) (h : Heap) : Prop :=
 alV h (.cells #[.slice none 0 0, .slice none 0 0] T_intrusionref48_Vars) fun t2 h1 => Q (.pointer (some t2)) h1
set_option maxRecDepth 100000 in
theorem ref48_New_s {Q : QT} {h : Heap} (hk : ref48_New_v Q h) : CallT Try.prog fn_ref48_New #[] h Q :=
 callU follows Try.func15 (Try.call15 _) rfl rfl [] []
 trivial
 trivial (by as_aux_lemma => kernel_rfl) hk
/-! ### (*intrusion/intrusionref48.Vars).Do -/
def ref48_Vars_Do_b3 (v_0 : Option Addr) (dir_1 : Int) (l_2a : Option Addr) (l_2n l_2c : Nat) (names_7a : Option Addr) (names_7n names_7c : Nat) (i_8 : Int) (Q : QT) (Kn1 : (Option Addr) × Nat × Nat × Int → Heap → Prop) (h : Heap) : Prop :=
 idxA i_8 l_2n (nn l_2a fun t72 => ldS h (Addr.add (Addr.add t72 ((i_8).toNat * 2)) 1) fun t74 => CallT Try.prog fn_ref48_with #[.slice names_7a names_7n names_7c, .string t74] h fun v h5 => ∃ t75a : Option Addr, ∃ t75n : Nat, ∃ t75c : Nat, v = .slice t75a t75n t75c ∧ Kn1 (t75a, t75n, t75c, wrap .i64 (i_8 + 1)) h5)
def ref48_Vars_Do_b2 (v_0 : Option Addr) (dir_1 : Int) (names_7a : Option Addr) (names_7n names_7c : Nat) (Q : QT) (h : Heap) : Prop :=
 if (dir_1 == 1) = true then (nn v_0 fun t94 => st1 h t94 (.slice names_7a names_7n names_7c) fun h6 => Q (.int .i64 0) h6) else (nn v_0 fun t98 => st1 h (Addr.add t98 1) (.slice names_7a names_7n names_7c) fun h7 => Q (.int .i64 0) h7)
def ref48_Vars_Do_l1 (v_0 : Option Addr) (dir_1 : Int) (l_2a : Option Addr) (l_2n l_2c : Nat) (Q : QT) (names_7a : Option Addr) (names_7n names_7c : Nat) (i_8 : Int) (h : Heap) (Kn1 : (Option Addr) × Nat × Nat × Int → Heap → Prop) : Prop :=
 if (decide (i_8 < ((l_2n : Nat) : Int))) = true then (idxA i_8 l_2n (nn l_2a fun t29 => ldI h (Addr.add t29 ((i_8).toNat * 2)) .i64 fun t31 => if (decide (t31 < 1)) = true then (Q (.int .i64 4) h) else (idxA i_8 l_2n (nn l_2a fun t36 => ldI h (Addr.add t36 ((i_8).toNat * 2)) .i64 fun t38 => if (decide (t38 > 4)) = true then (Q (.int .i64 4) h) else (idxA i_8 l_2n (nn l_2a fun t44 => ldS h (Addr.add (Addr.add t44 ((i_8).toNat * 2)) 1) fun t46 => CallT Try.prog fn_ref04_IsName #[.string t46] h fun v h2 => ∃ t47 : Bool, v = .bool t47 ∧ if (!t47) = true then (Q (.int .i64 5) h2) else (idxA i_8 l_2n (nn l_2a fun t52 => ldI h2 (Addr.add t52 ((i_8).toNat * 2)) .i64 fun t54 => if (t54 == 1) = true then (idxA i_8 l_2n (nn l_2a fun t59 => ldS h2 (Addr.add (Addr.add t59 ((i_8).toNat * 2)) 1) fun t61 => CallT Try.prog fn_ref48_set #[.slice names_7a names_7n names_7c, .string t61] h2 fun v h3 => ∃ t62 : Bool, v = .bool t62 ∧ if (!t62) = true then (if (decide (((names_7n : Nat) : Int) ≥ 32)) = true then (Q (.int .i64 11) h3) else (ref48_Vars_Do_b3 v_0 dir_1 l_2a l_2n l_2c names_7a names_7n names_7c i_8 Q Kn1 h3)) else (ref48_Vars_Do_b3 v_0 dir_1 l_2a l_2n l_2c names_7a names_7n names_7c i_8 Q Kn1 h3))) else (idxA i_8 l_2n (nn l_2a fun t79 => ldI h2 (Addr.add t79 ((i_8).toNat * 2)) .i64 fun t81 => if (t81 == 2) = true then (idxA i_8 l_2n (nn l_2a fun t86 => ldS h2 (Addr.add (Addr.add t86 ((i_8).toNat * 2)) 1) fun t88 => CallT Try.prog fn_ref48_without #[.slice names_7a names_7n names_7c, .string t88] h2 fun v h4 => ∃ t89a : Option Addr, ∃ t89n : Nat, ∃ t89c : Nat, v = .slice t89a t89n t89c ∧ Kn1 (t89a, t89n, t89c, wrap .i64 (i_8 + 1)) h4)) else (Kn1 (names_7a, names_7n, names_7c, wrap .i64 (i_8 + 1)) h2))))))))))) else (ref48_Vars_Do_b2 v_0 dir_1 names_7a names_7n names_7c Q h)
def ref48_Vars_Do_b4 (v_0 : Option Addr) (dir_1 : Int) (l_2a : Option Addr) (l_2n l_2c : Nat) (Q : QT) (h : Heap) : Prop :=
 CallT Try.prog fn_ref48_Vars_Names #[.pointer v_0, .int .i64 dir_1] h fun v h1 => ∃ t19a : Option Addr, ∃ t19n : Nat, ∃ t19c : Nat, v = .slice t19a t19n t19c ∧ LoopV (fun (s : (Option Addr) × Nat × Nat × Int) h Kn => ref48_Vars_Do_l1 v_0 dir_1 l_2a l_2n l_2c Q s.1 s.2.1 s.2.2.1 s.2.2.2 h Kn) (t19a, t19n, t19c, 0) h1
def ref48_Vars_Do_v (v_0 : Option Addr) (dir_1 : Int) (l_2a : Option Addr) (l_2n l_2c : Nat) (Q : QT) (h : Heap) : Prop :=
 if (Option.isNone v_0) = true then (Q (.int .i64 6) h) else (if (dir_1 != 1) = true then (if (dir_1 != 2) = true then (Q (.int .i64 4) h) else (ref48_Vars_Do_b4 v_0 dir_1 l_2a l_2n l_2c Q h)) else (ref48_Vars_Do_b4 v_0 dir_1 l_2a l_2n l_2c Q h))
set_option maxRecDepth 100000 in
theorem ref48_Vars_Do_s (v_0 : Option Addr) (dir_1 : Int) (l_2a : Option Addr) (l_2n l_2c : Nat) {Q : QT} {h : Heap} (hk : ref48_Vars_Do_v v_0 dir_1 l_2a l_2n l_2c Q h) : CallT Try.prog fn_ref48_Vars_Do #[.pointer v_0, .int .i64 dir_1, .slice l_2a l_2n l_2c] h Q :=
 callU follows Try.func16 (Try.call16 _) rfl rfl [(12, fun e h => dP (e 0) fun v_0 => dI .i64 (e 1) fun dir_1 => dL (e 2) fun l_2a l_2n l_2c => ref48_Vars_Do_b4 v_0 dir_1 l_2a l_2n l_2c Q h), (40, fun e h => dP (e 0) fun v_0 => dI .i64 (e 1) fun dir_1 => dL (e 7) fun names_7a names_7n names_7c => ref48_Vars_Do_b2 v_0 dir_1 names_7a names_7n names_7c Q h)] [(16, fun e h => dP (e 0) fun v_0 => dI .i64 (e 1) fun dir_1 => dL (e 2) fun l_2a l_2n l_2c => dL (e 7) fun names_7a names_7n names_7c => dI .i64 (e 8) fun i_8 => LoopV (fun (s : (Option Addr) × Nat × Nat × Int) h Kn => ref48_Vars_Do_l1 v_0 dir_1 l_2a l_2n l_2c Q s.1 s.2.1 s.2.2.1 s.2.2.2 h Kn) (names_7a, names_7n, names_7c, i_8) h)]
 ⟨fun e h _ hk => by
 have F := Ag.nil (e := e)
 have ⟨v_0, F, hk⟩ := eP F hk
 have ⟨dir_1, F, hk⟩ := eI F hk
 have ⟨l_2a, l_2n, l_2c, F, hk⟩ := eL F hk
 exact cutU F (by as_aux_lemma => kernel_rfl) hk, fun e h _ hk => by
 have F := Ag.nil (e := e)
 have ⟨v_0, F, hk⟩ := eP F hk
 have ⟨dir_1, F, hk⟩ := eI F hk
 have ⟨names_7a, names_7n, names_7c, F, hk⟩ := eL F hk
 exact cutU F (by as_aux_lemma => kernel_rfl) hk, trivial⟩
 ⟨⟨by kernel_rfl, fun e h he hk => by
 have F := Ag.nil (e := e)
 have ⟨v_0, F, hk⟩ := eP F hk
 have ⟨dir_1, F, hk⟩ := eI F hk
 have ⟨l_2a, l_2n, l_2c, F, hk⟩ := eL F hk
 have ⟨names_7a, names_7n, names_7c, F, hk⟩ := eL F hk
 have ⟨i_8, F, hk⟩ := eI F hk
 exact loopU (s0 := (names_7a, names_7n, names_7c, i_8)) follows (fun _ h => by cases h) he F (fun s => [(8, .int .i64 s.2.2.2), (7, .slice s.1 s.2.1 s.2.2.1)]) (by kernel_rfl) (F.take 2) hk (fun Kn1 e h => dL (e 7) fun names_7a names_7n names_7c => dI .i64 (e 8) fun i_8 => Kn1 (names_7a, names_7n, names_7c, i_8) h) (fun Kn1 e h hk => by
  have F := Ag.nil (e := e)
  have ⟨names_7a, names_7n, names_7c, F, hk⟩ := eL F hk
  have ⟨i_8, F, hk⟩ := eI F hk
  exact ⟨(names_7a, names_7n, names_7c, i_8), F, hk⟩)
  (fun Kn1 => [(34, fun e h => dP (e 0) fun v_0 => dI .i64 (e 1) fun dir_1 => dL (e 2) fun l_2a l_2n l_2c => dL (e 7) fun names_7a names_7n names_7c => dI .i64 (e 8) fun i_8 => ref48_Vars_Do_b3 v_0 dir_1 l_2a l_2n l_2c names_7a names_7n names_7c i_8 Q Kn1 h)]) (fun Kn1 => [])
  (fun Kn1 => ⟨fun e h _ hk => by
 have F := Ag.nil (e := e)
 have ⟨v_0, F, hk⟩ := eP F hk
 have ⟨dir_1, F, hk⟩ := eI F hk
 have ⟨l_2a, l_2n, l_2c, F, hk⟩ := eL F hk
 have ⟨names_7a, names_7n, names_7c, F, hk⟩ := eL F hk
 have ⟨i_8, F, hk⟩ := eI F hk
 exact cutU F (by as_aux_lemma => kernel_rfl) hk, trivial⟩)
  (fun Kn1 => trivial) (fun e s h Kn1 => by as_aux_lemma => kernel_rfl)⟩, trivial⟩ (by as_aux_lemma => kernel_rfl) hk
/-! ### (*intrusion/intrusionref48.Vars).Holds -/
def ref48_Vars_Holds_l1 (l_2a : Option Addr) (l_2n l_2c : Nat) (names_7a : Option Addr) (names_7n names_7c : Nat) (Q : QT) (i_8 : Int) (h : Heap) (Kn1 : Int → Heap → Prop) : Prop :=
 if (decide (i_8 < ((l_2n : Nat) : Int))) = true then (idxA i_8 l_2n (nn l_2a fun t22 => ldI h (Addr.add t22 ((i_8).toNat * 2)) .i64 fun t24 => if (t24 == 3) = true then (idxA i_8 l_2n (nn l_2a fun t30 => ldS h (Addr.add (Addr.add t30 ((i_8).toNat * 2)) 1) fun t32 => CallT Try.prog fn_ref48_set #[.slice names_7a names_7n names_7c, .string t32] h fun v h2 => ∃ t33 : Bool, v = .bool t33 ∧ if (!t33) = true then (Q (.bool false) h2) else (idxA i_8 l_2n (nn l_2a fun t39 => ldI h2 (Addr.add t39 ((i_8).toNat * 2)) .i64 fun t41 => if (t41 == 4) = true then (idxA i_8 l_2n (nn l_2a fun t47 => ldS h2 (Addr.add (Addr.add t47 ((i_8).toNat * 2)) 1) fun t49 => CallT Try.prog fn_ref48_set #[.slice names_7a names_7n names_7c, .string t49] h2 fun v h3 => ∃ t50 : Bool, v = .bool t50 ∧ if t50 = true then (Q (.bool false) h3) else (Kn1 (wrap .i64 (i_8 + 1)) h3))) else (Kn1 (wrap .i64 (i_8 + 1)) h2))))) else (idxA i_8 l_2n (nn l_2a fun t39 => ldI h (Addr.add t39 ((i_8).toNat * 2)) .i64 fun t41 => if (t41 == 4) = true then (idxA i_8 l_2n (nn l_2a fun t47 => ldS h (Addr.add (Addr.add t47 ((i_8).toNat * 2)) 1) fun t49 => CallT Try.prog fn_ref48_set #[.slice names_7a names_7n names_7c, .string t49] h fun v h4 => ∃ t50 : Bool, v = .bool t50 ∧ if t50 = true then (Q (.bool false) h4) else (Kn1 (wrap .i64 (i_8 + 1)) h4))) else (Kn1 (wrap .i64 (i_8 + 1)) h))))) else (Q (.bool true) h)
def ref48_Vars_Holds_v (v_0 : Option Addr) (dir_1 : Int) (l_2a : Option Addr) (l_2n l_2c : Nat) (Q : QT) (h : Heap) : Prop :=
 if (Option.isNone v_0) = true then (Q (.bool false) h) else (CallT Try.prog fn_ref48_Vars_Names #[.pointer v_0, .int .i64 dir_1] h fun v h1 => ∃ t13a : Option Addr, ∃ t13n : Nat, ∃ t13c : Nat, v = .slice t13a t13n t13c ∧ LoopV (fun (s : Int) h Kn => ref48_Vars_Holds_l1 l_2a l_2n l_2c t13a t13n t13c Q s h Kn) 0 h1)
set_option maxRecDepth 100000 in
theorem ref48_Vars_Holds_s (v_0 : Option Addr) (dir_1 : Int) (l_2a : Option Addr) (l_2n l_2c : Nat) {Q : QT} {h : Heap} (hk : ref48_Vars_Holds_v v_0 dir_1 l_2a l_2n l_2c Q h) : CallT Try.prog fn_ref48_Vars_Holds #[.pointer v_0, .int .i64 dir_1, .slice l_2a l_2n l_2c] h Q :=
 callU follows Try.func17 (Try.call17 _) rfl rfl [] [(12, fun e h => dL (e 2) fun l_2a l_2n l_2c => dL (e 7) fun names_7a names_7n names_7c => dI .i64 (e 8) fun i_8 => LoopV (fun (s : Int) h Kn => ref48_Vars_Holds_l1 l_2a l_2n l_2c names_7a names_7n names_7c Q s h Kn) i_8 h)]
 trivial
 ⟨⟨by kernel_rfl, fun e h he hk => by
 have F := Ag.nil (e := e)
 have ⟨l_2a, l_2n, l_2c, F, hk⟩ := eL F hk
 have ⟨names_7a, names_7n, names_7c, F, hk⟩ := eL F hk
 have ⟨i_8, F, hk⟩ := eI F hk
 exact loopU (s0 := i_8) follows (fun _ h => by cases h) he F (fun s => [(8, .int .i64 s)]) (by kernel_rfl) (F.take 1) hk (fun Kn1 e h => dI .i64 (e 8) fun i_8 => Kn1 i_8 h) (fun Kn1 e h hk => by
  have F := Ag.nil (e := e)
  have ⟨i_8, F, hk⟩ := eI F hk
  exact ⟨i_8, F, hk⟩)
  (fun Kn1 => []) (fun Kn1 => [])
  (fun Kn1 => trivial)
  (fun Kn1 => trivial) (fun e s h Kn1 => by as_aux_lemma => kernel_rfl)⟩, trivial⟩ (by as_aux_lemma => kernel_rfl) hk
/-! ### (*intrusion/flowvars.Vars).Clear -/
def flowvars_Vars_Clear_v (v_0 : Option Addr) (Q : QT) (h : Heap) : Prop :=
 if (!(Option.isNone v_0)) = true then (nn v_0 fun t5 => idxA (0 : Int) 2 (ldM h (Addr.add t5 (((0 : Int)).toNat * 1)) fun t8 => bltV Try.prog .clear #[T_map_string_bool] T_t #[false] #[.map t8] h fun v h1 => v = .tuple #[] ∧ nn v_0 fun t10 => idxA (1 : Int) 2 (ldM h1 (Addr.add t10 (((1 : Int)).toNat * 1)) fun t13 => bltV Try.prog .clear #[T_map_string_bool] T_t #[false] #[.map t13] h1 fun v h2 => v = .tuple #[] ∧ Q (.tuple #[]) h2))) else (Q (.tuple #[]) h)
set_option maxRecDepth 100000 in
theorem flowvars_Vars_Clear_s (v_0 : Option Addr) {Q : QT} {h : Heap} (hk : flowvars_Vars_Clear_v v_0 Q h) : CallT Try.prog fn_flowvars_Vars_Clear #[.pointer v_0] h Q :=
 callU follows Try.func18 (Try.call18 _) rfl rfl [] []
 trivial
 trivial (by as_aux_lemma => kernel_rfl) hk
/-! ### (*intrusion/intrusionref48.Vars).Clear -/
def ref48_Vars_Clear_v (v_0 : Option Addr) (Q : QT) (h : Heap) : Prop :=
 if (!(Option.isNone v_0)) = true then (nn v_0 fun t5 => st1 h t5 (.slice none 0 0) fun h1 => nn v_0 fun t8 => st1 h1 (Addr.add t8 1) (.slice none 0 0) fun h2 => Q (.tuple #[]) h2) else (Q (.tuple #[]) h)
set_option maxRecDepth 100000 in
theorem ref48_Vars_Clear_s (v_0 : Option Addr) {Q : QT} {h : Heap} (hk : ref48_Vars_Clear_v v_0 Q h) : CallT Try.prog fn_ref48_Vars_Clear #[.pointer v_0] h Q :=
 callU follows Try.func19 (Try.call19 _) rfl rfl [] []
 trivial
 trivial (by as_aux_lemma => kernel_rfl) hk
/-! ### (*intrusion/intrusionref48.Vars).Names -/
def ref48_Vars_Names_v (v_0 : Option Addr) (dir_1 : Int) (Q : QT) (h : Heap) : Prop :=
 if (Option.isNone v_0) = true then (Q (.slice none 0 0) h) else (if (dir_1 == 1) = true then (alV h (.cells #[] T_string) fun t10 h1 => nn v_0 fun t12 => ldL h1 t12 fun t14a t14n t14c => bltV Try.prog .append #[T_sl_string, T_sl_string] T_sl_string #[false, false] #[.slice (some t10) 0 0, .slice t14a t14n t14c] h1 fun v h2 => ∃ t15a : Option Addr, ∃ t15n : Nat, ∃ t15c : Nat, v = .slice t15a t15n t15c ∧ Q (.slice t15a t15n t15c) h2) else (if (dir_1 == 2) = true then (alV h (.cells #[] T_string) fun t18 h3 => nn v_0 fun t20 => ldL h3 (Addr.add t20 1) fun t22a t22n t22c => bltV Try.prog .append #[T_sl_string, T_sl_string] T_sl_string #[false, false] #[.slice (some t18) 0 0, .slice t22a t22n t22c] h3 fun v h4 => ∃ t23a : Option Addr, ∃ t23n : Nat, ∃ t23c : Nat, v = .slice t23a t23n t23c ∧ Q (.slice t23a t23n t23c) h4) else (Q (.slice none 0 0) h)))
set_option maxRecDepth 100000 in
theorem ref48_Vars_Names_s (v_0 : Option Addr) (dir_1 : Int) {Q : QT} {h : Heap} (hk : ref48_Vars_Names_v v_0 dir_1 Q h) : CallT Try.prog fn_ref48_Vars_Names #[.pointer v_0, .int .i64 dir_1] h Q :=
 callU follows Try.func20 (Try.call20 _) rfl rfl [] []
 trivial
 trivial (by as_aux_lemma => kernel_rfl) hk
/-! ### intrusion/lexer.IsName -/
def lexer_IsName_v (s_0 : ByteArray) (Q : QT) (h : Heap) : Prop :=
 if (!(s_0.toList == (⟨#[]⟩ : ByteArray).toList)) = true then (if (decide (((s_0.size : Nat) : Int) ≤ 32)) = true then (idxS s_0 (0 : Int) fun t12 => CallT Try.prog fn_lexer_class #[.int .u8 t12] h fun v h1 => ∃ t13 : Int, v = .int .i64 t13 ∧ if (t13 == 2) = true then (CallT Try.prog fn_lexer_while #[.string s_0, .int .i64 0, .func (.func 33) #[] #[]] h1 fun v h2 => ∃ t18 : Int, v = .int .i64 t18 ∧ Q (.bool (t18 == ((s_0.size : Nat) : Int))) h2) else (Q (.bool false) h1)) else (Q (.bool false) h)) else (Q (.bool false) h)
set_option maxRecDepth 100000 in
theorem lexer_IsName_s (s_0 : ByteArray) {Q : QT} {h : Heap} (hk : lexer_IsName_v s_0 Q h) : CallT Try.prog fn_lexer_IsName #[.string s_0] h Q :=
 callU follows Try.func21 (Try.call21 _) rfl rfl [] []
 trivial
 trivial (by as_aux_lemma => kernel_rfl) hk
/-! ### intrusion/flowvars.right -/
def flowvars_right_v (dir_0 : Int) (Q : QT) (h : Heap) : Prop :=
 if (dir_0 == 1) = true then (Q (.bool true) h) else (Q (.bool (dir_0 == 2)) h)
set_option maxRecDepth 100000 in
theorem flowvars_right_s (dir_0 : Int) {Q : QT} {h : Heap} (hk : flowvars_right_v dir_0 Q h) : CallT Try.prog fn_flowvars_right #[.int .i64 dir_0] h Q :=
 callU follows Try.func22 (Try.call22 _) rfl rfl [] []
 trivial
 trivial (by as_aux_lemma => kernel_rfl) hk
/-! ### maps.Keys[map[string]bool,string,bool] -/
def maps_Keys_map_string_bool_string_bool_v (m_0 : Option Nat) (Q : QT) (h : Heap) : Prop :=
 alV h (.cells #[.map m_0] T_map_string_bool) fun t1 h1 => Q (.func (.func 36) #[] #[.pointer (some t1)]) h1
set_option maxRecDepth 100000 in
theorem maps_Keys_map_string_bool_string_bool_s (m_0 : Option Nat) {Q : QT} {h : Heap} (hk : maps_Keys_map_string_bool_string_bool_v m_0 Q h) : CallT Try.prog fn_maps_Keys_map_string_bool_string_bool #[.map m_0] h Q :=
 callU follows Try.func24 (Try.call24 _) rfl rfl [] []
 trivial
 trivial (by as_aux_lemma => kernel_rfl) hk
/-! ### (*intrusion/flowvars.Vars).has -/
def flowvars_Vars_has_v (v_0 : Option Addr) (dir_1 : Int) (name_2 : ByteArray) (Q : QT) (h : Heap) : Prop :=
 CallT Try.prog fn_flowvars_right #[.int .i64 dir_1] h fun v h1 => ∃ t8 : Bool, v = .bool t8 ∧ if t8 = true then (nn v_0 fun t13 => idxA (wrap .i64 (dir_1 - 1)) 2 (ldM h1 (Addr.add t13 (((wrap .i64 (dir_1 - 1))).toNat * 1)) fun t16 => lookV Try.prog T_map_string_bool (.map t16) (.string name_2) false h1 fun v h2 => ∃ t18 : Bool, v = .bool t18 ∧ Q (.bool t18) h2)) else (Q (.bool false) h1)
set_option maxRecDepth 100000 in
theorem flowvars_Vars_has_s (v_0 : Option Addr) (dir_1 : Int) (name_2 : ByteArray) {Q : QT} {h : Heap} (hk : flowvars_Vars_has_v v_0 dir_1 name_2 Q h) : CallT Try.prog fn_flowvars_Vars_has #[.pointer v_0, .int .i64 dir_1, .string name_2] h Q :=
 callU follows Try.func26 (Try.call26 _) rfl rfl [] []
 trivial
 trivial (by as_aux_lemma => kernel_rfl) hk
/-! ### intrusion/intrusionref04.IsName -/
def ref04_IsName_l1 (s_0 : ByteArray) (Q : QT) (i_3 : Int) (h : Heap) (Kn1 : Int → Heap → Prop) : Prop :=
 if (decide (i_3 < ((s_0.size : Nat) : Int))) = true then (idxS s_0 i_3 fun t25 => CallT Try.prog fn_ref04_inName #[.int .u8 t25] h fun v h2 => ∃ t26 : Bool, v = .bool t26 ∧ if (!t26) = true then (Q (.bool false) h2) else (Kn1 (wrap .i64 (i_3 + 1)) h2)) else (Q (.bool true) h)
def ref04_IsName_v (s_0 : ByteArray) (Q : QT) (h : Heap) : Prop :=
 if (s_0.toList == (⟨#[]⟩ : ByteArray).toList) = true then (Q (.bool false) h) else (if (decide (((s_0.size : Nat) : Int) > 32)) = true then (Q (.bool false) h) else (idxS s_0 (0 : Int) fun t13 => CallT Try.prog fn_ref04_Letter #[.int .u8 t13] h fun v h1 => ∃ t14 : Bool, v = .bool t14 ∧ if (!t14) = true then (Q (.bool false) h1) else (LoopV (fun (s : Int) h Kn => ref04_IsName_l1 s_0 Q s h Kn) 0 h1)))
set_option maxRecDepth 100000 in
theorem ref04_IsName_s (s_0 : ByteArray) {Q : QT} {h : Heap} (hk : ref04_IsName_v s_0 Q h) : CallT Try.prog fn_ref04_IsName #[.string s_0] h Q :=
 callU follows Try.func27 (Try.call27 _) rfl rfl [] [(10, fun e h => dS (e 0) fun s_0 => dI .i64 (e 3) fun i_3 => LoopV (fun (s : Int) h Kn => ref04_IsName_l1 s_0 Q s h Kn) i_3 h)]
 trivial
 ⟨⟨by kernel_rfl, fun e h he hk => by
 have F := Ag.nil (e := e)
 have ⟨s_0, F, hk⟩ := eS F hk
 have ⟨i_3, F, hk⟩ := eI F hk
 exact loopU (s0 := i_3) follows (fun _ h => by cases h) he F (fun s => [(3, .int .i64 s)]) (by kernel_rfl) (F.take 1) hk (fun Kn1 e h => dI .i64 (e 3) fun i_3 => Kn1 i_3 h) (fun Kn1 e h hk => by
  have F := Ag.nil (e := e)
  have ⟨i_3, F, hk⟩ := eI F hk
  exact ⟨i_3, F, hk⟩)
  (fun Kn1 => []) (fun Kn1 => [])
  (fun Kn1 => trivial)
  (fun Kn1 => trivial) (fun e s h Kn1 => by as_aux_lemma => kernel_rfl)⟩, trivial⟩ (by as_aux_lemma => kernel_rfl) hk
/-! ### intrusion/intrusionref48.set -/
def ref48_set_l1 (l_0a : Option Addr) (l_0n l_0c : Nat) (s_1 : ByteArray) (Q : QT) (i_5 : Int) (h : Heap) (Kn1 : Int → Heap → Prop) : Prop :=
 if (decide (i_5 < ((l_0n : Nat) : Int))) = true then (idxA i_5 l_0n (nn l_0a fun t14 => ldS h (Addr.add t14 ((i_5).toNat * 1)) fun t15 => if (t15.toList == s_1.toList) = true then (Q (.bool true) h) else (Kn1 (wrap .i64 (i_5 + 1)) h))) else (Q (.bool false) h)
def ref48_set_v (l_0a : Option Addr) (l_0n l_0c : Nat) (s_1 : ByteArray) (Q : QT) (h : Heap) : Prop :=
 LoopV (fun (s : Int) h Kn => ref48_set_l1 l_0a l_0n l_0c s_1 Q s h Kn) 0 h
set_option maxRecDepth 100000 in
theorem ref48_set_s (l_0a : Option Addr) (l_0n l_0c : Nat) (s_1 : ByteArray) {Q : QT} {h : Heap} (hk : ref48_set_v l_0a l_0n l_0c s_1 Q h) : CallT Try.prog fn_ref48_set #[.slice l_0a l_0n l_0c, .string s_1] h Q :=
 callU follows Try.func28 (Try.call28 _) rfl rfl [] [(6, fun e h => dL (e 0) fun l_0a l_0n l_0c => dS (e 1) fun s_1 => dI .i64 (e 5) fun i_5 => LoopV (fun (s : Int) h Kn => ref48_set_l1 l_0a l_0n l_0c s_1 Q s h Kn) i_5 h)]
 trivial
 ⟨⟨by kernel_rfl, fun e h he hk => by
 have F := Ag.nil (e := e)
 have ⟨l_0a, l_0n, l_0c, F, hk⟩ := eL F hk
 have ⟨s_1, F, hk⟩ := eS F hk
 have ⟨i_5, F, hk⟩ := eI F hk
 exact loopU (s0 := i_5) follows (fun _ h => by cases h) he F (fun s => [(5, .int .i64 s)]) (by kernel_rfl) (F.take 1) hk (fun Kn1 e h => dI .i64 (e 5) fun i_5 => Kn1 i_5 h) (fun Kn1 e h hk => by
  have F := Ag.nil (e := e)
  have ⟨i_5, F, hk⟩ := eI F hk
  exact ⟨i_5, F, hk⟩)
  (fun Kn1 => []) (fun Kn1 => [])
  (fun Kn1 => trivial)
  (fun Kn1 => trivial) (fun e s h Kn1 => by as_aux_lemma => kernel_rfl)⟩, trivial⟩ (by as_aux_lemma => kernel_rfl) hk
/-! ### intrusion/intrusionref48.with -/
def ref48_with_b2 (l_0a : Option Addr) (l_0n l_0c : Nat) (s_1 : ByteArray) (out_5a : Option Addr) (out_5n out_5c : Nat) (done_6 : Bool) (i_7 : Int) (Q : QT) (Kn1 : (Option Addr) × Nat × Nat × Bool × Int → Heap → Prop) (h : Heap) : Prop :=
 idxA i_7 l_0n (nn l_0a fun t36 => ldS h (Addr.add t36 ((i_7).toNat * 1)) fun t37 => alV h (.cells #[.string t37] T_string) fun t38 h5 => bltV Try.prog .append #[T_sl_string, T_sl_string] T_sl_string #[false, false] #[.slice out_5a out_5n out_5c, .slice (some t38) 1 1] h5 fun v h6 => ∃ t39a : Option Addr, ∃ t39n : Nat, ∃ t39c : Nat, v = .slice t39a t39n t39c ∧ Kn1 (t39a, t39n, t39c, done_6, wrap .i64 (i_7 + 1)) h6)
def ref48_with_b3 (s_1 : ByteArray) (out_5a : Option Addr) (out_5n out_5c : Nat) (done_6 : Bool) (Q : QT) (h : Heap) : Prop :=
 if (!done_6) = true then (alV h (.cells #[.string s_1] T_string) fun t44 h7 => bltV Try.prog .append #[T_sl_string, T_sl_string] T_sl_string #[false, false] #[.slice out_5a out_5n out_5c, .slice (some t44) 1 1] h7 fun v h8 => ∃ t45a : Option Addr, ∃ t45n : Nat, ∃ t45c : Nat, v = .slice t45a t45n t45c ∧ Q (.slice t45a t45n t45c) h8) else (Q (.slice out_5a out_5n out_5c) h)
def ref48_with_l1 (l_0a : Option Addr) (l_0n l_0c : Nat) (s_1 : ByteArray) (Q : QT) (out_5a : Option Addr) (out_5n out_5c : Nat) (done_6 : Bool) (i_7 : Int) (h : Heap) (Kn1 : (Option Addr) × Nat × Nat × Bool × Int → Heap → Prop) : Prop :=
 if (decide (i_7 < ((l_0n : Nat) : Int))) = true then (if (!done_6) = true then (idxA i_7 l_0n (nn l_0a fun t24 => ldS h (Addr.add t24 ((i_7).toNat * 1)) fun t25 => if (!(Op.bytesLess t25.toList s_1.toList || (t25.toList == s_1.toList))) = true then (alV h (.cells #[.string s_1] T_string) fun t31 h3 => bltV Try.prog .append #[T_sl_string, T_sl_string] T_sl_string #[false, false] #[.slice out_5a out_5n out_5c, .slice (some t31) 1 1] h3 fun v h4 => ∃ t32a : Option Addr, ∃ t32n : Nat, ∃ t32c : Nat, v = .slice t32a t32n t32c ∧ ref48_with_b2 l_0a l_0n l_0c s_1 t32a t32n t32c true i_7 Q Kn1 h4) else (ref48_with_b2 l_0a l_0n l_0c s_1 out_5a out_5n out_5c done_6 i_7 Q Kn1 h))) else (ref48_with_b2 l_0a l_0n l_0c s_1 out_5a out_5n out_5c done_6 i_7 Q Kn1 h)) else (ref48_with_b3 s_1 out_5a out_5n out_5c done_6 Q h)
def ref48_with_v (l_0a : Option Addr) (l_0n l_0c : Nat) (s_1 : ByteArray) (Q : QT) (h : Heap) : Prop :=
 CallT Try.prog fn_ref48_set #[.slice l_0a l_0n l_0c, .string s_1] h fun v h1 => ∃ t10 : Bool, v = .bool t10 ∧ if t10 = true then (Q (.slice l_0a l_0n l_0c) h1) else (alV h1 (.cells #[] T_string) fun t12 h2 => LoopV (fun (s : (Option Addr) × Nat × Nat × Bool × Int) h Kn => ref48_with_l1 l_0a l_0n l_0c s_1 Q s.1 s.2.1 s.2.2.1 s.2.2.2.1 s.2.2.2.2 h Kn) (some t12, 0, 0, false, 0) h2)
set_option maxRecDepth 100000 in
theorem ref48_with_s (l_0a : Option Addr) (l_0n l_0c : Nat) (s_1 : ByteArray) {Q : QT} {h : Heap} (hk : ref48_with_v l_0a l_0n l_0c s_1 Q h) : CallT Try.prog fn_ref48_with #[.slice l_0a l_0n l_0c, .string s_1] h Q :=
 callU follows Try.func29 (Try.call29 _) rfl rfl [(26, fun e h => dS (e 1) fun s_1 => dL (e 5) fun out_5a out_5n out_5c => dB (e 6) fun done_6 => ref48_with_b3 s_1 out_5a out_5n out_5c done_6 Q h)] [(14, fun e h => dL (e 0) fun l_0a l_0n l_0c => dS (e 1) fun s_1 => dL (e 5) fun out_5a out_5n out_5c => dB (e 6) fun done_6 => dI .i64 (e 7) fun i_7 => LoopV (fun (s : (Option Addr) × Nat × Nat × Bool × Int) h Kn => ref48_with_l1 l_0a l_0n l_0c s_1 Q s.1 s.2.1 s.2.2.1 s.2.2.2.1 s.2.2.2.2 h Kn) (out_5a, out_5n, out_5c, done_6, i_7) h)]
 ⟨fun e h _ hk => by
 have F := Ag.nil (e := e)
 have ⟨s_1, F, hk⟩ := eS F hk
 have ⟨out_5a, out_5n, out_5c, F, hk⟩ := eL F hk
 have ⟨done_6, F, hk⟩ := eB F hk
 exact cutU F (by as_aux_lemma => kernel_rfl) hk, trivial⟩
 ⟨⟨by kernel_rfl, fun e h he hk => by
 have F := Ag.nil (e := e)
 have ⟨l_0a, l_0n, l_0c, F, hk⟩ := eL F hk
 have ⟨s_1, F, hk⟩ := eS F hk
 have ⟨out_5a, out_5n, out_5c, F, hk⟩ := eL F hk
 have ⟨done_6, F, hk⟩ := eB F hk
 have ⟨i_7, F, hk⟩ := eI F hk
 exact loopU (s0 := (out_5a, out_5n, out_5c, done_6, i_7)) follows (fun _ h => by cases h) he F (fun s => [(7, .int .i64 s.2.2.2.2), (6, .bool s.2.2.2.1), (5, .slice s.1 s.2.1 s.2.2.1)]) (by kernel_rfl) (F.take 3) hk (fun Kn1 e h => dL (e 5) fun out_5a out_5n out_5c => dB (e 6) fun done_6 => dI .i64 (e 7) fun i_7 => Kn1 (out_5a, out_5n, out_5c, done_6, i_7) h) (fun Kn1 e h hk => by
  have F := Ag.nil (e := e)
  have ⟨out_5a, out_5n, out_5c, F, hk⟩ := eL F hk
  have ⟨done_6, F, hk⟩ := eB F hk
  have ⟨i_7, F, hk⟩ := eI F hk
  exact ⟨(out_5a, out_5n, out_5c, done_6, i_7), F, hk⟩)
  (fun Kn1 => [(24, fun e h => dL (e 0) fun l_0a l_0n l_0c => dS (e 1) fun s_1 => dL (e 5) fun out_5a out_5n out_5c => dB (e 6) fun done_6 => dI .i64 (e 7) fun i_7 => ref48_with_b2 l_0a l_0n l_0c s_1 out_5a out_5n out_5c done_6 i_7 Q Kn1 h)]) (fun Kn1 => [])
  (fun Kn1 => ⟨fun e h _ hk => by
 have F := Ag.nil (e := e)
 have ⟨l_0a, l_0n, l_0c, F, hk⟩ := eL F hk
 have ⟨s_1, F, hk⟩ := eS F hk
 have ⟨out_5a, out_5n, out_5c, F, hk⟩ := eL F hk
 have ⟨done_6, F, hk⟩ := eB F hk
 have ⟨i_7, F, hk⟩ := eI F hk
 exact cutU F (by as_aux_lemma => kernel_rfl) hk, trivial⟩)
  (fun Kn1 => trivial) (fun e s h Kn1 => by as_aux_lemma => kernel_rfl)⟩, trivial⟩ (by as_aux_lemma => kernel_rfl) hk
/-! ### intrusion/intrusionref48.without -/
def ref48_without_l1 (l_0a : Option Addr) (l_0n l_0c : Nat) (s_1 : ByteArray) (Q : QT) (out_5a : Option Addr) (out_5n out_5c : Nat) (i_6 : Int) (h : Heap) (Kn1 : (Option Addr) × Nat × Nat × Int → Heap → Prop) : Prop :=
 if (decide (i_6 < ((l_0n : Nat) : Int))) = true then (idxA i_6 l_0n (nn l_0a fun t16 => ldS h (Addr.add t16 ((i_6).toNat * 1)) fun t17 => if (!(t17.toList == s_1.toList)) = true then (idxA i_6 l_0n (nn l_0a fun t23 => ldS h (Addr.add t23 ((i_6).toNat * 1)) fun t24 => alV h (.cells #[.string t24] T_string) fun t25 h2 => bltV Try.prog .append #[T_sl_string, T_sl_string] T_sl_string #[false, false] #[.slice out_5a out_5n out_5c, .slice (some t25) 1 1] h2 fun v h3 => ∃ t26a : Option Addr, ∃ t26n : Nat, ∃ t26c : Nat, v = .slice t26a t26n t26c ∧ Kn1 (t26a, t26n, t26c, wrap .i64 (i_6 + 1)) h3)) else (Kn1 (out_5a, out_5n, out_5c, wrap .i64 (i_6 + 1)) h))) else (Q (.slice out_5a out_5n out_5c) h)
def ref48_without_v (l_0a : Option Addr) (l_0n l_0c : Nat) (s_1 : ByteArray) (Q : QT) (h : Heap) : Prop :=
 alV h (.cells #[] T_string) fun t7 h1 => LoopV (fun (s : (Option Addr) × Nat × Nat × Int) h Kn => ref48_without_l1 l_0a l_0n l_0c s_1 Q s.1 s.2.1 s.2.2.1 s.2.2.2 h Kn) (some t7, 0, 0, 0) h1
set_option maxRecDepth 100000 in
theorem ref48_without_s (l_0a : Option Addr) (l_0n l_0c : Nat) (s_1 : ByteArray) {Q : QT} {h : Heap} (hk : ref48_without_v l_0a l_0n l_0c s_1 Q h) : CallT Try.prog fn_ref48_without #[.slice l_0a l_0n l_0c, .string s_1] h Q :=
 callU follows Try.func30 (Try.call30 _) rfl rfl [] [(8, fun e h => dL (e 0) fun l_0a l_0n l_0c => dS (e 1) fun s_1 => dL (e 5) fun out_5a out_5n out_5c => dI .i64 (e 6) fun i_6 => LoopV (fun (s : (Option Addr) × Nat × Nat × Int) h Kn => ref48_without_l1 l_0a l_0n l_0c s_1 Q s.1 s.2.1 s.2.2.1 s.2.2.2 h Kn) (out_5a, out_5n, out_5c, i_6) h)]
 trivial
 ⟨⟨by kernel_rfl, fun e h he hk => by
 have F := Ag.nil (e := e)
 have ⟨l_0a, l_0n, l_0c, F, hk⟩ := eL F hk
 have ⟨s_1, F, hk⟩ := eS F hk
 have ⟨out_5a, out_5n, out_5c, F, hk⟩ := eL F hk
 have ⟨i_6, F, hk⟩ := eI F hk
 exact loopU (s0 := (out_5a, out_5n, out_5c, i_6)) follows (fun _ h => by cases h) he F (fun s => [(6, .int .i64 s.2.2.2), (5, .slice s.1 s.2.1 s.2.2.1)]) (by kernel_rfl) (F.take 2) hk (fun Kn1 e h => dL (e 5) fun out_5a out_5n out_5c => dI .i64 (e 6) fun i_6 => Kn1 (out_5a, out_5n, out_5c, i_6) h) (fun Kn1 e h hk => by
  have F := Ag.nil (e := e)
  have ⟨out_5a, out_5n, out_5c, F, hk⟩ := eL F hk
  have ⟨i_6, F, hk⟩ := eI F hk
  exact ⟨(out_5a, out_5n, out_5c, i_6), F, hk⟩)
  (fun Kn1 => []) (fun Kn1 => [])
  (fun Kn1 => trivial)
  (fun Kn1 => trivial) (fun e s h Kn1 => by as_aux_lemma => kernel_rfl)⟩, trivial⟩ (by as_aux_lemma => kernel_rfl) hk
/-! ### intrusion/lexer.class -/
def lexer_class_b1 (r_3 : Int) (Q : QT) (h : Heap) : Prop :=
 if (decide (r_3 ≥ 48)) = true then (if (decide (r_3 ≤ 57)) = true then (Q (.int .i64 3) h) else (if (r_3 == 95) = true then (Q (.int .i64 4) h) else (if (r_3 == 46) = true then (Q (.int .i64 4) h) else (if (r_3 == 58) = true then (Q (.int .i64 4) h) else (if (r_3 == 47) = true then (Q (.int .i64 4) h) else (Q (.int .i64 0) h)))))) else (if (r_3 == 95) = true then (Q (.int .i64 4) h) else (if (r_3 == 46) = true then (Q (.int .i64 4) h) else (if (r_3 == 58) = true then (Q (.int .i64 4) h) else (if (r_3 == 47) = true then (Q (.int .i64 4) h) else (Q (.int .i64 0) h)))))
def lexer_class_v (c_0 : Int) (Q : QT) (h : Heap) : Prop :=
 if ((wrap .i32 c_0) == 32) = true then (Q (.int .i64 1) h) else (if ((wrap .i32 c_0) == 9) = true then (Q (.int .i64 1) h) else (if ((wrap .i32 c_0) == 10) = true then (Q (.int .i64 1) h) else (if ((wrap .i32 c_0) == 13) = true then (Q (.int .i64 1) h) else (if (decide ((wrap .i32 c_0) ≥ 97)) = true then (if (decide ((wrap .i32 c_0) ≤ 122)) = true then (Q (.int .i64 2) h) else (if (decide ((wrap .i32 c_0) ≥ 65)) = true then (if (decide ((wrap .i32 c_0) ≤ 90)) = true then (Q (.int .i64 2) h) else (lexer_class_b1 (wrap .i32 c_0) Q h)) else (lexer_class_b1 (wrap .i32 c_0) Q h))) else (if (decide ((wrap .i32 c_0) ≥ 65)) = true then (if (decide ((wrap .i32 c_0) ≤ 90)) = true then (Q (.int .i64 2) h) else (lexer_class_b1 (wrap .i32 c_0) Q h)) else (lexer_class_b1 (wrap .i32 c_0) Q h))))))
set_option maxRecDepth 100000 in
theorem lexer_class_s (c_0 : Int) {Q : QT} {h : Heap} (hk : lexer_class_v c_0 Q h) : CallT Try.prog fn_lexer_class #[.int .u8 c_0] h Q :=
 callU follows Try.func31 (Try.call31 _) rfl rfl [(15, fun e h => dI .i32 (e 3) fun r_3 => lexer_class_b1 r_3 Q h)] []
 ⟨fun e h _ hk => by
 have F := Ag.nil (e := e)
 have ⟨r_3, F, hk⟩ := eI F hk
 exact cutU F (by as_aux_lemma => kernel_rfl) hk, trivial⟩
 trivial (by as_aux_lemma => kernel_rfl) hk
/-! ### intrusion/lexer.while -/
def lexer_while_l1 (s_0 : ByteArray) (has_2 : Value) (Q : QT) (at_1 : Int) (h : Heap) (Kn1 : Int → Heap → Prop) : Prop :=
 if (decide (at_1 < ((s_0.size : Nat) : Int))) = true then (idxS s_0 at_1 fun t15 => CallV Try.prog has_2 #[.int .u8 t15] h fun v h1 => ∃ t16 : Bool, v = .bool t16 ∧ if t16 = true then (Kn1 (wrap .i64 (at_1 + 1)) h1) else (Q (.int .i64 at_1) h1)) else (Q (.int .i64 at_1) h)
def lexer_while_v (s_0 : ByteArray) (at_1 : Int) (has_2 : Value) (Q : QT) (h : Heap) : Prop :=
 LoopV (fun (s : Int) h Kn => lexer_while_l1 s_0 has_2 Q s h Kn) at_1 h
set_option maxRecDepth 100000 in
theorem lexer_while_s (s_0 : ByteArray) (at_1 : Int) (has_2 : Value) {Q : QT} {h : Heap} (hk : lexer_while_v s_0 at_1 has_2 Q h) : CallT Try.prog fn_lexer_while #[.string s_0, .int .i64 at_1, has_2] h Q :=
 callU follows Try.func32 (Try.call32 _) rfl rfl [] [(4, fun e h => dS (e 0) fun s_0 => dV (e 2) fun has_2 => dI .i64 (e 1) fun at_1 => LoopV (fun (s : Int) h Kn => lexer_while_l1 s_0 has_2 Q s h Kn) at_1 h)]
 trivial
 ⟨⟨by kernel_rfl, fun e h he hk => by
 have F := Ag.nil (e := e)
 have ⟨s_0, F, hk⟩ := eS F hk
 have ⟨has_2, F, hk⟩ := eV F hk
 have ⟨at_1, F, hk⟩ := eI F hk
 exact loopU (s0 := at_1) follows (fun _ h => by cases h) he F (fun s => [(1, .int .i64 s)]) (by kernel_rfl) (F.take 1) hk (fun Kn1 e h => dI .i64 (e 1) fun at_1 => Kn1 at_1 h) (fun Kn1 e h hk => by
  have F := Ag.nil (e := e)
  have ⟨at_1, F, hk⟩ := eI F hk
  exact ⟨at_1, F, hk⟩)
  (fun Kn1 => []) (fun Kn1 => [])
  (fun Kn1 => trivial)
  (fun Kn1 => trivial) (fun e s h Kn1 => by as_aux_lemma => kernel_rfl)⟩, trivial⟩ (by as_aux_lemma => kernel_rfl) hk
/-! ### intrusion/lexer.inName -/
def lexer_inName_v (c_0 : Int) (Q : QT) (h : Heap) : Prop :=
 if (c_0 == 95) = true then (Q (.bool true) h) else (CallT Try.prog fn_lexer_class #[.int .u8 c_0] h fun v h1 => ∃ t7 : Int, v = .int .i64 t7 ∧ if (t7 == 2) = true then (Q (.bool true) h1) else (CallT Try.prog fn_lexer_class #[.int .u8 c_0] h1 fun v h2 => ∃ t12 : Int, v = .int .i64 t12 ∧ Q (.bool (t12 == 3)) h2))
set_option maxRecDepth 100000 in
theorem lexer_inName_s (c_0 : Int) {Q : QT} {h : Heap} (hk : lexer_inName_v c_0 Q h) : CallT Try.prog fn_lexer_inName #[.int .u8 c_0] h Q :=
 callU follows Try.func33 (Try.call33 _) rfl rfl [] []
 trivial
 trivial (by as_aux_lemma => kernel_rfl) hk
/-! ### intrusion/intrusionref04.Letter -/
def ref04_Letter_v (c_0 : Int) (Q : QT) (h : Heap) : Prop :=
 if (decide (c_0 ≥ 97)) = true then (if (decide (c_0 ≤ 122)) = true then (Q (.bool true) h) else (if (decide (c_0 ≥ 65)) = true then (Q (.bool (decide (c_0 ≤ 90))) h) else (Q (.bool false) h))) else (if (decide (c_0 ≥ 65)) = true then (Q (.bool (decide (c_0 ≤ 90))) h) else (Q (.bool false) h))
set_option maxRecDepth 100000 in
theorem ref04_Letter_s (c_0 : Int) {Q : QT} {h : Heap} (hk : ref04_Letter_v c_0 Q h) : CallT Try.prog fn_ref04_Letter #[.int .u8 c_0] h Q :=
 callU follows Try.func38 (Try.call38 _) rfl rfl [] []
 trivial
 trivial (by as_aux_lemma => kernel_rfl) hk
/-! ### intrusion/intrusionref04.inName -/
def ref04_inName_v (c_0 : Int) (Q : QT) (h : Heap) : Prop :=
 CallT Try.prog fn_ref04_Letter #[.int .u8 c_0] h fun v h1 => ∃ t4 : Bool, v = .bool t4 ∧ if t4 = true then (Q (.bool true) h1) else (CallT Try.prog fn_ref04_Digit #[.int .u8 c_0] h1 fun v h2 => ∃ t7 : Bool, v = .bool t7 ∧ if t7 = true then (Q (.bool true) h2) else (Q (.bool (c_0 == 95)) h2))
set_option maxRecDepth 100000 in
theorem ref04_inName_s (c_0 : Int) {Q : QT} {h : Heap} (hk : ref04_inName_v c_0 Q h) : CallT Try.prog fn_ref04_inName #[.int .u8 c_0] h Q :=
 callU follows Try.func39 (Try.call39 _) rfl rfl [] []
 trivial
 trivial (by as_aux_lemma => kernel_rfl) hk
/-! ### intrusion/intrusionref04.Digit -/
def ref04_Digit_v (c_0 : Int) (Q : QT) (h : Heap) : Prop :=
 if (decide (c_0 ≥ 48)) = true then (Q (.bool (decide (c_0 ≤ 57))) h) else (Q (.bool false) h)
set_option maxRecDepth 100000 in
theorem ref04_Digit_s (c_0 : Int) {Q : QT} {h : Heap} (hk : ref04_Digit_v c_0 Q h) : CallT Try.prog fn_ref04_Digit #[.int .u8 c_0] h Q :=
 callU follows Try.func43 (Try.call43 _) rfl rfl [] []
 trivial
 trivial (by as_aux_lemma => kernel_rfl) hk
end Go.Proofs.Ytflkadcffgpagaa
