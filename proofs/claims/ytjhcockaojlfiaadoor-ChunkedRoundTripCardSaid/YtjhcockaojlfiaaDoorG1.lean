/-
  Printed by wip/tool/gen2.py: verification conditions, and the proof that each suffices.
-/
import Derived.Test.YtjhcockaojlfiaaDoorProg
import Derived.Test.YtjhcockaojlfiaaDoorVcTree
namespace Go.Proofs.YtjhcockaojlfiaaDoor
set_option linter.unusedSimpArgs false
set_option linter.unusedVariables false
set_option maxRecDepth 20000
open Go IntKind
abbrev fn_main_main : FuncId := 0
abbrev fn_gosem_cut : FuncId := 1
abbrev fn_gosem_cut_init : FuncId := 2
abbrev fn_law27_ChunkedFeeds : FuncId := 3
abbrev fn_law27_ChunkedEncodes : FuncId := 4
abbrev fn_law27_ChunkedSplit : FuncId := 5
abbrev fn_law27_ChunkedRoundTrip : FuncId := 6
abbrev fn_law27_ChunkedStops : FuncId := 7
abbrev fn_chunked_New : FuncId := 8
abbrev fn_law27_long : FuncId := 9
abbrev fn_law27_lives : FuncId := 10
abbrev fn_chunked_Decoder_Feed : FuncId := 11
abbrev fn_ref27_Decoder_Feed : FuncId := 12
abbrev fn_chunked_Decoder_Done : FuncId := 13
abbrev fn_ref27_Decoder_Done : FuncId := 14
abbrev fn_chunked_Encode : FuncId := 15
abbrev fn_ref27_Encode : FuncId := 16
abbrev fn_chunked_Decoder_Feed_1 : FuncId := 17
abbrev fn_chunked_Decoder_step : FuncId := 18
abbrev fn_ref27_Decoder_begin : FuncId := 19
abbrev fn_ref27_Decoder_step : FuncId := 20
abbrev fn_strconv_FormatInt : FuncId := 21
abbrev fn_ref27_hex : FuncId := 22
abbrev fn_chunked_Decoder_line : FuncId := 23
abbrev fn_chunked_Decoder_count : FuncId := 24
abbrev fn_chunked_hex : FuncId := 25
abbrev fn_ref27_Decoder_end : FuncId := 26
abbrev fn_ref27_Decoder_free : FuncId := 27
abbrev fn_ref27_Decoder_count : FuncId := 28
abbrev fn_ref27_Digit : FuncId := 29
abbrev fn_internal_strconv_FormatInt : FuncId := 30
abbrev fn_internal_strconv_small : FuncId := 31
abbrev fn_internal_strconv_numDigits : FuncId := 32
abbrev fn_internal_strconv_formatBase10 : FuncId := 33
abbrev fn_internal_strconv_formatBits : FuncId := 34
abbrev fn_internal_strconv_log10Pow2 : FuncId := 35
abbrev fn_math_bits_Len64 : FuncId := 36
abbrev fn_internal_strconv_bool2_int : FuncId := 37
abbrev fn_internal_strconv_isPowerOfTwo : FuncId := 38
abbrev fn_math_bits_TrailingZeros : FuncId := 39
abbrev fn_math_bits_TrailingZeros32 : FuncId := 40
abbrev fn_math_bits_TrailingZeros64 : FuncId := 41
abbrev fn_runtime_boundsError_Error : FuncId := 42
abbrev fn_runtime_boundsError_RuntimeError : FuncId := 43
abbrev fn_runtime_errorString_Error : FuncId := 44
abbrev fn_runtime_errorString_RuntimeError : FuncId := 45
abbrev fn_runtime_plainError_Error : FuncId := 46
abbrev fn_runtime_plainError_RuntimeError : FuncId := 47
abbrev fn_runtime_errorAddressString_Error : FuncId := 48
abbrev fn_runtime_errorAddressString_RuntimeError : FuncId := 49
abbrev fn_runtime_TypeAssertionError_Error : FuncId := 50
abbrev fn_runtime_TypeAssertionError_RuntimeError : FuncId := 51
abbrev fn_runtime_PanicNilError_Error : FuncId := 52
abbrev fn_runtime_PanicNilError_RuntimeError : FuncId := 53
abbrev fn_internal_abi_Type_Align : FuncId := 54
abbrev fn_internal_runtime_maps_unhashableTypeError_Error : FuncId := 55
abbrev fn_internal_runtime_maps_unhashableTypeError_RuntimeError : FuncId := 56
abbrev fn_api_Errno_Error : FuncId := 57
abbrev fn_internal_abi_Kind_String : FuncId := 58
abbrev fn_var_s_door_gosem_cut_vars_holds_initialisers_alone_see_the_manifest_s_row_cutvarsword_look_11_test_files_too : FuncId := 59
abbrev fn_var_s_door_internal_strconv_uint64pow10_is_laid_by_its_own_initialiser_plain_data_look_11 : FuncId := 60
abbrev fn_var_s_door_math_bits_deBruijn32tab_is_laid_by_its_own_initialiser_plain_data_look_11 : FuncId := 61
abbrev fn_var_s_door_math_bits_deBruijn64tab_is_laid_by_its_own_initialiser_plain_data_look_11 : FuncId := 62
abbrev fn_var_s_door_the_look_of_gosem_cut_vars_went_over_the_folder_that_the_caller_named_as_the_repository_s_root_look_11 : FuncId := 63
abbrev fn_gosem_cut_vars : FuncId := 64
abbrev T_t : TypeId := 0
abbrev T_func : TypeId := 1
abbrev T_int64 : TypeId := 2
abbrev T_int : TypeId := 3
abbrev T_bool : TypeId := 4
abbrev T_uint8 : TypeId := 5
abbrev T_abi_BoundsErrorCode : TypeId := 6
abbrev T_struct_x_int64_y_int_signed_bool_code_abi_BoundsErrorCode : TypeId := 7
abbrev T_runtime_boundsError : TypeId := 8
abbrev T_string : TypeId := 9
abbrev T_runtime_errorString : TypeId := 10
abbrev T_runtime_plainError : TypeId := 11
abbrev T_uintptr : TypeId := 12
abbrev T_struct_msg_string_addr_uintptr : TypeId := 13
abbrev T_runtime_errorAddressString : TypeId := 14
abbrev T_p_runtime_TypeAssertionError : TypeId := 15
abbrev T_p_runtime_PanicNilError : TypeId := 16
abbrev T_p_abi_Type : TypeId := 17
abbrev T_struct_typ_p_abi_Type : TypeId := 18
abbrev T_maps_unhashableTypeError : TypeId := 19
abbrev T_interface : TypeId := 20
abbrev T_int32 : TypeId := 21
abbrev T_sl_string : TypeId := 22
abbrev T_p_chunked_Decoder : TypeId := 23
abbrev T_func_p_chunked_Decoder : TypeId := 24
abbrev T_p_intrusionref27_Decoder : TypeId := 25
abbrev T_struct_State_int_Size_int_Line_int_Return_bool_Left_int : TypeId := 26
abbrev T_intrusionref27_Decoder : TypeId := 27
abbrev T_func_sl_string_bool : TypeId := 28
abbrev T_func_bool : TypeId := 29
abbrev T_api_Errno : TypeId := 30
abbrev T_string_string_bool_api_Errno : TypeId := 31
abbrev T_func_string_string_string_bool_api_Errno : TypeId := 32
abbrev T_func_sl_string_string : TypeId := 33
abbrev T_func_sl_string_string_bool : TypeId := 34
abbrev T_sl_uint8 : TypeId := 35
abbrev T_func_string_string_int_bool : TypeId := 36
abbrev T_struct_state_int_length_int_size_int_waits_bool : TypeId := 37
abbrev T_chunked_Decoder : TypeId := 38
abbrev T_func_int : TypeId := 39
abbrev T_func_uint8_api_Errno : TypeId := 40
abbrev T_func_int64_int_string : TypeId := 41
abbrev T_func_int_string : TypeId := 42
abbrev T_func_api_Errno : TypeId := 43
abbrev T_func_int_api_Errno : TypeId := 44
abbrev T_func_uint8_int : TypeId := 45
abbrev T_24_uint8 : TypeId := 46
abbrev T_uint64 : TypeId := 47
abbrev T_func_uint64_int : TypeId := 48
abbrev T_func_sl_uint8_uint64 : TypeId := 49
abbrev T_sl_uint8_string : TypeId := 50
abbrev T_func_sl_uint8_uint64_int_bool_bool_sl_uint8_string : TypeId := 51
abbrev T_func_int_int : TypeId := 52
abbrev T_func_bool_int : TypeId := 53
abbrev T_20_uint64 : TypeId := 54
abbrev T_uint32 : TypeId := 55
abbrev T_65_uint8 : TypeId := 56
abbrev T_func_int_bool : TypeId := 57
abbrev T_uint : TypeId := 58
abbrev T_func_uint_int : TypeId := 59
abbrev T_func_uint32_int : TypeId := 60
abbrev T_32_uint8 : TypeId := 61
abbrev T_64_uint8 : TypeId := 62
abbrev T_func_string : TypeId := 63
abbrev T_struct__interface_p_abi_Type_concrete_p_abi_Type_asserted_ : TypeId := 64
abbrev T_runtime_TypeAssertionError : TypeId := 65
abbrev T_0_p_runtime_PanicNilError : TypeId := 66
abbrev T_struct___0_p_runtime_PanicNilError : TypeId := 67
abbrev T_runtime_PanicNilError : TypeId := 68
abbrev T_func_int_2 : TypeId := 69
abbrev T_abi_TFlag : TypeId := 70
abbrev T_abi_Kind : TypeId := 71
abbrev T_func_unsafe_Pointer_unsafe_Pointer_bool : TypeId := 72
abbrev T_p_uint8 : TypeId := 73
abbrev T_abi_NameOff : TypeId := 74
abbrev T_abi_TypeOff : TypeId := 75
abbrev T_struct_Size__uintptr_PtrBytes_uintptr_Hash_uint32_TFlag_ab : TypeId := 76
abbrev T_abi_Type : TypeId := 77
abbrev T_unsafe_Pointer : TypeId := 78
theorem follows : Tryd.prog.follows .mixedOrders = true := by kernel_rfl
variable [Gh]
/-! ### intrusion/intrusionlaw27.ChunkedFeeds -/
def law27_ChunkedFeeds_b2 (Q : QT) (h : Heap) : Prop :=
 CallT Tryd.prog fn_law27_lives #[] h fun v h10 => ∃ t77 : Bool, v = .bool t77 ∧ Q (.bool t77) h10
def law27_ChunkedFeeds_l1 (l_0a : Option Addr) (l_0n l_0c : Nat) (d_3 : Option Addr) (x_4 : Addr) (Q : QT) (i_5 : Int) (h : Heap) (Kn1 : Int → Heap → Prop) : Prop :=
 if (decide (i_5 < ((l_0n : Nat) : Int))) = true then (idxA i_5 l_0n (nn l_0a fun t34 => ldS h (Addr.add t34 ((i_5).toNat * 1)) fun t35 => CallT Tryd.prog fn_chunked_Decoder_Feed #[.pointer d_3, .string t35] h fun v h6 => ∃ t36_0 : ByteArray, ∃ t36_1 : ByteArray, ∃ t36_2 : Bool, ∃ t36_3 : Int, v = .tuple #[.string t36_0, .string t36_1, .bool t36_2, .int .i64 t36_3] ∧ idxA i_5 l_0n (nn l_0a fun t45 => ldS h6 (Addr.add t45 ((i_5).toNat * 1)) fun t46 => CallT Tryd.prog fn_ref27_Decoder_Feed #[.pointer (some x_4), .string t46] h6 fun v h7 => ∃ t47_0 : ByteArray, ∃ t47_1 : ByteArray, ∃ t47_2 : Bool, ∃ t47_3 : Int, v = .tuple #[.string t47_0, .string t47_1, .bool t47_2, .int .i64 t47_3] ∧ if (!(t36_0.toList == t47_0.toList)) = true then (Q (.bool false) h7) else (if (!(t36_1.toList == t47_1.toList)) = true then (Q (.bool false) h7) else (if (!(t36_2 == t47_2)) = true then (Q (.bool false) h7) else (if (t36_3 != t47_3) = true then (Q (.bool false) h7) else (CallT Tryd.prog fn_chunked_Decoder_Done #[.pointer d_3] h7 fun v h8 => ∃ t72 : Bool, v = .bool t72 ∧ CallT Tryd.prog fn_ref27_Decoder_Done #[.pointer (some x_4)] h8 fun v h9 => ∃ t74 : Bool, v = .bool t74 ∧ if (!(t72 == t74)) = true then (Q (.bool false) h9) else (Kn1 (wrap .i64 (i_5 + 1)) h9)))))))) else (law27_ChunkedFeeds_b2 Q h)
def law27_ChunkedFeeds_v (l_0a : Option Addr) (l_0n l_0c : Nat) (Q : QT) (h : Heap) : Prop :=
 CallT Tryd.prog fn_chunked_New #[] h fun v h1 => ∃ t14 : Option Addr, v = .pointer t14 ∧ alV h1 (.cells #[.int .i64 0, .int .i64 0, .int .i64 0, .bool false, .int .i64 0] T_intrusionref27_Decoder) fun t16 h2 => CallT Tryd.prog fn_law27_long #[.slice l_0a l_0n l_0c] h2 fun v h3 => ∃ t18 : Bool, v = .bool t18 ∧ if t18 = true then (CallT Tryd.prog fn_law27_lives #[] h3 fun v h4 => ∃ t23 : Bool, v = .bool t23 ∧ Q (.bool t23) h4) else (if (Option.isNone t14) = true then (CallT Tryd.prog fn_law27_lives #[] h3 fun v h5 => ∃ t23 : Bool, v = .bool t23 ∧ Q (.bool t23) h5) else (LoopV (fun (s : Int) h Kn => law27_ChunkedFeeds_l1 l_0a l_0n l_0c t14 t16 Q s h Kn) 0 h3))
set_option maxRecDepth 100000 in
theorem law27_ChunkedFeeds_s (l_0a : Option Addr) (l_0n l_0c : Nat) {Q : QT} {h : Heap} (hk : law27_ChunkedFeeds_v l_0a l_0n l_0c Q h) : CallT Tryd.prog fn_law27_ChunkedFeeds #[.slice l_0a l_0n l_0c] h Q :=
 callU follows Tryd.func3 (Tryd.call3 _) rfl rfl [(24, fun e h => law27_ChunkedFeeds_b2 Q h)] [(12, fun e h => dL (e 0) fun l_0a l_0n l_0c => dP (e 3) fun d_3 => dA (e 4) fun x_4 => dI .i64 (e 5) fun i_5 => LoopV (fun (s : Int) h Kn => law27_ChunkedFeeds_l1 l_0a l_0n l_0c d_3 x_4 Q s h Kn) i_5 h)]
 ⟨fun e h _ hk => by
 have F := Ag.nil (e := e)
 exact cutU F (by as_aux_lemma => kernel_rfl) hk, trivial⟩
 ⟨⟨by kernel_rfl, fun e h he hk => by
 have F := Ag.nil (e := e)
 have ⟨l_0a, l_0n, l_0c, F, hk⟩ := eL F hk
 have ⟨d_3, F, hk⟩ := eP F hk
 have ⟨x_4, F, hk⟩ := eA F hk
 have ⟨i_5, F, hk⟩ := eI F hk
 exact loopU (s0 := i_5) follows (fun _ h => by cases h) he F (fun s => [(5, .int .i64 s)]) (by kernel_rfl) (F.take 1) hk (fun Kn1 e h => dI .i64 (e 5) fun i_5 => Kn1 i_5 h) (fun Kn1 e h hk => by
  have F := Ag.nil (e := e)
  have ⟨i_5, F, hk⟩ := eI F hk
  exact ⟨i_5, F, hk⟩)
  (fun Kn1 => []) (fun Kn1 => [])
  (fun Kn1 => trivial)
  (fun Kn1 => trivial) (fun e s h Kn1 => by as_aux_lemma => kernel_rfl)⟩, trivial⟩ (by as_aux_lemma => kernel_rfl) hk
/-! ### intrusion/intrusionlaw27.ChunkedEncodes -/
def law27_ChunkedEncodes_v (l_0a : Option Addr) (l_0n l_0c : Nat) (Q : QT) (h : Heap) : Prop :=
 CallT Tryd.prog fn_law27_long #[.slice l_0a l_0n l_0c] h fun v h1 => ∃ t4 : Bool, v = .bool t4 ∧ if t4 = true then (CallT Tryd.prog fn_law27_lives #[] h1 fun v h2 => ∃ t5 : Bool, v = .bool t5 ∧ Q (.bool t5) h2) else (CallT Tryd.prog fn_chunked_Encode #[.slice l_0a l_0n l_0c] h1 fun v h3 => ∃ t7 : ByteArray, v = .string t7 ∧ CallT Tryd.prog fn_ref27_Encode #[.slice l_0a l_0n l_0c] h3 fun v h4 => ∃ t9 : ByteArray, v = .string t9 ∧ if (t7.toList == t9.toList) = true then (CallT Tryd.prog fn_law27_lives #[] h4 fun v h5 => ∃ t12 : Bool, v = .bool t12 ∧ Q (.bool t12) h5) else (Q (.bool false) h4))
set_option maxRecDepth 100000 in
theorem law27_ChunkedEncodes_s (l_0a : Option Addr) (l_0n l_0c : Nat) {Q : QT} {h : Heap} (hk : law27_ChunkedEncodes_v l_0a l_0n l_0c Q h) : CallT Tryd.prog fn_law27_ChunkedEncodes #[.slice l_0a l_0n l_0c] h Q :=
 callU follows Tryd.func4 (Tryd.call4 _) rfl rfl [] []
 trivial
 trivial (by as_aux_lemma => kernel_rfl) hk
/-! ### intrusion/intrusionlaw27.ChunkedSplit -/
def law27_ChunkedSplit_b4 (l_0a : Option Addr) (l_0n l_0c : Nat) (d_3 g_4 : Option Addr) (s_5 data_6 left_7 : ByteArray) (over_8 : Bool) (found_9 i_10 : Int) (t61 : Bool) (Q : QT) (Kn1 : ByteArray × ByteArray × ByteArray × Bool × Int × Int → Heap → Prop) (h : Heap) : Prop :=
 if t61 = true then (Q (.bool false) h) else (idxA i_10 l_0n (nn l_0a fun t65 => ldS h (Addr.add t65 ((i_10).toNat * 1)) fun t66 => ((left_7.size + t66.size : Nat) : Int) ≤ IntKind.max .i64 ∧ Kn1 (s_5, data_6, left_7 ++ t66, over_8, found_9, wrap .i64 (i_10 + 1)) h))
def law27_ChunkedSplit_b3 (l_0a : Option Addr) (l_0n l_0c : Nat) (d_3 g_4 : Option Addr) (s_5 data_6 left_7 : ByteArray) (over_8 : Bool) (found_9 i_10 : Int) (done_13 : Bool) (e_14 : Int) (Q : QT) (Kn1 : ByteArray × ByteArray × ByteArray × Bool × Int × Int → Heap → Prop) (h : Heap) : Prop :=
 CallT Tryd.prog fn_chunked_Decoder_Done #[.pointer d_3] h fun v h6 => ∃ t82 : Bool, v = .bool t82 ∧ if (!(done_13 == t82)) = true then (Q (.bool false) h6) else (if done_13 = true then (if (e_14 != 0) = true then (Q (.bool false) h6) else (Kn1 (s_5, data_6, left_7, over_8, found_9, wrap .i64 (i_10 + 1)) h6)) else (Kn1 (s_5, data_6, left_7, over_8, found_9, wrap .i64 (i_10 + 1)) h6))
def law27_ChunkedSplit_b2 (d_3 g_4 : Option Addr) (s_5 data_6 left_7 : ByteArray) (found_9 : Int) (Q : QT) (h : Heap) : Prop :=
 CallT Tryd.prog fn_chunked_Decoder_Feed #[.pointer g_4, .string s_5] h fun v h7 => ∃ t94_0 : ByteArray, ∃ t94_1 : ByteArray, ∃ t94_2 : Bool, ∃ t94_3 : Int, v = .tuple #[.string t94_0, .string t94_1, .bool t94_2, .int .i64 t94_3] ∧ if (t94_0.toList == data_6.toList) = true then (if (t94_3 == found_9) = true then (CallT Tryd.prog fn_chunked_Decoder_Done #[.pointer d_3] h7 fun v h8 => ∃ t110 : Bool, v = .bool t110 ∧ if (t94_2 == t110) = true then (CallT Tryd.prog fn_chunked_Decoder_Done #[.pointer g_4] h8 fun v h9 => ∃ t116 : Bool, v = .bool t116 ∧ if (t94_2 == t116) = true then (if (!t94_2) = true then (Q (.bool true) h9) else (Q (.bool (t94_1.toList == left_7.toList)) h9)) else (Q (.bool false) h9)) else (Q (.bool false) h8)) else (Q (.bool false) h7)) else (Q (.bool false) h7)
def law27_ChunkedSplit_l1 (l_0a : Option Addr) (l_0n l_0c : Nat) (d_3 g_4 : Option Addr) (Q : QT) (s_5 data_6 left_7 : ByteArray) (over_8 : Bool) (found_9 i_10 : Int) (h : Heap) (Kn1 : ByteArray × ByteArray × ByteArray × Bool × Int × Int → Heap → Prop) : Prop :=
 if (decide (i_10 < ((l_0n : Nat) : Int))) = true then (idxA i_10 l_0n (nn l_0a fun t34 => ldS h (Addr.add t34 ((i_10).toNat * 1)) fun t35 => ((s_5.size + t35.size : Nat) : Int) ≤ IntKind.max .i64 ∧ idxA i_10 l_0n (nn l_0a fun t41 => ldS h (Addr.add t41 ((i_10).toNat * 1)) fun t42 => CallT Tryd.prog fn_chunked_Decoder_Feed #[.pointer d_3, .string t42] h fun v h5 => ∃ t43_0 : ByteArray, ∃ t43_1 : ByteArray, ∃ t43_2 : Bool, ∃ t43_3 : Int, v = .tuple #[.string t43_0, .string t43_1, .bool t43_2, .int .i64 t43_3] ∧ if over_8 = true then (if (!(t43_0.toList == (⟨#[]⟩ : ByteArray).toList)) = true then (law27_ChunkedSplit_b4 l_0a l_0n l_0c d_3 g_4 (s_5 ++ t35) data_6 left_7 over_8 found_9 i_10 true Q Kn1 h5) else (if (!(t43_1.toList == (⟨#[]⟩ : ByteArray).toList)) = true then (law27_ChunkedSplit_b4 l_0a l_0n l_0c d_3 g_4 (s_5 ++ t35) data_6 left_7 over_8 found_9 i_10 true Q Kn1 h5) else (if t43_2 = true then (law27_ChunkedSplit_b4 l_0a l_0n l_0c d_3 g_4 (s_5 ++ t35) data_6 left_7 over_8 found_9 i_10 true Q Kn1 h5) else (law27_ChunkedSplit_b4 l_0a l_0n l_0c d_3 g_4 (s_5 ++ t35) data_6 left_7 over_8 found_9 i_10 (t43_3 != 10) Q Kn1 h5)))) else (((data_6.size + t43_0.size : Nat) : Int) ≤ IntKind.max .i64 ∧ ((left_7.size + t43_1.size : Nat) : Int) ≤ IntKind.max .i64 ∧ if t43_2 = true then (law27_ChunkedSplit_b3 l_0a l_0n l_0c d_3 g_4 (s_5 ++ t35) (data_6 ++ t43_0) (left_7 ++ t43_1) true t43_3 i_10 t43_2 t43_3 Q Kn1 h5) else (law27_ChunkedSplit_b3 l_0a l_0n l_0c d_3 g_4 (s_5 ++ t35) (data_6 ++ t43_0) (left_7 ++ t43_1) (t43_3 != 0) t43_3 i_10 t43_2 t43_3 Q Kn1 h5))))) else (law27_ChunkedSplit_b2 d_3 g_4 s_5 data_6 left_7 found_9 Q h)
def law27_ChunkedSplit_v (l_0a : Option Addr) (l_0n l_0c : Nat) (Q : QT) (h : Heap) : Prop :=
 CallT Tryd.prog fn_law27_lives #[] h fun v h1 => ∃ t19 : Bool, v = .bool t19 ∧ if (!t19) = true then (Q (.bool false) h1) else (CallT Tryd.prog fn_chunked_New #[] h1 fun v h2 => ∃ t21 : Option Addr, v = .pointer t21 ∧ CallT Tryd.prog fn_chunked_New #[] h2 fun v h3 => ∃ t22 : Option Addr, v = .pointer t22 ∧ CallT Tryd.prog fn_law27_long #[.slice l_0a l_0n l_0c] h3 fun v h4 => ∃ t24 : Bool, v = .bool t24 ∧ if t24 = true then (Q (.bool true) h4) else (LoopV (fun (s : ByteArray × ByteArray × ByteArray × Bool × Int × Int) h Kn => law27_ChunkedSplit_l1 l_0a l_0n l_0c t21 t22 Q s.1 s.2.1 s.2.2.1 s.2.2.2.1 s.2.2.2.2.1 s.2.2.2.2.2 h Kn) ((⟨#[]⟩ : ByteArray), (⟨#[]⟩ : ByteArray), (⟨#[]⟩ : ByteArray), false, 0, 0) h4))
set_option maxRecDepth 100000 in
theorem law27_ChunkedSplit_s (l_0a : Option Addr) (l_0n l_0c : Nat) {Q : QT} {h : Heap} (hk : law27_ChunkedSplit_v l_0a l_0n l_0c Q h) : CallT Tryd.prog fn_law27_ChunkedSplit #[.slice l_0a l_0n l_0c] h Q :=
 callU follows Tryd.func5 (Tryd.call5 _) rfl rfl [(50, fun e h => dP (e 3) fun d_3 => dP (e 4) fun g_4 => dS (e 5) fun s_5 => dS (e 6) fun data_6 => dS (e 7) fun left_7 => dI .i64 (e 9) fun found_9 => law27_ChunkedSplit_b2 d_3 g_4 s_5 data_6 left_7 found_9 Q h)] [(22, fun e h => dL (e 0) fun l_0a l_0n l_0c => dP (e 3) fun d_3 => dP (e 4) fun g_4 => dS (e 5) fun s_5 => dS (e 6) fun data_6 => dS (e 7) fun left_7 => dB (e 8) fun over_8 => dI .i64 (e 9) fun found_9 => dI .i64 (e 10) fun i_10 => LoopV (fun (s : ByteArray × ByteArray × ByteArray × Bool × Int × Int) h Kn => law27_ChunkedSplit_l1 l_0a l_0n l_0c d_3 g_4 Q s.1 s.2.1 s.2.2.1 s.2.2.2.1 s.2.2.2.2.1 s.2.2.2.2.2 h Kn) (s_5, data_6, left_7, over_8, found_9, i_10) h)]
 ⟨fun e h _ hk => by
 have F := Ag.nil (e := e)
 have ⟨d_3, F, hk⟩ := eP F hk
 have ⟨g_4, F, hk⟩ := eP F hk
 have ⟨s_5, F, hk⟩ := eS F hk
 have ⟨data_6, F, hk⟩ := eS F hk
 have ⟨left_7, F, hk⟩ := eS F hk
 have ⟨found_9, F, hk⟩ := eI F hk
 exact cutU F (by as_aux_lemma => kernel_rfl) hk, trivial⟩
 ⟨⟨by kernel_rfl, fun e h he hk => by
 have F := Ag.nil (e := e)
 have ⟨l_0a, l_0n, l_0c, F, hk⟩ := eL F hk
 have ⟨d_3, F, hk⟩ := eP F hk
 have ⟨g_4, F, hk⟩ := eP F hk
 have ⟨s_5, F, hk⟩ := eS F hk
 have ⟨data_6, F, hk⟩ := eS F hk
 have ⟨left_7, F, hk⟩ := eS F hk
 have ⟨over_8, F, hk⟩ := eB F hk
 have ⟨found_9, F, hk⟩ := eI F hk
 have ⟨i_10, F, hk⟩ := eI F hk
 exact loopU (s0 := (s_5, data_6, left_7, over_8, found_9, i_10)) follows (fun _ h => by cases h) he F (fun s => [(10, .int .i64 s.2.2.2.2.2), (9, .int .i64 s.2.2.2.2.1), (8, .bool s.2.2.2.1), (7, .string s.2.2.1), (6, .string s.2.1), (5, .string s.1)]) (by kernel_rfl) (F.take 6) hk (fun Kn1 e h => dS (e 5) fun s_5 => dS (e 6) fun data_6 => dS (e 7) fun left_7 => dB (e 8) fun over_8 => dI .i64 (e 9) fun found_9 => dI .i64 (e 10) fun i_10 => Kn1 (s_5, data_6, left_7, over_8, found_9, i_10) h) (fun Kn1 e h hk => by
  have F := Ag.nil (e := e)
  have ⟨s_5, F, hk⟩ := eS F hk
  have ⟨data_6, F, hk⟩ := eS F hk
  have ⟨left_7, F, hk⟩ := eS F hk
  have ⟨over_8, F, hk⟩ := eB F hk
  have ⟨found_9, F, hk⟩ := eI F hk
  have ⟨i_10, F, hk⟩ := eI F hk
  exact ⟨(s_5, data_6, left_7, over_8, found_9, i_10), F, hk⟩)
  (fun Kn1 => [(34, fun e h => dL (e 0) fun l_0a l_0n l_0c => dP (e 3) fun d_3 => dP (e 4) fun g_4 => dS (e 5) fun s_5 => dS (e 6) fun data_6 => dS (e 7) fun left_7 => dB (e 8) fun over_8 => dI .i64 (e 9) fun found_9 => dI .i64 (e 10) fun i_10 => dB (e 61) fun t61 => law27_ChunkedSplit_b4 l_0a l_0n l_0c d_3 g_4 s_5 data_6 left_7 over_8 found_9 i_10 t61 Q Kn1 h), (46, fun e h => dL (e 0) fun l_0a l_0n l_0c => dP (e 3) fun d_3 => dP (e 4) fun g_4 => dS (e 5) fun s_5 => dS (e 6) fun data_6 => dS (e 7) fun left_7 => dB (e 8) fun over_8 => dI .i64 (e 9) fun found_9 => dI .i64 (e 10) fun i_10 => dB (e 13) fun done_13 => dI .i64 (e 14) fun e_14 => law27_ChunkedSplit_b3 l_0a l_0n l_0c d_3 g_4 s_5 data_6 left_7 over_8 found_9 i_10 done_13 e_14 Q Kn1 h)]) (fun Kn1 => [])
  (fun Kn1 => ⟨fun e h _ hk => by
 have F := Ag.nil (e := e)
 have ⟨l_0a, l_0n, l_0c, F, hk⟩ := eL F hk
 have ⟨d_3, F, hk⟩ := eP F hk
 have ⟨g_4, F, hk⟩ := eP F hk
 have ⟨s_5, F, hk⟩ := eS F hk
 have ⟨data_6, F, hk⟩ := eS F hk
 have ⟨left_7, F, hk⟩ := eS F hk
 have ⟨over_8, F, hk⟩ := eB F hk
 have ⟨found_9, F, hk⟩ := eI F hk
 have ⟨i_10, F, hk⟩ := eI F hk
 have ⟨t61, F, hk⟩ := eB F hk
 exact cutU F (by as_aux_lemma => kernel_rfl) hk, fun e h _ hk => by
 have F := Ag.nil (e := e)
 have ⟨l_0a, l_0n, l_0c, F, hk⟩ := eL F hk
 have ⟨d_3, F, hk⟩ := eP F hk
 have ⟨g_4, F, hk⟩ := eP F hk
 have ⟨s_5, F, hk⟩ := eS F hk
 have ⟨data_6, F, hk⟩ := eS F hk
 have ⟨left_7, F, hk⟩ := eS F hk
 have ⟨over_8, F, hk⟩ := eB F hk
 have ⟨found_9, F, hk⟩ := eI F hk
 have ⟨i_10, F, hk⟩ := eI F hk
 have ⟨done_13, F, hk⟩ := eB F hk
 have ⟨e_14, F, hk⟩ := eI F hk
 exact cutU F (by as_aux_lemma => kernel_rfl) hk, trivial⟩)
  (fun Kn1 => trivial) (fun e s h Kn1 => by as_aux_lemma => kernel_rfl)⟩, trivial⟩ (by as_aux_lemma => kernel_rfl) hk
/-! ### intrusion/intrusionlaw27.ChunkedRoundTrip -/
def law27_ChunkedRoundTrip_b3 (want_5 s_7 : ByteArray) (t66 : Bool) (Q : QT) (h : Heap) : Prop :=
 if t66 = true then (Q (.bool false) h) else (CallT Tryd.prog fn_chunked_New #[] h fun v h6 => ∃ t67 : Option Addr, v = .pointer t67 ∧ sliceStr s_7 none (some (wrap .i64 (((s_7.size : Nat) : Int) - 1))) fun t74 => CallT Tryd.prog fn_chunked_Decoder_Feed #[.pointer t67, .string t74] h6 fun v h7 => ∃ t75_0 : ByteArray, ∃ t75_1 : ByteArray, ∃ t75_2 : Bool, ∃ t75_3 : Int, v = .tuple #[.string t75_0, .string t75_1, .bool t75_2, .int .i64 t75_3] ∧ if (t75_0.toList == want_5.toList) = true then (if (t75_1.toList == (⟨#[]⟩ : ByteArray).toList) = true then (if (!t75_2) = true then (if (t75_3 == 0) = true then (CallT Tryd.prog fn_chunked_Decoder_Done #[.pointer t67] h7 fun v h8 => ∃ t97 : Bool, v = .bool t97 ∧ Q (.bool (!t97)) h8) else (Q (.bool false) h7)) else (Q (.bool false) h7)) else (Q (.bool false) h7)) else (Q (.bool false) h7))
def law27_ChunkedRoundTrip_b2 (l_0a : Option Addr) (l_0n l_0c : Nat) (tail_1 want_5 : ByteArray) (Q : QT) (h : Heap) : Prop :=
 CallT Tryd.prog fn_chunked_Encode #[.slice l_0a l_0n l_0c] h fun v h3 => ∃ t35 : ByteArray, v = .string t35 ∧ CallT Tryd.prog fn_chunked_New #[] h3 fun v h4 => ∃ t37 : Option Addr, v = .pointer t37 ∧ ((t35.size + tail_1.size : Nat) : Int) ≤ IntKind.max .i64 ∧ CallT Tryd.prog fn_chunked_Decoder_Feed #[.pointer t37, .string (t35 ++ tail_1)] h4 fun v h5 => ∃ t41_0 : ByteArray, ∃ t41_1 : ByteArray, ∃ t41_2 : Bool, ∃ t41_3 : Int, v = .tuple #[.string t41_0, .string t41_1, .bool t41_2, .int .i64 t41_3] ∧ if (!(t41_0.toList == want_5.toList)) = true then (law27_ChunkedRoundTrip_b3 want_5 t35 true Q h5) else (if (!(t41_1.toList == tail_1.toList)) = true then (law27_ChunkedRoundTrip_b3 want_5 t35 true Q h5) else (if (!t41_2) = true then (law27_ChunkedRoundTrip_b3 want_5 t35 true Q h5) else (if (t41_3 != 0) = true then (law27_ChunkedRoundTrip_b3 want_5 t35 true Q h5) else (law27_ChunkedRoundTrip_b3 want_5 t35 (decide (((t35.size : Nat) : Int) < 5)) Q h5))))
def law27_ChunkedRoundTrip_l1 (l_0a : Option Addr) (l_0n l_0c : Nat) (tail_1 : ByteArray) (Q : QT) (want_5 : ByteArray) (i_6 : Int) (h : Heap) (Kn1 : ByteArray × Int → Heap → Prop) : Prop :=
 if (decide (i_6 < ((l_0n : Nat) : Int))) = true then (idxA i_6 l_0n (nn l_0a fun t31 => ldS h (Addr.add t31 ((i_6).toNat * 1)) fun t32 => ((want_5.size + t32.size : Nat) : Int) ≤ IntKind.max .i64 ∧ Kn1 (want_5 ++ t32, wrap .i64 (i_6 + 1)) h)) else (law27_ChunkedRoundTrip_b2 l_0a l_0n l_0c tail_1 want_5 Q h)
def law27_ChunkedRoundTrip_v (l_0a : Option Addr) (l_0n l_0c : Nat) (tail_1 : ByteArray) (Q : QT) (h : Heap) : Prop :=
 CallT Tryd.prog fn_law27_lives #[] h fun v h1 => ∃ t13 : Bool, v = .bool t13 ∧ if (!t13) = true then (Q (.bool false) h1) else (CallT Tryd.prog fn_law27_long #[.slice l_0a l_0n l_0c] h1 fun v h2 => ∃ t16 : Bool, v = .bool t16 ∧ if t16 = true then (Q (.bool true) h2) else (if (decide (((tail_1.size : Nat) : Int) > 100)) = true then (Q (.bool true) h2) else (LoopV (fun (s : ByteArray × Int) h Kn => law27_ChunkedRoundTrip_l1 l_0a l_0n l_0c tail_1 Q s.1 s.2 h Kn) ((⟨#[]⟩ : ByteArray), 0) h2)))
set_option maxRecDepth 100000 in
theorem law27_ChunkedRoundTrip_s (l_0a : Option Addr) (l_0n l_0c : Nat) (tail_1 : ByteArray) {Q : QT} {h : Heap} (hk : law27_ChunkedRoundTrip_v l_0a l_0n l_0c tail_1 Q h) : CallT Tryd.prog fn_law27_ChunkedRoundTrip #[.slice l_0a l_0n l_0c, .string tail_1] h Q :=
 callU follows Tryd.func6 (Tryd.call6 _) rfl rfl [(22, fun e h => dL (e 0) fun l_0a l_0n l_0c => dS (e 1) fun tail_1 => dS (e 5) fun want_5 => law27_ChunkedRoundTrip_b2 l_0a l_0n l_0c tail_1 want_5 Q h), (28, fun e h => dS (e 5) fun want_5 => dS (e 7) fun s_7 => dB (e 66) fun t66 => law27_ChunkedRoundTrip_b3 want_5 s_7 t66 Q h)] [(16, fun e h => dL (e 0) fun l_0a l_0n l_0c => dS (e 1) fun tail_1 => dS (e 5) fun want_5 => dI .i64 (e 6) fun i_6 => LoopV (fun (s : ByteArray × Int) h Kn => law27_ChunkedRoundTrip_l1 l_0a l_0n l_0c tail_1 Q s.1 s.2 h Kn) (want_5, i_6) h)]
 ⟨fun e h _ hk => by
 have F := Ag.nil (e := e)
 have ⟨l_0a, l_0n, l_0c, F, hk⟩ := eL F hk
 have ⟨tail_1, F, hk⟩ := eS F hk
 have ⟨want_5, F, hk⟩ := eS F hk
 exact cutU F (by as_aux_lemma => kernel_rfl) hk, fun e h _ hk => by
 have F := Ag.nil (e := e)
 have ⟨want_5, F, hk⟩ := eS F hk
 have ⟨s_7, F, hk⟩ := eS F hk
 have ⟨t66, F, hk⟩ := eB F hk
 exact cutU F (by as_aux_lemma => kernel_rfl) hk, trivial⟩
 ⟨⟨by kernel_rfl, fun e h he hk => by
 have F := Ag.nil (e := e)
 have ⟨l_0a, l_0n, l_0c, F, hk⟩ := eL F hk
 have ⟨tail_1, F, hk⟩ := eS F hk
 have ⟨want_5, F, hk⟩ := eS F hk
 have ⟨i_6, F, hk⟩ := eI F hk
 exact loopU (s0 := (want_5, i_6)) follows (fun _ h => by cases h) he F (fun s => [(6, .int .i64 s.2), (5, .string s.1)]) (by kernel_rfl) (F.take 2) hk (fun Kn1 e h => dS (e 5) fun want_5 => dI .i64 (e 6) fun i_6 => Kn1 (want_5, i_6) h) (fun Kn1 e h hk => by
  have F := Ag.nil (e := e)
  have ⟨want_5, F, hk⟩ := eS F hk
  have ⟨i_6, F, hk⟩ := eI F hk
  exact ⟨(want_5, i_6), F, hk⟩)
  (fun Kn1 => []) (fun Kn1 => [])
  (fun Kn1 => trivial)
  (fun Kn1 => trivial) (fun e s h Kn1 => by as_aux_lemma => kernel_rfl)⟩, trivial⟩ (by as_aux_lemma => kernel_rfl) hk
/-! ### intrusion/intrusionlaw27.ChunkedStops -/
def law27_ChunkedStops_b6 (s_0 : ByteArray) (n_2 : Int) (data_18 : ByteArray) (f_21 : Int) (Q : QT) (h : Heap) : Prop :=
 if (decide (n_2 ≤ 126)) = true then (if (data_18.toList == (⟨#[122]⟩ : ByteArray).toList) = true then (Q (.bool (f_21 == 0)) h) else (Q (.bool false) h)) else (CallT Tryd.prog fn_chunked_Decoder_Feed #[.pointer none, .string s_0] h fun v h14 => ∃ t116_0 : ByteArray, ∃ t116_1 : ByteArray, ∃ t116_2 : Bool, ∃ t116_3 : Int, v = .tuple #[.string t116_0, .string t116_1, .bool t116_2, .int .i64 t116_3] ∧ if (data_18.toList == (⟨#[]⟩ : ByteArray).toList) = true then (if (f_21 == 3) = true then (if (t116_3 == 6) = true then (CallT Tryd.prog fn_chunked_Decoder_Done #[.pointer none] h14 fun v h15 => ∃ t133 : Bool, v = .bool t133 ∧ Q (.bool (!t133)) h15) else (Q (.bool false) h14)) else (Q (.bool false) h14)) else (Q (.bool false) h14))
def law27_ChunkedStops_b3 (s_0 : ByteArray) (n_2 : Int) (note_16a : Option Addr) (note_16n note_16c : Nat) (Q : QT) (h : Heap) : Prop :=
 (CallT Tryd.prog fn_chunked_New #[] h fun v h8 => ∃ t95 : Option Addr, v = .pointer t95 ∧ convV Tryd.prog T_sl_uint8 T_string (.slice note_16a note_16n note_16c) h8 fun v h9 => ∃ t97 : ByteArray, v = .string t97 ∧ (((⟨#[49, 59]⟩ : ByteArray).size + t97.size : Nat) : Int) ≤ IntKind.max .i64 ∧ ((((⟨#[49, 59]⟩ : ByteArray) ++ t97).size + (⟨#[10, 122]⟩ : ByteArray).size : Nat) : Int) ≤ IntKind.max .i64 ∧ CallT Tryd.prog fn_chunked_Decoder_Feed #[.pointer t95, .string (((⟨#[49, 59]⟩ : ByteArray) ++ t97) ++ (⟨#[10, 122]⟩ : ByteArray))] h9 fun v h10 => ∃ t100_0 : ByteArray, ∃ t100_1 : ByteArray, ∃ t100_2 : Bool, ∃ t100_3 : Int, v = .tuple #[.string t100_0, .string t100_1, .bool t100_2, .int .i64 t100_3] ∧ law27_ChunkedStops_b6 s_0 n_2 t100_0 t100_3 Q h10) ∧ (convV Tryd.prog T_sl_uint8 T_string (.slice note_16a note_16n note_16c) h fun v h11 => ∃ t97 : ByteArray, v = .string t97 ∧ (((⟨#[49, 59]⟩ : ByteArray).size + t97.size : Nat) : Int) ≤ IntKind.max .i64 ∧ ((((⟨#[49, 59]⟩ : ByteArray) ++ t97).size + (⟨#[10, 122]⟩ : ByteArray).size : Nat) : Int) ≤ IntKind.max .i64 ∧ CallT Tryd.prog fn_chunked_New #[] h11 fun v h12 => ∃ t95 : Option Addr, v = .pointer t95 ∧ CallT Tryd.prog fn_chunked_Decoder_Feed #[.pointer t95, .string (((⟨#[49, 59]⟩ : ByteArray) ++ t97) ++ (⟨#[10, 122]⟩ : ByteArray))] h12 fun v h13 => ∃ t100_0 : ByteArray, ∃ t100_1 : ByteArray, ∃ t100_2 : Bool, ∃ t100_3 : Int, v = .tuple #[.string t100_0, .string t100_1, .bool t100_2, .int .i64 t100_3] ∧ law27_ChunkedStops_b6 s_0 n_2 t100_0 t100_3 Q h13)
def law27_ChunkedStops_l2 (s_0 : ByteArray) (n_2 : Int) (Q : QT) (note_16a : Option Addr) (note_16n note_16c : Nat) (i_17 : Int) (h : Heap) (Kn2 : (Option Addr) × Nat × Nat × Int → Heap → Prop) : Prop :=
 if (decide (i_17 < n_2)) = true then (alV h (.cells #[.int .u8 65] T_uint8) fun t92 h6 => bltV Tryd.prog .append #[T_sl_uint8, T_sl_uint8] T_sl_uint8 #[false, false] #[.slice note_16a note_16n note_16c, .slice (some t92) 1 1] h6 fun v h7 => ∃ t93a : Option Addr, ∃ t93n : Nat, ∃ t93c : Nat, v = .slice t93a t93n t93c ∧ Kn2 (t93a, t93n, t93c, wrap .i64 (i_17 + 1)) h7) else (law27_ChunkedStops_b3 s_0 n_2 note_16a note_16n note_16c Q h)
def law27_ChunkedStops_b1 (s_0 : ByteArray) (n_2 : Int) (Q : QT) (h : Heap) : Prop :=
 LoopV (fun (s : (Option Addr) × Nat × Nat × Int) h Kn => law27_ChunkedStops_l2 s_0 n_2 Q s.1 s.2.1 s.2.2.1 s.2.2.2 h Kn) (none, 0, 0, 0) h
def law27_ChunkedStops_b5 (s_0 more_1 : ByteArray) (n_2 : Int) (d_7 : Option Addr) (done_10 t58 : Bool) (Q : QT) (h : Heap) : Prop :=
 if t58 = true then (CallT Tryd.prog fn_chunked_Decoder_Feed #[.pointer d_7, .string more_1] h fun v h4 => ∃ t62_0 : ByteArray, ∃ t62_1 : ByteArray, ∃ t62_2 : Bool, ∃ t62_3 : Int, v = .tuple #[.string t62_0, .string t62_1, .bool t62_2, .int .i64 t62_3] ∧ if (!(t62_0.toList == (⟨#[]⟩ : ByteArray).toList)) = true then (Q (.bool false) h4) else (if (!(t62_1.toList == (⟨#[]⟩ : ByteArray).toList)) = true then (Q (.bool false) h4) else (if t62_2 = true then (Q (.bool false) h4) else (if (t62_3 != 10) = true then (Q (.bool false) h4) else (CallT Tryd.prog fn_chunked_Decoder_Done #[.pointer d_7] h4 fun v h5 => ∃ t82 : Bool, v = .bool t82 ∧ if (!(t82 == done_10)) = true then (Q (.bool false) h5) else (law27_ChunkedStops_b1 s_0 n_2 Q h5)))))) else (law27_ChunkedStops_b1 s_0 n_2 Q h)
def law27_ChunkedStops_b4 (s_0 more_1 : ByteArray) (n_2 : Int) (t44 : Bool) (Q : QT) (h : Heap) : Prop :=
 if t44 = true then (Q (.bool true) h) else (CallT Tryd.prog fn_chunked_New #[] h fun v h2 => ∃ t45 : Option Addr, v = .pointer t45 ∧ CallT Tryd.prog fn_chunked_Decoder_Feed #[.pointer t45, .string s_0] h2 fun v h3 => ∃ t49_0 : ByteArray, ∃ t49_1 : ByteArray, ∃ t49_2 : Bool, ∃ t49_3 : Int, v = .tuple #[.string t49_0, .string t49_1, .bool t49_2, .int .i64 t49_3] ∧ if t49_2 = true then (law27_ChunkedStops_b5 s_0 more_1 n_2 t45 t49_2 true Q h3) else (law27_ChunkedStops_b5 s_0 more_1 n_2 t45 t49_2 (t49_3 != 0) Q h3))
def law27_ChunkedStops_v (s_0 more_1 : ByteArray) (n_2 : Int) (Q : QT) (h : Heap) : Prop :=
 CallT Tryd.prog fn_law27_lives #[] h fun v h1 => ∃ t27 : Bool, v = .bool t27 ∧ if (!t27) = true then (Q (.bool false) h1) else (if (decide (((s_0.size : Nat) : Int) > 1000)) = true then (law27_ChunkedStops_b4 s_0 more_1 n_2 true Q h1) else (if (decide (((more_1.size : Nat) : Int) > 1000)) = true then (law27_ChunkedStops_b4 s_0 more_1 n_2 true Q h1) else (if (decide (n_2 < 0)) = true then (law27_ChunkedStops_b4 s_0 more_1 n_2 true Q h1) else (law27_ChunkedStops_b4 s_0 more_1 n_2 (decide (n_2 > 200)) Q h1))))
set_option maxRecDepth 100000 in
theorem law27_ChunkedStops_s (s_0 more_1 : ByteArray) (n_2 : Int) {Q : QT} {h : Heap} (hk : law27_ChunkedStops_v s_0 more_1 n_2 Q h) : CallT Tryd.prog fn_law27_ChunkedStops #[.string s_0, .string more_1, .int .i64 n_2] h Q :=
 callU follows Tryd.func7 (Tryd.call7 _) rfl rfl [(10, fun e h => dS (e 0) fun s_0 => dS (e 1) fun more_1 => dI .i64 (e 2) fun n_2 => dB (e 44) fun t44 => law27_ChunkedStops_b4 s_0 more_1 n_2 t44 Q h), (18, fun e h => dS (e 0) fun s_0 => dS (e 1) fun more_1 => dI .i64 (e 2) fun n_2 => dP (e 7) fun d_7 => dB (e 10) fun done_10 => dB (e 58) fun t58 => law27_ChunkedStops_b5 s_0 more_1 n_2 d_7 done_10 t58 Q h), (24, fun e h => dS (e 0) fun s_0 => dI .i64 (e 2) fun n_2 => law27_ChunkedStops_b1 s_0 n_2 Q h), (34, fun e h => dS (e 0) fun s_0 => dI .i64 (e 2) fun n_2 => dL (e 16) fun note_16a note_16n note_16c => law27_ChunkedStops_b3 s_0 n_2 note_16a note_16n note_16c Q h), (36, fun e h => dS (e 0) fun s_0 => dI .i64 (e 2) fun n_2 => dS (e 18) fun data_18 => dI .i64 (e 21) fun f_21 => law27_ChunkedStops_b6 s_0 n_2 data_18 f_21 Q h)] [(28, fun e h => dS (e 0) fun s_0 => dI .i64 (e 2) fun n_2 => dL (e 16) fun note_16a note_16n note_16c => dI .i64 (e 17) fun i_17 => LoopV (fun (s : (Option Addr) × Nat × Nat × Int) h Kn => law27_ChunkedStops_l2 s_0 n_2 Q s.1 s.2.1 s.2.2.1 s.2.2.2 h Kn) (note_16a, note_16n, note_16c, i_17) h)]
 ⟨fun e h _ hk => by
 have F := Ag.nil (e := e)
 have ⟨s_0, F, hk⟩ := eS F hk
 have ⟨more_1, F, hk⟩ := eS F hk
 have ⟨n_2, F, hk⟩ := eI F hk
 have ⟨t44, F, hk⟩ := eB F hk
 exact cutU F (by as_aux_lemma => kernel_rfl) hk, fun e h _ hk => by
 have F := Ag.nil (e := e)
 have ⟨s_0, F, hk⟩ := eS F hk
 have ⟨more_1, F, hk⟩ := eS F hk
 have ⟨n_2, F, hk⟩ := eI F hk
 have ⟨d_7, F, hk⟩ := eP F hk
 have ⟨done_10, F, hk⟩ := eB F hk
 have ⟨t58, F, hk⟩ := eB F hk
 exact cutU F (by as_aux_lemma => kernel_rfl) hk, fun e h _ hk => by
 have F := Ag.nil (e := e)
 have ⟨s_0, F, hk⟩ := eS F hk
 have ⟨n_2, F, hk⟩ := eI F hk
 exact cutU F (by as_aux_lemma => kernel_rfl) hk, fun e h _ hk => by
 have F := Ag.nil (e := e)
 have ⟨s_0, F, hk⟩ := eS F hk
 have ⟨n_2, F, hk⟩ := eI F hk
 have ⟨note_16a, note_16n, note_16c, F, hk⟩ := eL F hk
 exact cutU F (by as_aux_lemma => kernel_rfl) hk, fun e h _ hk => by
 have F := Ag.nil (e := e)
 have ⟨s_0, F, hk⟩ := eS F hk
 have ⟨n_2, F, hk⟩ := eI F hk
 have ⟨data_18, F, hk⟩ := eS F hk
 have ⟨f_21, F, hk⟩ := eI F hk
 exact cutU F (by as_aux_lemma => kernel_rfl) hk, trivial⟩
 ⟨⟨by kernel_rfl, fun e h he hk => by
 have F := Ag.nil (e := e)
 have ⟨s_0, F, hk⟩ := eS F hk
 have ⟨n_2, F, hk⟩ := eI F hk
 have ⟨note_16a, note_16n, note_16c, F, hk⟩ := eL F hk
 have ⟨i_17, F, hk⟩ := eI F hk
 exact loopU (s0 := (note_16a, note_16n, note_16c, i_17)) follows (fun _ h => by cases h) he F (fun s => [(17, .int .i64 s.2.2.2), (16, .slice s.1 s.2.1 s.2.2.1)]) (by kernel_rfl) (F.take 2) hk (fun Kn2 e h => dL (e 16) fun note_16a note_16n note_16c => dI .i64 (e 17) fun i_17 => Kn2 (note_16a, note_16n, note_16c, i_17) h) (fun Kn2 e h hk => by
  have F := Ag.nil (e := e)
  have ⟨note_16a, note_16n, note_16c, F, hk⟩ := eL F hk
  have ⟨i_17, F, hk⟩ := eI F hk
  exact ⟨(note_16a, note_16n, note_16c, i_17), F, hk⟩)
  (fun Kn2 => []) (fun Kn2 => [])
  (fun Kn2 => trivial)
  (fun Kn2 => trivial) (fun e s h Kn2 => by as_aux_lemma => kernel_rfl)⟩, trivial⟩ (by as_aux_lemma => kernel_rfl) hk
/-! ### intrusion/chunked.New -/
def chunked_New_v (Q : QT) (h : Heap) : Prop :=
 alV h (.cells #[.int .i64 0, .int .i64 0, .int .i64 0, .bool false] T_chunked_Decoder) fun t2 h1 => Q (.pointer (some t2)) h1
set_option maxRecDepth 100000 in
theorem chunked_New_s {Q : QT} {h : Heap} (hk : chunked_New_v Q h) : CallT Tryd.prog fn_chunked_New #[] h Q :=
 callU follows Tryd.func8 (Tryd.call8 _) rfl rfl [] []
 trivial
 trivial (by as_aux_lemma => kernel_rfl) hk
/-! ### intrusion/intrusionlaw27.long -/
def law27_long_b2 (l_0a : Option Addr) (l_0n l_0c : Nat) (n_3 : Int) (Q : QT) (h : Heap) : Prop :=
 if (decide (((l_0n : Nat) : Int) > 60)) = true then (Q (.bool true) h) else (Q (.bool (decide (n_3 > 2000))) h)
def law27_long_l1 (l_0a : Option Addr) (l_0n l_0c : Nat) (Q : QT) (n_3 i_4 : Int) (h : Heap) (Kn1 : Int × Int → Heap → Prop) : Prop :=
 if (decide (i_4 < ((l_0n : Nat) : Int))) = true then (if (decide (i_4 < 61)) = true then (idxA i_4 l_0n (nn l_0a fun t17 => ldS h (Addr.add t17 ((i_4).toNat * 1)) fun t18 => if (decide (((t18.size : Nat) : Int) > 2000)) = true then (Q (.bool true) h) else (idxA i_4 l_0n (nn l_0a fun t24 => ldS h (Addr.add t24 ((i_4).toNat * 1)) fun t25 => Kn1 (wrap .i64 (n_3 + ((t25.size : Nat) : Int)), wrap .i64 (i_4 + 1)) h)))) else (law27_long_b2 l_0a l_0n l_0c n_3 Q h)) else (law27_long_b2 l_0a l_0n l_0c n_3 Q h)
def law27_long_v (l_0a : Option Addr) (l_0n l_0c : Nat) (Q : QT) (h : Heap) : Prop :=
 LoopV (fun (s : Int × Int) h Kn => law27_long_l1 l_0a l_0n l_0c Q s.1 s.2 h Kn) (0, 0) h
set_option maxRecDepth 100000 in
theorem law27_long_s (l_0a : Option Addr) (l_0n l_0c : Nat) {Q : QT} {h : Heap} (hk : law27_long_v l_0a l_0n l_0c Q h) : CallT Tryd.prog fn_law27_long #[.slice l_0a l_0n l_0c] h Q :=
 callU follows Tryd.func9 (Tryd.call9 _) rfl rfl [(18, fun e h => dL (e 0) fun l_0a l_0n l_0c => dI .i64 (e 3) fun n_3 => law27_long_b2 l_0a l_0n l_0c n_3 Q h)] [(8, fun e h => dL (e 0) fun l_0a l_0n l_0c => dI .i64 (e 3) fun n_3 => dI .i64 (e 4) fun i_4 => LoopV (fun (s : Int × Int) h Kn => law27_long_l1 l_0a l_0n l_0c Q s.1 s.2 h Kn) (n_3, i_4) h)]
 ⟨fun e h _ hk => by
 have F := Ag.nil (e := e)
 have ⟨l_0a, l_0n, l_0c, F, hk⟩ := eL F hk
 have ⟨n_3, F, hk⟩ := eI F hk
 exact cutU F (by as_aux_lemma => kernel_rfl) hk, trivial⟩
 ⟨⟨by kernel_rfl, fun e h he hk => by
 have F := Ag.nil (e := e)
 have ⟨l_0a, l_0n, l_0c, F, hk⟩ := eL F hk
 have ⟨n_3, F, hk⟩ := eI F hk
 have ⟨i_4, F, hk⟩ := eI F hk
 exact loopU (s0 := (n_3, i_4)) follows (fun _ h => by cases h) he F (fun s => [(4, .int .i64 s.2), (3, .int .i64 s.1)]) (by kernel_rfl) (F.take 2) hk (fun Kn1 e h => dI .i64 (e 3) fun n_3 => dI .i64 (e 4) fun i_4 => Kn1 (n_3, i_4) h) (fun Kn1 e h hk => by
  have F := Ag.nil (e := e)
  have ⟨n_3, F, hk⟩ := eI F hk
  have ⟨i_4, F, hk⟩ := eI F hk
  exact ⟨(n_3, i_4), F, hk⟩)
  (fun Kn1 => []) (fun Kn1 => [])
  (fun Kn1 => trivial)
  (fun Kn1 => trivial) (fun e s h Kn1 => by as_aux_lemma => kernel_rfl)⟩, trivial⟩ (by as_aux_lemma => kernel_rfl) hk
/-! ### intrusion/intrusionlaw27.lives -/
def law27_lives_v (Q : QT) (h : Heap) : Prop :=
 CallT Tryd.prog fn_chunked_New #[] h fun v h1 => ∃ t6 : Option Addr, v = .pointer t6 ∧ if (Option.isNone t6) = true then (Q (.bool false) h1) else (CallT Tryd.prog fn_chunked_Decoder_Feed #[.pointer t6, .string (⟨#[51, 13, 10, 97, 98, 99, 13, 10, 48, 13, 10, 13, 10, 120, 121]⟩ : ByteArray)] h1 fun v h2 => ∃ t11_0 : ByteArray, ∃ t11_1 : ByteArray, ∃ t11_2 : Bool, ∃ t11_3 : Int, v = .tuple #[.string t11_0, .string t11_1, .bool t11_2, .int .i64 t11_3] ∧ if (t11_0.toList == (⟨#[97, 98, 99]⟩ : ByteArray).toList) = true then (if (t11_1.toList == (⟨#[120, 121]⟩ : ByteArray).toList) = true then (if t11_2 = true then (if (t11_3 == 0) = true then (CallT Tryd.prog fn_chunked_Decoder_Done #[.pointer t6] h2 fun v h3 => ∃ t31 : Bool, v = .bool t31 ∧ if t31 = true then (alV h3 (.cells #[.string (⟨#[97, 98]⟩ : ByteArray), .string (⟨#[]⟩ : ByteArray)] T_string) fun t34 h4 => CallT Tryd.prog fn_chunked_Encode #[.slice (some t34) 2 2] h4 fun v h5 => ∃ t35 : ByteArray, v = .string t35 ∧ Q (.bool (t35.toList == (⟨#[50, 13, 10, 97, 98, 13, 10, 48, 13, 10, 13, 10]⟩ : ByteArray).toList)) h5) else (Q (.bool false) h3)) else (Q (.bool false) h2)) else (Q (.bool false) h2)) else (Q (.bool false) h2)) else (Q (.bool false) h2))
set_option maxRecDepth 100000 in
theorem law27_lives_s {Q : QT} {h : Heap} (hk : law27_lives_v Q h) : CallT Tryd.prog fn_law27_lives #[] h Q :=
 callU follows Tryd.func10 (Tryd.call10 _) rfl rfl [] []
 trivial
 trivial (by as_aux_lemma => kernel_rfl) hk
/-! ### (*intrusion/chunked.Decoder).Feed -/
def chunked_Decoder_Feed_b2 (out_8 : Addr) (Q : QT) (h : Heap) : Prop :=
 ldL h out_8 fun t74a t74n t74c => convV Tryd.prog T_sl_uint8 T_string (.slice t74a t74n t74c) h fun v h11 => ∃ t75 : ByteArray, v = .string t75 ∧ Q (.tuple #[.string t75, .string (⟨#[]⟩ : ByteArray), .bool false, .int .i64 0]) h11
def chunked_Decoder_Feed_l1 (d_2 s_3 out_8 take_9_0 take_9_1 take_9_2 : Addr) (Q : QT) (h : Heap) (Kn1 : Unit → Heap → Prop) : Prop :=
 ldS h s_3 fun t28 => if (!(t28.toList == (⟨#[]⟩ : ByteArray).toList)) = true then (ldP h d_2 fun t30 => nn t30 fun t31 => ldI h t31 .i64 fun t33 => if (t33 == 2) = true then (ldP h d_2 fun t36 => nn t36 fun t37 => ldI h (Addr.add t37 2) .i64 fun t39 => ldS h s_3 fun t40 => CallT Tryd.prog fn_chunked_Decoder_Feed_1 #[.int .i64 (if ((t40.size : Nat) : Int) < t39 then ((t40.size : Nat) : Int) else t39), .pointer (some take_9_0), .pointer (some take_9_1), .pointer (some take_9_2)] h fun v h4 => v = .tuple #[] ∧ ldP h4 d_2 fun t44 => nn t44 fun t45 => ldI h4 (Addr.add t45 2) .i64 fun t47 => if (t47 == 0) = true then (ldP h4 d_2 fun t49 => nn t49 fun t50 => st1 h4 t50 (.int .i64 3) fun h5 => Kn1 () h5) else (Kn1 () h4)) else (ldP h d_2 fun t52 => ldS h s_3 fun t53 => idxS t53 (0 : Int) fun t54 => CallT Tryd.prog fn_chunked_Decoder_step #[.pointer t52, .int .u8 t54] h fun v h6 => ∃ t55 : Int, v = .int .i64 t55 ∧ ldS h6 s_3 fun t56 => sliceStr t56 (some (1 : Int)) none fun t57 => st1 h6 s_3 (.string t57) fun h7 => if (t55 != 0) = true then (ldP h7 d_2 fun t60 => nn t60 fun t61 => st1 h7 t61 (.int .i64 6) fun h8 => ldL h8 out_8 fun t63a t63n t63c => convV Tryd.prog T_sl_uint8 T_string (.slice t63a t63n t63c) h8 fun v h9 => ∃ t64 : ByteArray, v = .string t64 ∧ Q (.tuple #[.string t64, .string (⟨#[]⟩ : ByteArray), .bool false, .int .i64 t55]) h9) else (ldP h7 d_2 fun t66 => nn t66 fun t67 => ldI h7 t67 .i64 fun t69 => if (t69 == 5) = true then (ldL h7 out_8 fun t71a t71n t71c => ldS h7 s_3 fun t73 => convV Tryd.prog T_sl_uint8 T_string (.slice t71a t71n t71c) h7 fun v h10 => ∃ t72 : ByteArray, v = .string t72 ∧ (ldS h10 s_3 fun t973 => (.string t973 : Value) = .string t73) ∧ Q (.tuple #[.string t72, .string t73, .bool true, .int .i64 0]) h10) else (Kn1 () h7)))) else (chunked_Decoder_Feed_b2 out_8 Q h)
def chunked_Decoder_Feed_b3 (d_2 s_3 : Addr) (t14 : Bool) (Q : QT) (h : Heap) : Prop :=
 if t14 = true then (Q (.tuple #[.string (⟨#[]⟩ : ByteArray), .string (⟨#[]⟩ : ByteArray), .bool false, .int .i64 10]) h) else (alV h (.cells #[.slice none 0 0] T_sl_uint8) fun t8 h3 => LoopV (fun (s : Unit) h Kn => chunked_Decoder_Feed_l1 d_2 s_3 t8 t8 s_3 d_2 Q h Kn) () h3)
def chunked_Decoder_Feed_v (d_0 : Option Addr) (s_1 : ByteArray) (Q : QT) (h : Heap) : Prop :=
 alV h (.cells #[.pointer d_0] T_p_chunked_Decoder) fun t2 h1 => alV h1 (.cells #[.string s_1] T_string) fun t3 h2 => ldP h2 t2 fun t12 => if (Option.isNone t12) = true then (Q (.tuple #[.string (⟨#[]⟩ : ByteArray), .string (⟨#[]⟩ : ByteArray), .bool false, .int .i64 6]) h2) else (ldP h2 t2 fun t15 => nn t15 fun t16 => ldI h2 t16 .i64 fun t18 => if (t18 == 5) = true then (chunked_Decoder_Feed_b3 t2 t3 true Q h2) else (ldP h2 t2 fun t21 => nn t21 fun t22 => ldI h2 t22 .i64 fun t24 => chunked_Decoder_Feed_b3 t2 t3 (t24 == 6) Q h2))
set_option maxRecDepth 100000 in
theorem chunked_Decoder_Feed_s (d_0 : Option Addr) (s_1 : ByteArray) {Q : QT} {h : Heap} (hk : chunked_Decoder_Feed_v d_0 s_1 Q h) : CallT Tryd.prog fn_chunked_Decoder_Feed #[.pointer d_0, .string s_1] h Q :=
 callU follows Tryd.func11 (Tryd.call11 _) rfl rfl [(10, fun e h => dA (e 2) fun d_2 => dA (e 3) fun s_3 => dB (e 14) fun t14 => chunked_Decoder_Feed_b3 d_2 s_3 t14 Q h), (40, fun e h => dA (e 8) fun out_8 => chunked_Decoder_Feed_b2 out_8 Q h)] [(16, fun e h => dA (e 2) fun d_2 => dA (e 3) fun s_3 => dA (e 8) fun out_8 => dF 17 (e 9) fun l9_1 => dC l9_1 fun v9_2 l9_2 => dA v9_2 fun take_9_0 => dC l9_2 fun v9_3 l9_3 => dA v9_3 fun take_9_1 => dC l9_3 fun v9_4 l9_4 => dA v9_4 fun take_9_2 => dE l9_4 (LoopV (fun (s : Unit) h Kn => chunked_Decoder_Feed_l1 d_2 s_3 out_8 take_9_0 take_9_1 take_9_2 Q h Kn) () h))]
 ⟨fun e h _ hk => by
 have F := Ag.nil (e := e)
 have ⟨d_2, F, hk⟩ := eA F hk
 have ⟨s_3, F, hk⟩ := eA F hk
 have ⟨t14, F, hk⟩ := eB F hk
 exact cutU F (by as_aux_lemma => kernel_rfl) hk, fun e h _ hk => by
 have F := Ag.nil (e := e)
 have ⟨out_8, F, hk⟩ := eA F hk
 exact cutU F (by as_aux_lemma => kernel_rfl) hk, trivial⟩
 ⟨⟨by kernel_rfl, fun e h he hk => by
 have F := Ag.nil (e := e)
 have ⟨d_2, F, hk⟩ := eA F hk
 have ⟨s_3, F, hk⟩ := eA F hk
 have ⟨out_8, F, hk⟩ := eA F hk
 obtain ⟨l9_1, F, hk2⟩ := eF F hk; clear hk; have hk := hk2; clear hk2
 obtain ⟨v9_2, l9_2, q, hk2⟩ := dC_elim hk
 clear hk; subst q; have hk := hk2; clear hk2
 obtain ⟨take_9_0, q, hk2⟩ := dA_elim hk
 clear hk; subst q; have hk := hk2; clear hk2
 obtain ⟨v9_3, l9_3, q, hk2⟩ := dC_elim hk
 clear hk; subst q; have hk := hk2; clear hk2
 obtain ⟨take_9_1, q, hk2⟩ := dA_elim hk
 clear hk; subst q; have hk := hk2; clear hk2
 obtain ⟨v9_4, l9_4, q, hk2⟩ := dC_elim hk
 clear hk; subst q; have hk := hk2; clear hk2
 obtain ⟨take_9_2, q, hk2⟩ := dA_elim hk
 clear hk; subst q; have hk := hk2; clear hk2
 obtain ⟨q, hk2⟩ := dE_elim hk
 clear hk; subst q; have hk := hk2; clear hk2
 exact loopU (s0 := ()) follows (fun _ h => by cases h) he F (fun s => []) (by kernel_rfl) (F.take 0) hk (fun Kn1 e h => Kn1 () h) (fun Kn1 e h hk => by
  have F := Ag.nil (e := e)
  exact ⟨(), F, hk⟩)
  (fun Kn1 => []) (fun Kn1 => [])
  (fun Kn1 => trivial)
  (fun Kn1 => trivial) (fun e s h Kn1 => by as_aux_lemma => kernel_rfl)⟩, trivial⟩ (by as_aux_lemma => kernel_rfl) hk
/-! ### (*intrusion/intrusionref27.Decoder).Feed -/
def ref27_Decoder_Feed_b2 (b_8a : Option Addr) (b_8n b_8c : Nat) (Q : QT) (h : Heap) : Prop :=
 convV Tryd.prog T_sl_uint8 T_string (.slice b_8a b_8n b_8c) h fun v h9 => ∃ t72 : ByteArray, v = .string t72 ∧ Q (.tuple #[.string t72, .string (⟨#[]⟩ : ByteArray), .bool false, .int .i64 0]) h9
def ref27_Decoder_Feed_l1 (d_0 : Option Addr) (s_1 : ByteArray) (Q : QT) (b_8a : Option Addr) (b_8n b_8c : Nat) (i_9 : Int) (h : Heap) (Kn1 : (Option Addr) × Nat × Nat × Int → Heap → Prop) : Prop :=
 if (decide (i_9 < ((s_1.size : Nat) : Int))) = true then (nn d_0 fun t23 => ldI h t23 .i64 fun t25 => if (t25 == 2) = true then (idxS s_1 i_9 fun t30 => alV h (.cells #[.int .u8 t30] T_uint8) fun t31 h1 => bltV Tryd.prog .append #[T_sl_uint8, T_sl_uint8] T_sl_uint8 #[false, false] #[.slice b_8a b_8n b_8c, .slice (some t31) 1 1] h1 fun v h2 => ∃ t32a : Option Addr, ∃ t32n : Nat, ∃ t32c : Nat, v = .slice t32a t32n t32c ∧ nn d_0 fun t34 => ldI h2 (Addr.add t34 4) .i64 fun t36 => nn d_0 fun t38 => st1 h2 (Addr.add t38 4) (.int .i64 (wrap .i64 (t36 - 1))) fun h3 => nn d_0 fun t41 => ldI h3 (Addr.add t41 4) .i64 fun t43 => if (t43 == 0) = true then (CallT Tryd.prog fn_ref27_Decoder_begin #[.pointer d_0, .int .i64 3] h3 fun v h4 => v = .tuple #[] ∧ Kn1 (t32a, t32n, t32c, wrap .i64 (i_9 + 1)) h4) else (Kn1 (t32a, t32n, t32c, wrap .i64 (i_9 + 1)) h3)) else (idxS s_1 i_9 fun t50 => CallT Tryd.prog fn_ref27_Decoder_step #[.pointer d_0, .int .u8 t50] h fun v h5 => ∃ t51 : Int, v = .int .i64 t51 ∧ if (t51 != 0) = true then (nn d_0 fun t55 => st1 h5 t55 (.int .i64 6) fun h6 => convV Tryd.prog T_sl_uint8 T_string (.slice b_8a b_8n b_8c) h6 fun v h7 => ∃ t58 : ByteArray, v = .string t58 ∧ Q (.tuple #[.string t58, .string (⟨#[]⟩ : ByteArray), .bool false, .int .i64 t51]) h7) else (nn d_0 fun t61 => ldI h5 t61 .i64 fun t63 => if (t63 == 5) = true then (sliceStr s_1 (some (wrap .i64 (i_9 + 1))) none fun t70 => convV Tryd.prog T_sl_uint8 T_string (.slice b_8a b_8n b_8c) h5 fun v h8 => ∃ t66 : ByteArray, v = .string t66 ∧ Q (.tuple #[.string t66, .string t70, .bool true, .int .i64 0]) h8) else (Kn1 (b_8a, b_8n, b_8c, wrap .i64 (i_9 + 1)) h5)))) else (ref27_Decoder_Feed_b2 b_8a b_8n b_8c Q h)
def ref27_Decoder_Feed_v (d_0 : Option Addr) (s_1 : ByteArray) (Q : QT) (h : Heap) : Prop :=
 nn d_0 fun t12 => ldI h t12 .i64 fun t14 => if (decide (t14 ≥ 5)) = true then (Q (.tuple #[.string (⟨#[]⟩ : ByteArray), .string (⟨#[]⟩ : ByteArray), .bool false, .int .i64 10]) h) else (LoopV (fun (s : (Option Addr) × Nat × Nat × Int) h Kn => ref27_Decoder_Feed_l1 d_0 s_1 Q s.1 s.2.1 s.2.2.1 s.2.2.2 h Kn) (none, 0, 0, 0) h)
set_option maxRecDepth 100000 in
theorem ref27_Decoder_Feed_s (d_0 : Option Addr) (s_1 : ByteArray) {Q : QT} {h : Heap} (hk : ref27_Decoder_Feed_v d_0 s_1 Q h) : CallT Tryd.prog fn_ref27_Decoder_Feed #[.pointer d_0, .string s_1] h Q :=
 callU follows Tryd.func12 (Tryd.call12 _) rfl rfl [(38, fun e h => dL (e 8) fun b_8a b_8n b_8c => ref27_Decoder_Feed_b2 b_8a b_8n b_8c Q h)] [(12, fun e h => dP (e 0) fun d_0 => dS (e 1) fun s_1 => dL (e 8) fun b_8a b_8n b_8c => dI .i64 (e 9) fun i_9 => LoopV (fun (s : (Option Addr) × Nat × Nat × Int) h Kn => ref27_Decoder_Feed_l1 d_0 s_1 Q s.1 s.2.1 s.2.2.1 s.2.2.2 h Kn) (b_8a, b_8n, b_8c, i_9) h)]
 ⟨fun e h _ hk => by
 have F := Ag.nil (e := e)
 have ⟨b_8a, b_8n, b_8c, F, hk⟩ := eL F hk
 exact cutU F (by as_aux_lemma => kernel_rfl) hk, trivial⟩
 ⟨⟨by kernel_rfl, fun e h he hk => by
 have F := Ag.nil (e := e)
 have ⟨d_0, F, hk⟩ := eP F hk
 have ⟨s_1, F, hk⟩ := eS F hk
 have ⟨b_8a, b_8n, b_8c, F, hk⟩ := eL F hk
 have ⟨i_9, F, hk⟩ := eI F hk
 exact loopU (s0 := (b_8a, b_8n, b_8c, i_9)) follows (fun _ h => by cases h) he F (fun s => [(9, .int .i64 s.2.2.2), (8, .slice s.1 s.2.1 s.2.2.1)]) (by kernel_rfl) (F.take 2) hk (fun Kn1 e h => dL (e 8) fun b_8a b_8n b_8c => dI .i64 (e 9) fun i_9 => Kn1 (b_8a, b_8n, b_8c, i_9) h) (fun Kn1 e h hk => by
  have F := Ag.nil (e := e)
  have ⟨b_8a, b_8n, b_8c, F, hk⟩ := eL F hk
  have ⟨i_9, F, hk⟩ := eI F hk
  exact ⟨(b_8a, b_8n, b_8c, i_9), F, hk⟩)
  (fun Kn1 => []) (fun Kn1 => [])
  (fun Kn1 => trivial)
  (fun Kn1 => trivial) (fun e s h Kn1 => by as_aux_lemma => kernel_rfl)⟩, trivial⟩ (by as_aux_lemma => kernel_rfl) hk
/-! ### (*intrusion/chunked.Decoder).Done -/
def chunked_Decoder_Done_v (d_0 : Option Addr) (Q : QT) (h : Heap) : Prop :=
 if (!(Option.isNone d_0)) = true then (nn d_0 fun t7 => ldI h t7 .i64 fun t9 => Q (.bool (t9 == 5)) h) else (Q (.bool false) h)
set_option maxRecDepth 100000 in
theorem chunked_Decoder_Done_s (d_0 : Option Addr) {Q : QT} {h : Heap} (hk : chunked_Decoder_Done_v d_0 Q h) : CallT Tryd.prog fn_chunked_Decoder_Done #[.pointer d_0] h Q :=
 callU follows Tryd.func13 (Tryd.call13 _) rfl rfl [] []
 trivial
 trivial (by as_aux_lemma => kernel_rfl) hk
/-! ### (*intrusion/intrusionref27.Decoder).Done -/
def ref27_Decoder_Done_v (d_0 : Option Addr) (Q : QT) (h : Heap) : Prop :=
 nn d_0 fun t4 => ldI h t4 .i64 fun t6 => Q (.bool (t6 == 5)) h
set_option maxRecDepth 100000 in
theorem ref27_Decoder_Done_s (d_0 : Option Addr) {Q : QT} {h : Heap} (hk : ref27_Decoder_Done_v d_0 Q h) : CallT Tryd.prog fn_ref27_Decoder_Done #[.pointer d_0] h Q :=
 callU follows Tryd.func14 (Tryd.call14 _) rfl rfl [] []
 trivial
 trivial (by as_aux_lemma => kernel_rfl) hk
/-! ### intrusion/chunked.Encode -/
def chunked_Encode_l1 (t6a : Option Addr) (t6n t6c : Nat) (t7 : Int) (Q : QT) (out_3 : ByteArray) (t8 : Int) (h : Heap) (Kn1 : ByteArray × Int → Heap → Prop) : Prop :=
 if (decide (t8 < t7)) = true then (idxA t8 t6n (nn t6a fun t10 => ldS h (Addr.add t10 ((t8).toNat * 1)) fun t11 => if (!(t11.toList == (⟨#[]⟩ : ByteArray).toList)) = true then (CallT Tryd.prog fn_strconv_FormatInt #[.int .i64 ((t11.size : Nat) : Int), .int .i64 16] h fun v h1 => ∃ t17 : ByteArray, v = .string t17 ∧ ((t17.size + (⟨#[13, 10]⟩ : ByteArray).size : Nat) : Int) ≤ IntKind.max .i64 ∧ (((t17 ++ (⟨#[13, 10]⟩ : ByteArray)).size + t11.size : Nat) : Int) ≤ IntKind.max .i64 ∧ ((((t17 ++ (⟨#[13, 10]⟩ : ByteArray)) ++ t11).size + (⟨#[13, 10]⟩ : ByteArray).size : Nat) : Int) ≤ IntKind.max .i64 ∧ ((out_3.size + (((t17 ++ (⟨#[13, 10]⟩ : ByteArray)) ++ t11) ++ (⟨#[13, 10]⟩ : ByteArray)).size : Nat) : Int) ≤ IntKind.max .i64 ∧ Kn1 (out_3 ++ (((t17 ++ (⟨#[13, 10]⟩ : ByteArray)) ++ t11) ++ (⟨#[13, 10]⟩ : ByteArray)), wrap .i64 (t8 + 1)) h1) else (Kn1 (out_3, wrap .i64 (t8 + 1)) h))) else (((out_3.size + (⟨#[48, 13, 10, 13, 10]⟩ : ByteArray).size : Nat) : Int) ≤ IntKind.max .i64 ∧ Q (.string (out_3 ++ (⟨#[48, 13, 10, 13, 10]⟩ : ByteArray))) h)
def chunked_Encode_v (parts_0a : Option Addr) (parts_0n parts_0c : Nat) (Q : QT) (h : Heap) : Prop :=
 LoopV (fun (s : ByteArray × Int) h Kn => chunked_Encode_l1 parts_0a parts_0n parts_0c ((parts_0n : Nat) : Int) Q s.1 s.2 h Kn) ((⟨#[]⟩ : ByteArray), 0) h
set_option maxRecDepth 100000 in
theorem chunked_Encode_s (parts_0a : Option Addr) (parts_0n parts_0c : Nat) {Q : QT} {h : Heap} (hk : chunked_Encode_v parts_0a parts_0n parts_0c Q h) : CallT Tryd.prog fn_chunked_Encode #[.slice parts_0a parts_0n parts_0c] h Q :=
 callU follows Tryd.func15 (Tryd.call15 _) rfl rfl [] [(8, fun e h => dL (e 6) fun t6a t6n t6c => dI .i64 (e 7) fun t7 => dS (e 3) fun out_3 => dI .i64 (e 8) fun t8 => LoopV (fun (s : ByteArray × Int) h Kn => chunked_Encode_l1 t6a t6n t6c t7 Q s.1 s.2 h Kn) (out_3, t8) h)]
 trivial
 ⟨⟨by kernel_rfl, fun e h he hk => by
 have F := Ag.nil (e := e)
 have ⟨t6a, t6n, t6c, F, hk⟩ := eL F hk
 have ⟨t7, F, hk⟩ := eI F hk
 have ⟨out_3, F, hk⟩ := eS F hk
 have ⟨t8, F, hk⟩ := eI F hk
 exact loopU (s0 := (out_3, t8)) follows (fun _ h => by cases h) he F (fun s => [(8, .int .i64 s.2), (3, .string s.1)]) (by kernel_rfl) (F.take 2) hk (fun Kn1 e h => dS (e 3) fun out_3 => dI .i64 (e 8) fun t8 => Kn1 (out_3, t8) h) (fun Kn1 e h hk => by
  have F := Ag.nil (e := e)
  have ⟨out_3, F, hk⟩ := eS F hk
  have ⟨t8, F, hk⟩ := eI F hk
  exact ⟨(out_3, t8), F, hk⟩)
  (fun Kn1 => []) (fun Kn1 => [])
  (fun Kn1 => trivial)
  (fun Kn1 => trivial) (fun e s h Kn1 => by as_aux_lemma => kernel_rfl)⟩, trivial⟩ (by as_aux_lemma => kernel_rfl) hk
/-! ### intrusion/intrusionref27.Encode -/
def ref27_Encode_l1 (parts_0a : Option Addr) (parts_0n parts_0c : Nat) (Q : QT) (s_3 : ByteArray) (i_4 : Int) (h : Heap) (Kn1 : ByteArray × Int → Heap → Prop) : Prop :=
 if (decide (i_4 < ((parts_0n : Nat) : Int))) = true then (idxA i_4 parts_0n (nn parts_0a fun t13 => ldS h (Addr.add t13 ((i_4).toNat * 1)) fun t14 => if (!(t14.toList == (⟨#[]⟩ : ByteArray).toList)) = true then (idxA i_4 parts_0n (nn parts_0a fun t19 => ldS h (Addr.add t19 ((i_4).toNat * 1)) fun t20 => idxA i_4 parts_0n (nn parts_0a fun t26 => ldS h (Addr.add t26 ((i_4).toNat * 1)) fun t27 => CallT Tryd.prog fn_ref27_hex #[.int .i64 ((t20.size : Nat) : Int)] h fun v h1 => ∃ t22 : ByteArray, v = .string t22 ∧ (ldS h1 (Addr.add t26 ((i_4).toNat * 1)) fun t927 => (.string t927 : Value) = .string t27) ∧ ((t22.size + (⟨#[13, 10]⟩ : ByteArray).size : Nat) : Int) ≤ IntKind.max .i64 ∧ (((t22 ++ (⟨#[13, 10]⟩ : ByteArray)).size + t27.size : Nat) : Int) ≤ IntKind.max .i64 ∧ ((((t22 ++ (⟨#[13, 10]⟩ : ByteArray)) ++ t27).size + (⟨#[13, 10]⟩ : ByteArray).size : Nat) : Int) ≤ IntKind.max .i64 ∧ ((s_3.size + (((t22 ++ (⟨#[13, 10]⟩ : ByteArray)) ++ t27) ++ (⟨#[13, 10]⟩ : ByteArray)).size : Nat) : Int) ≤ IntKind.max .i64 ∧ Kn1 (s_3 ++ (((t22 ++ (⟨#[13, 10]⟩ : ByteArray)) ++ t27) ++ (⟨#[13, 10]⟩ : ByteArray)), wrap .i64 (i_4 + 1)) h1))) else (Kn1 (s_3, wrap .i64 (i_4 + 1)) h))) else (((s_3.size + (⟨#[48, 13, 10, 13, 10]⟩ : ByteArray).size : Nat) : Int) ≤ IntKind.max .i64 ∧ Q (.string (s_3 ++ (⟨#[48, 13, 10, 13, 10]⟩ : ByteArray))) h)
def ref27_Encode_v (parts_0a : Option Addr) (parts_0n parts_0c : Nat) (Q : QT) (h : Heap) : Prop :=
 LoopV (fun (s : ByteArray × Int) h Kn => ref27_Encode_l1 parts_0a parts_0n parts_0c Q s.1 s.2 h Kn) ((⟨#[]⟩ : ByteArray), 0) h
set_option maxRecDepth 100000 in
theorem ref27_Encode_s (parts_0a : Option Addr) (parts_0n parts_0c : Nat) {Q : QT} {h : Heap} (hk : ref27_Encode_v parts_0a parts_0n parts_0c Q h) : CallT Tryd.prog fn_ref27_Encode #[.slice parts_0a parts_0n parts_0c] h Q :=
 callU follows Tryd.func16 (Tryd.call16 _) rfl rfl [] [(8, fun e h => dL (e 0) fun parts_0a parts_0n parts_0c => dS (e 3) fun s_3 => dI .i64 (e 4) fun i_4 => LoopV (fun (s : ByteArray × Int) h Kn => ref27_Encode_l1 parts_0a parts_0n parts_0c Q s.1 s.2 h Kn) (s_3, i_4) h)]
 trivial
 ⟨⟨by kernel_rfl, fun e h he hk => by
 have F := Ag.nil (e := e)
 have ⟨parts_0a, parts_0n, parts_0c, F, hk⟩ := eL F hk
 have ⟨s_3, F, hk⟩ := eS F hk
 have ⟨i_4, F, hk⟩ := eI F hk
 exact loopU (s0 := (s_3, i_4)) follows (fun _ h => by cases h) he F (fun s => [(4, .int .i64 s.2), (3, .string s.1)]) (by kernel_rfl) (F.take 2) hk (fun Kn1 e h => dS (e 3) fun s_3 => dI .i64 (e 4) fun i_4 => Kn1 (s_3, i_4) h) (fun Kn1 e h hk => by
  have F := Ag.nil (e := e)
  have ⟨s_3, F, hk⟩ := eS F hk
  have ⟨i_4, F, hk⟩ := eI F hk
  exact ⟨(s_3, i_4), F, hk⟩)
  (fun Kn1 => []) (fun Kn1 => [])
  (fun Kn1 => trivial)
  (fun Kn1 => trivial) (fun e s h Kn1 => by as_aux_lemma => kernel_rfl)⟩, trivial⟩ (by as_aux_lemma => kernel_rfl) hk
/-! ### (*intrusion/chunked.Decoder).Feed$1 -/
def chunked_Decoder_Feed_1_v (n_0 : Int) (t1 t2 t3 : Addr) (Q : QT) (h : Heap) : Prop :=
 ldL h t1 fun t5a t5n t5c => ldS h t2 fun t6 => sliceStr t6 none (some n_0) fun t8 => bltV Tryd.prog .append #[T_sl_uint8, T_string] T_sl_uint8 #[false, false] #[.slice t5a t5n t5c, .string t8] h fun v h1 => ∃ t9a : Option Addr, ∃ t9n : Nat, ∃ t9c : Nat, v = .slice t9a t9n t9c ∧ st1 h1 t1 (.slice t9a t9n t9c) fun h2 => ldS h2 t2 fun t10 => sliceStr t10 (some n_0) none fun t12 => st1 h2 t2 (.string t12) fun h3 => ldP h3 t3 fun t13 => nn t13 fun t14 => ldI h3 (Addr.add t14 2) .i64 fun t16 => nn t13 fun t19 => st1 h3 (Addr.add t19 2) (.int .i64 (wrap .i64 (t16 - n_0))) fun h4 => Q (.tuple #[]) h4
set_option maxRecDepth 100000 in
theorem chunked_Decoder_Feed_1_s (n_0 : Int) (t1 t2 t3 : Addr) {Q : QT} {h : Heap} (hk : chunked_Decoder_Feed_1_v n_0 t1 t2 t3 Q h) : CallT Tryd.prog fn_chunked_Decoder_Feed_1 #[.int .i64 n_0, .pointer (some t1), .pointer (some t2), .pointer (some t3)] h Q :=
 callU follows Tryd.func17 (Tryd.call17 _) rfl rfl [] []
 trivial
 trivial (by as_aux_lemma => kernel_rfl) hk
/-! ### (*intrusion/chunked.Decoder).step -/
def chunked_Decoder_step_l1 (d_0 : Option Addr) (Q : QT) (h : Heap) (Kn1 : Unit → Heap → Prop) : Prop :=
 CallT Tryd.prog fn_chunked_Decoder_count #[.pointer d_0, .int .i64 1] h fun v h6 => ∃ t104 : Int, v = .int .i64 t104 ∧ Q (.int .i64 t104) h6
def chunked_Decoder_step_b5 (d_0 : Option Addr) (c_1 : Int) (Q : QT) (h : Heap) : Prop :=
 nn d_0 fun t85 => ldI h t85 .i64 fun t87 => if (t87 == 3) = true then (Q (.int .i64 2) h) else (if (c_1 != 59) = true then (Q (.int .i64 2) h) else (nn d_0 fun t95 => ldI h (Addr.add t95 1) .i64 fun t97 => if (t97 == 0) = true then (Q (.int .i64 2) h) else (nn d_0 fun t101 => st1 h t101 (.int .i64 1) fun h9 => LoopV (fun (s : Unit) h Kn => chunked_Decoder_step_l1 d_0 Q h Kn) () h9)))
def chunked_Decoder_step_b3 (d_0 : Option Addr) (c_1 : Int) (strict_5 : Bool) (Q : QT) (h : Heap) : Prop :=
 if (c_1 == 13) = true then (nn d_0 fun t40 => ldI h t40 .i64 fun t42 => if (t42 == 0) = true then (nn d_0 fun t46 => ldI h (Addr.add t46 1) .i64 fun t48 => if (t48 == 0) = true then (Q (.int .i64 2) h) else (nn d_0 fun t52 => st1 h (Addr.add t52 3) (.bool true) fun h4 => Q (.int .i64 0) h4)) else (nn d_0 fun t52 => st1 h (Addr.add t52 3) (.bool true) fun h5 => Q (.int .i64 0) h5)) else (if (!strict_5) = true then (LoopV (fun (s : Unit) h Kn => chunked_Decoder_step_l1 d_0 Q h Kn) () h) else (CallT Tryd.prog fn_chunked_hex #[.int .u8 c_1] h fun v h7 => ∃ t57 : Int, v = .int .i64 t57 ∧ nn d_0 fun t59 => ldI h7 t59 .i64 fun t61 => if (t61 == 0) = true then (if (decide (t57 ≥ 0)) = true then (nn d_0 fun t69 => ldI h7 (Addr.add t69 1) .i64 fun t71 => if (decide (t71 < 7)) = true then (nn d_0 fun t76 => ldI h7 (Addr.add t76 2) .i64 fun t78 => nn d_0 fun t82 => st1 h7 (Addr.add t82 2) (.int .i64 (wrap .i64 ((wrap .i64 (t78 * 16)) + t57))) fun h8 => LoopV (fun (s : Unit) h Kn => chunked_Decoder_step_l1 d_0 Q h Kn) () h8) else (chunked_Decoder_step_b5 d_0 c_1 Q h7)) else (chunked_Decoder_step_b5 d_0 c_1 Q h7)) else (chunked_Decoder_step_b5 d_0 c_1 Q h7)))
def chunked_Decoder_step_b4 (d_0 : Option Addr) (c_1 : Int) (strict_5 : Bool) (Q : QT) (h : Heap) : Prop :=
 nn d_0 fun t25 => ldB h (Addr.add t25 3) fun t27 => if t27 = true then (nn d_0 fun t29 => st1 h (Addr.add t29 3) (.bool false) fun h2 => if strict_5 = true then (Q (.int .i64 2) h2) else (CallT Tryd.prog fn_chunked_Decoder_count #[.pointer d_0, .int .i64 1] h2 fun v h3 => ∃ t33 : Int, v = .int .i64 t33 ∧ if (t33 != 0) = true then (Q (.int .i64 t33) h3) else (chunked_Decoder_step_b3 d_0 c_1 strict_5 Q h3))) else (chunked_Decoder_step_b3 d_0 c_1 strict_5 Q h)
def chunked_Decoder_step_b2 (d_0 : Option Addr) (c_1 : Int) (Q : QT) (h : Heap) : Prop :=
 if (c_1 == 10) = true then (CallT Tryd.prog fn_chunked_Decoder_line #[.pointer d_0] h fun v h1 => ∃ t11 : Int, v = .int .i64 t11 ∧ Q (.int .i64 t11) h1) else (nn d_0 fun t13 => ldI h t13 .i64 fun t15 => if (t15 == 0) = true then (chunked_Decoder_step_b4 d_0 c_1 true Q h) else (nn d_0 fun t19 => ldI h t19 .i64 fun t21 => chunked_Decoder_step_b4 d_0 c_1 (t21 == 3) Q h))
def chunked_Decoder_step_v (d_0 : Option Addr) (c_1 : Int) (Q : QT) (h : Heap) : Prop :=
 chunked_Decoder_step_b2 d_0 c_1 Q h
set_option maxRecDepth 100000 in
theorem chunked_Decoder_step_s (d_0 : Option Addr) (c_1 : Int) {Q : QT} {h : Heap} (hk : chunked_Decoder_step_v d_0 c_1 Q h) : CallT Tryd.prog fn_chunked_Decoder_step #[.pointer d_0, .int .u8 c_1] h Q :=
 callU follows Tryd.func18 (Tryd.call18 _) rfl rfl [] [(5, fun e h => dP (e 0) fun d_0 => dI .u8 (e 1) fun c_1 => chunked_Decoder_step_b2 d_0 c_1 Q h)]
 trivial
 ⟨⟨by kernel_rfl, fun e h he hk => by
 have F := Ag.nil (e := e)
 have ⟨d_0, F, hk⟩ := eP F hk
 have ⟨c_1, F, hk⟩ := eI F hk
 exact scopeU (body := (fun (s : Unit) h Kn => chunked_Decoder_step_l1 d_0 Q h Kn)) follows 0 (fun _ h => by cases h) he F (fun s => []) (by kernel_rfl) (by kernel_rfl) (by kernel_rfl) (fun Kn1 e h => Kn1 () h) (fun Kn1 e h hk => by
  have F := Ag.nil (e := e)
  exact ⟨(), F, hk⟩) (fun e h => dP (e 0) fun d_0 => LoopV (fun (s : Unit) h Kn => chunked_Decoder_step_l1 d_0 Q h Kn) () h) (fun e h => by as_aux_lemma => kernel_rfl) (fun e s h => by as_aux_lemma => kernel_rfl)
  [(10, fun e h => dP (e 0) fun d_0 => dI .u8 (e 1) fun c_1 => dB (e 5) fun strict_5 => chunked_Decoder_step_b4 d_0 c_1 strict_5 Q h), (24, fun e h => dP (e 0) fun d_0 => dI .u8 (e 1) fun c_1 => dB (e 5) fun strict_5 => chunked_Decoder_step_b3 d_0 c_1 strict_5 Q h), (42, fun e h => dP (e 0) fun d_0 => dI .u8 (e 1) fun c_1 => chunked_Decoder_step_b5 d_0 c_1 Q h)] []
  ⟨fun e h _ hk => by
 have F := Ag.nil (e := e)
 have ⟨d_0, F, hk⟩ := eP F hk
 have ⟨c_1, F, hk⟩ := eI F hk
 have ⟨strict_5, F, hk⟩ := eB F hk
 exact cutU F (by as_aux_lemma => kernel_rfl) hk, fun e h _ hk => by
 have F := Ag.nil (e := e)
 have ⟨d_0, F, hk⟩ := eP F hk
 have ⟨c_1, F, hk⟩ := eI F hk
 have ⟨strict_5, F, hk⟩ := eB F hk
 exact cutU F (by as_aux_lemma => kernel_rfl) hk, fun e h _ hk => by
 have F := Ag.nil (e := e)
 have ⟨d_0, F, hk⟩ := eP F hk
 have ⟨c_1, F, hk⟩ := eI F hk
 exact cutU F (by as_aux_lemma => kernel_rfl) hk, trivial⟩ (by kernel_rfl)
  trivial (by as_aux_lemma => kernel_rfl) hk
  (fun Kn1 => []) (fun Kn1 => [])
  (fun Kn1 => trivial)
  (fun Kn1 => trivial) (fun e s h Kn1 => by as_aux_lemma => kernel_rfl)⟩, trivial⟩ (by as_aux_lemma => kernel_rfl) hk
/-! ### (*intrusion/intrusionref27.Decoder).begin -/
def ref27_Decoder_begin_v (d_0 : Option Addr) (state_1 : Int) (Q : QT) (h : Heap) : Prop :=
 nn d_0 fun t6 => st1 h t6 (.int .i64 state_1) fun h1 => nn d_0 fun t9 => st1 h1 (Addr.add t9 2) (.int .i64 0) fun h2 => nn d_0 fun t12 => st1 h2 (Addr.add t12 3) (.bool false) fun h3 => Q (.tuple #[]) h3
set_option maxRecDepth 100000 in
theorem ref27_Decoder_begin_s (d_0 : Option Addr) (state_1 : Int) {Q : QT} {h : Heap} (hk : ref27_Decoder_begin_v d_0 state_1 Q h) : CallT Tryd.prog fn_ref27_Decoder_begin #[.pointer d_0, .int .i64 state_1] h Q :=
 callU follows Tryd.func19 (Tryd.call19 _) rfl rfl [] []
 trivial
 trivial (by as_aux_lemma => kernel_rfl) hk
/-! ### (*intrusion/intrusionref27.Decoder).step -/
def ref27_Decoder_step_b3 (d_0 : Option Addr) (c_1 : Int) (t89 : Bool) (Q : QT) (h : Heap) : Prop :=
 if t89 = true then (Q (.int .i64 2) h) else (nn d_0 fun t92 => ldI h (Addr.add t92 1) .i64 fun t94 => CallT Tryd.prog fn_ref27_Digit #[.int .u8 c_1] h fun v h11 => ∃ t97 : Int, v = .int .i64 t97 ∧ (ldI h11 (Addr.add t92 1) .i64 fun t994 => (.int .i64 t994 : Value) = .int .i64 t94) ∧ nn d_0 fun t99 => st1 h11 (Addr.add t99 1) (.int .i64 (wrap .i64 ((wrap .i64 (16 * t94)) + t97))) fun h12 => CallT Tryd.prog fn_ref27_Decoder_count #[.pointer d_0] h12 fun v h13 => ∃ t102 : Int, v = .int .i64 t102 ∧ Q (.int .i64 t102) h13)
def ref27_Decoder_step_b2 (d_0 : Option Addr) (c_1 : Int) (Q : QT) (h : Heap) : Prop :=
 nn d_0 fun t74 => ldI h t74 .i64 fun t76 => if (t76 == 3) = true then (ref27_Decoder_step_b3 d_0 c_1 true Q h) else (CallT Tryd.prog fn_ref27_Digit #[.int .u8 c_1] h fun v h10 => ∃ t80 : Int, v = .int .i64 t80 ∧ if (decide (t80 < 0)) = true then (ref27_Decoder_step_b3 d_0 c_1 true Q h10) else (nn d_0 fun t85 => ldI h10 (Addr.add t85 2) .i64 fun t87 => ref27_Decoder_step_b3 d_0 c_1 (t87 == 7) Q h10))
def ref27_Decoder_step_b1 (d_0 : Option Addr) (c_1 : Int) (Q : QT) (h : Heap) : Prop :=
 if (c_1 == 13) = true then (nn d_0 fun t34 => st1 h (Addr.add t34 3) (.bool true) fun h5 => nn d_0 fun t37 => ldI h5 t37 .i64 fun t39 => if (t39 == 0) = true then (nn d_0 fun t43 => ldI h5 (Addr.add t43 2) .i64 fun t45 => if (t45 == 0) = true then (Q (.int .i64 2) h5) else (Q (.int .i64 0) h5)) else (Q (.int .i64 0) h5)) else (CallT Tryd.prog fn_ref27_Decoder_free #[.pointer d_0] h fun v h6 => ∃ t49 : Bool, v = .bool t49 ∧ if t49 = true then (CallT Tryd.prog fn_ref27_Decoder_count #[.pointer d_0] h6 fun v h7 => ∃ t51 : Int, v = .int .i64 t51 ∧ Q (.int .i64 t51) h7) else (nn d_0 fun t53 => ldI h6 t53 .i64 fun t55 => if (t55 == 0) = true then (if (c_1 == 59) = true then (nn d_0 fun t63 => ldI h6 (Addr.add t63 2) .i64 fun t65 => if (decide (t65 > 0)) = true then (nn d_0 fun t69 => st1 h6 t69 (.int .i64 1) fun h8 => CallT Tryd.prog fn_ref27_Decoder_count #[.pointer d_0] h8 fun v h9 => ∃ t72 : Int, v = .int .i64 t72 ∧ Q (.int .i64 t72) h9) else (ref27_Decoder_step_b2 d_0 c_1 Q h6)) else (ref27_Decoder_step_b2 d_0 c_1 Q h6)) else (ref27_Decoder_step_b2 d_0 c_1 Q h6)))
def ref27_Decoder_step_b4 (d_0 : Option Addr) (c_1 : Int) (Q : QT) (h : Heap) : Prop :=
 nn d_0 fun t20 => ldB h (Addr.add t20 3) fun t22 => if t22 = true then (nn d_0 fun t24 => st1 h (Addr.add t24 3) (.bool false) fun h3 => CallT Tryd.prog fn_ref27_Decoder_count #[.pointer d_0] h3 fun v h4 => ∃ t27 : Int, v = .int .i64 t27 ∧ if (t27 != 0) = true then (Q (.int .i64 t27) h4) else (ref27_Decoder_step_b1 d_0 c_1 Q h4)) else (ref27_Decoder_step_b1 d_0 c_1 Q h)
def ref27_Decoder_step_v (d_0 : Option Addr) (c_1 : Int) (Q : QT) (h : Heap) : Prop :=
 if (c_1 == 10) = true then (CallT Tryd.prog fn_ref27_Decoder_end #[.pointer d_0] h fun v h1 => ∃ t9 : Int, v = .int .i64 t9 ∧ Q (.int .i64 t9) h1) else (nn d_0 fun t11 => ldB h (Addr.add t11 3) fun t13 => if t13 = true then (CallT Tryd.prog fn_ref27_Decoder_free #[.pointer d_0] h fun v h2 => ∃ t16 : Bool, v = .bool t16 ∧ if (!t16) = true then (Q (.int .i64 2) h2) else (ref27_Decoder_step_b4 d_0 c_1 Q h2)) else (ref27_Decoder_step_b4 d_0 c_1 Q h))
set_option maxRecDepth 100000 in
theorem ref27_Decoder_step_s (d_0 : Option Addr) (c_1 : Int) {Q : QT} {h : Heap} (hk : ref27_Decoder_step_v d_0 c_1 Q h) : CallT Tryd.prog fn_ref27_Decoder_step #[.pointer d_0, .int .u8 c_1] h Q :=
 callU follows Tryd.func20 (Tryd.call20 _) rfl rfl [(12, fun e h => dP (e 0) fun d_0 => dI .u8 (e 1) fun c_1 => ref27_Decoder_step_b4 d_0 c_1 Q h), (22, fun e h => dP (e 0) fun d_0 => dI .u8 (e 1) fun c_1 => ref27_Decoder_step_b1 d_0 c_1 Q h), (42, fun e h => dP (e 0) fun d_0 => dI .u8 (e 1) fun c_1 => ref27_Decoder_step_b2 d_0 c_1 Q h), (44, fun e h => dP (e 0) fun d_0 => dI .u8 (e 1) fun c_1 => dB (e 89) fun t89 => ref27_Decoder_step_b3 d_0 c_1 t89 Q h)] []
 ⟨fun e h _ hk => by
 have F := Ag.nil (e := e)
 have ⟨d_0, F, hk⟩ := eP F hk
 have ⟨c_1, F, hk⟩ := eI F hk
 exact cutU F (by as_aux_lemma => kernel_rfl) hk, fun e h _ hk => by
 have F := Ag.nil (e := e)
 have ⟨d_0, F, hk⟩ := eP F hk
 have ⟨c_1, F, hk⟩ := eI F hk
 exact cutU F (by as_aux_lemma => kernel_rfl) hk, fun e h _ hk => by
 have F := Ag.nil (e := e)
 have ⟨d_0, F, hk⟩ := eP F hk
 have ⟨c_1, F, hk⟩ := eI F hk
 exact cutU F (by as_aux_lemma => kernel_rfl) hk, fun e h _ hk => by
 have F := Ag.nil (e := e)
 have ⟨d_0, F, hk⟩ := eP F hk
 have ⟨c_1, F, hk⟩ := eI F hk
 have ⟨t89, F, hk⟩ := eB F hk
 exact cutU F (by as_aux_lemma => kernel_rfl) hk, trivial⟩
 trivial (by as_aux_lemma => kernel_rfl) hk
/-! ### strconv.FormatInt -/
def strconv_FormatInt_v (i_0 base_1 : Int) (Q : QT) (h : Heap) : Prop :=
 CallT Tryd.prog fn_internal_strconv_FormatInt #[.int .i64 i_0, .int .i64 base_1] h fun v h1 => ∃ t7 : ByteArray, v = .string t7 ∧ Q (.string t7) h1
set_option maxRecDepth 100000 in
theorem strconv_FormatInt_s (i_0 base_1 : Int) {Q : QT} {h : Heap} (hk : strconv_FormatInt_v i_0 base_1 Q h) : CallT Tryd.prog fn_strconv_FormatInt #[.int .i64 i_0, .int .i64 base_1] h Q :=
 callU follows Tryd.func21 (Tryd.call21 _) rfl rfl [] []
 trivial
 trivial (by as_aux_lemma => kernel_rfl) hk
/-! ### intrusion/intrusionref27.hex -/
def ref27_hex_b2 (n_0 : Int) (s_3 : ByteArray) (Q : QT) (h : Heap) : Prop :=
 sliceStr (⟨#[48, 49, 50, 51, 52, 53, 54, 55, 56, 57, 97, 98, 99, 100, 101, 102]⟩ : ByteArray) (some n_0) (some (wrap .i64 (n_0 + 1))) fun t19 => ((t19.size + s_3.size : Nat) : Int) ≤ IntKind.max .i64 ∧ Q (.string (t19 ++ s_3)) h
def ref27_hex_l1 (Q : QT) (n_0 : Int) (s_3 : ByteArray) (h : Heap) (Kn1 : Int × ByteArray → Heap → Prop) : Prop :=
 if (decide (n_0 > 15)) = true then ((16 : Int) ≠ 0 ∧ (16 : Int) ≠ 0 ∧ sliceStr (⟨#[48, 49, 50, 51, 52, 53, 54, 55, 56, 57, 97, 98, 99, 100, 101, 102]⟩ : ByteArray) (some (Int.tmod n_0 16)) (some (wrap .i64 ((Int.tmod n_0 16) + 1))) fun t11 => ((t11.size + s_3.size : Nat) : Int) ≤ IntKind.max .i64 ∧ (16 : Int) ≠ 0 ∧ Kn1 (wrap .i64 (Int.tdiv n_0 16), t11 ++ s_3) h) else (ref27_hex_b2 n_0 s_3 Q h)
def ref27_hex_v (n_0 : Int) (Q : QT) (h : Heap) : Prop :=
 LoopV (fun (s : Int × ByteArray) h Kn => ref27_hex_l1 Q s.1 s.2 h Kn) (n_0, (⟨#[]⟩ : ByteArray)) h
set_option maxRecDepth 100000 in
theorem ref27_hex_s (n_0 : Int) {Q : QT} {h : Heap} (hk : ref27_hex_v n_0 Q h) : CallT Tryd.prog fn_ref27_hex #[.int .i64 n_0] h Q :=
 callU follows Tryd.func22 (Tryd.call22 _) rfl rfl [(12, fun e h => dI .i64 (e 0) fun n_0 => dS (e 3) fun s_3 => ref27_hex_b2 n_0 s_3 Q h)] [(6, fun e h => dI .i64 (e 0) fun n_0 => dS (e 3) fun s_3 => LoopV (fun (s : Int × ByteArray) h Kn => ref27_hex_l1 Q s.1 s.2 h Kn) (n_0, s_3) h)]
 ⟨fun e h _ hk => by
 have F := Ag.nil (e := e)
 have ⟨n_0, F, hk⟩ := eI F hk
 have ⟨s_3, F, hk⟩ := eS F hk
 exact cutU F (by as_aux_lemma => kernel_rfl) hk, trivial⟩
 ⟨⟨by kernel_rfl, fun e h he hk => by
 have F := Ag.nil (e := e)
 have ⟨n_0, F, hk⟩ := eI F hk
 have ⟨s_3, F, hk⟩ := eS F hk
 exact loopU (s0 := (n_0, s_3)) follows (fun _ h => by cases h) he F (fun s => [(3, .string s.2), (0, .int .i64 s.1)]) (by kernel_rfl) (F.take 2) hk (fun Kn1 e h => dI .i64 (e 0) fun n_0 => dS (e 3) fun s_3 => Kn1 (n_0, s_3) h) (fun Kn1 e h hk => by
  have F := Ag.nil (e := e)
  have ⟨n_0, F, hk⟩ := eI F hk
  have ⟨s_3, F, hk⟩ := eS F hk
  exact ⟨(n_0, s_3), F, hk⟩)
  (fun Kn1 => []) (fun Kn1 => [])
  (fun Kn1 => trivial)
  (fun Kn1 => trivial) (fun e s h Kn1 => by as_aux_lemma => kernel_rfl)⟩, trivial⟩ (by as_aux_lemma => kernel_rfl) hk
/-! ### (*intrusion/chunked.Decoder).line -/
def chunked_Decoder_line_b1 (d_0 : Option Addr) (length_3 t17 : Int) (t18 : Bool) (Q : QT) (h : Heap) : Prop :=
 if t18 = true then (if (length_3 == 0) = true then (Q (.int .i64 2) h) else (nn d_0 fun t24 => st1 h t24 (.int .i64 2) fun h3 => nn d_0 fun t27 => ldI h3 (Addr.add t27 2) .i64 fun t29 => if (t29 == 0) = true then (nn d_0 fun t32 => st1 h3 t32 (.int .i64 4) fun h4 => Q (.int .i64 0) h4) else (Q (.int .i64 0) h3))) else (if (t17 == 3) = true then (nn d_0 fun t38 => st1 h t38 (.int .i64 0) fun h5 => nn d_0 fun t40 => st1 h5 (Addr.add t40 2) (.int .i64 0) fun h6 => Q (.int .i64 0) h6) else (if (t17 == 4) = true then (if (length_3 == 0) = true then (nn d_0 fun t47 => st1 h t47 (.int .i64 5) fun h7 => Q (.int .i64 0) h7) else (Q (.int .i64 0) h)) else (Q (.int .i64 0) h)))
def chunked_Decoder_line_v (d_0 : Option Addr) (Q : QT) (h : Heap) : Prop :=
 nn d_0 fun t5 => ldI h (Addr.add t5 1) .i64 fun t7 => nn d_0 fun t10 => st1 h (Addr.add t10 1) (.int .i64 0) fun h1 => nn d_0 fun t12 => st1 h1 (Addr.add t12 3) (.bool false) fun h2 => nn d_0 fun t15 => ldI h2 t15 .i64 fun t17 => if (t17 == 0) = true then (chunked_Decoder_line_b1 d_0 t7 t17 (t17 == 0) Q h2) else (chunked_Decoder_line_b1 d_0 t7 t17 (t17 == 1) Q h2)
set_option maxRecDepth 100000 in
theorem chunked_Decoder_line_s (d_0 : Option Addr) {Q : QT} {h : Heap} (hk : chunked_Decoder_line_v d_0 Q h) : CallT Tryd.prog fn_chunked_Decoder_line #[.pointer d_0] h Q :=
 callU follows Tryd.func23 (Tryd.call23 _) rfl rfl [(14, fun e h => dP (e 0) fun d_0 => dI .i64 (e 3) fun length_3 => dI .i64 (e 17) fun t17 => dB (e 18) fun t18 => chunked_Decoder_line_b1 d_0 length_3 t17 t18 Q h)] []
 ⟨fun e h _ hk => by
 have F := Ag.nil (e := e)
 have ⟨d_0, F, hk⟩ := eP F hk
 have ⟨length_3, F, hk⟩ := eI F hk
 have ⟨t17, F, hk⟩ := eI F hk
 have ⟨t18, F, hk⟩ := eB F hk
 exact cutU F (by as_aux_lemma => kernel_rfl) hk, trivial⟩
 trivial (by as_aux_lemma => kernel_rfl) hk
/-! ### (*intrusion/chunked.Decoder).count -/
def chunked_Decoder_count_v (d_0 : Option Addr) (n_1 : Int) (Q : QT) (h : Heap) : Prop :=
 nn d_0 fun t6 => ldI h (Addr.add t6 1) .i64 fun t8 => nn d_0 fun t11 => st1 h (Addr.add t11 1) (.int .i64 (wrap .i64 (t8 + n_1))) fun h1 => nn d_0 fun t14 => ldI h1 (Addr.add t14 1) .i64 fun t16 => if (decide (t16 > 128)) = true then (Q (.int .i64 3) h1) else (Q (.int .i64 0) h1)
set_option maxRecDepth 100000 in
theorem chunked_Decoder_count_s (d_0 : Option Addr) (n_1 : Int) {Q : QT} {h : Heap} (hk : chunked_Decoder_count_v d_0 n_1 Q h) : CallT Tryd.prog fn_chunked_Decoder_count #[.pointer d_0, .int .i64 n_1] h Q :=
 callU follows Tryd.func24 (Tryd.call24 _) rfl rfl [] []
 trivial
 trivial (by as_aux_lemma => kernel_rfl) hk
/-! ### intrusion/chunked.hex -/
def chunked_hex_b1 (c_0 : Int) (Q : QT) (h : Heap) : Prop :=
 if (decide (c_0 ≥ 97)) = true then (if (decide (c_0 ≤ 102)) = true then (Q (.int .i64 (wrap .i64 ((wrap .i64 (wrap .u8 (c_0 - 97))) + 10))) h) else (if (decide (c_0 ≥ 65)) = true then (if (decide (c_0 ≤ 70)) = true then (Q (.int .i64 (wrap .i64 ((wrap .i64 (wrap .u8 (c_0 - 65))) + 10))) h) else (Q (.int .i64 (-1)) h)) else (Q (.int .i64 (-1)) h))) else (if (decide (c_0 ≥ 65)) = true then (if (decide (c_0 ≤ 70)) = true then (Q (.int .i64 (wrap .i64 ((wrap .i64 (wrap .u8 (c_0 - 65))) + 10))) h) else (Q (.int .i64 (-1)) h)) else (Q (.int .i64 (-1)) h))
def chunked_hex_v (c_0 : Int) (Q : QT) (h : Heap) : Prop :=
 if (decide (c_0 ≥ 48)) = true then (if (decide (c_0 ≤ 57)) = true then (Q (.int .i64 (wrap .i64 (wrap .u8 (c_0 - 48)))) h) else (chunked_hex_b1 c_0 Q h)) else (chunked_hex_b1 c_0 Q h)
set_option maxRecDepth 100000 in
theorem chunked_hex_s (c_0 : Int) {Q : QT} {h : Heap} (hk : chunked_hex_v c_0 Q h) : CallT Tryd.prog fn_chunked_hex #[.int .u8 c_0] h Q :=
 callU follows Tryd.func25 (Tryd.call25 _) rfl rfl [(9, fun e h => dI .u8 (e 0) fun c_0 => chunked_hex_b1 c_0 Q h)] []
 ⟨fun e h _ hk => by
 have F := Ag.nil (e := e)
 have ⟨c_0, F, hk⟩ := eI F hk
 exact cutU F (by as_aux_lemma => kernel_rfl) hk, trivial⟩
 trivial (by as_aux_lemma => kernel_rfl) hk
/-! ### (*intrusion/intrusionref27.Decoder).end -/
def ref27_Decoder_end_b2 (d_0 : Option Addr) (Q : QT) (h : Heap) : Prop :=
 nn d_0 fun t42 => ldI h t42 .i64 fun t44 => if (decide (t44 ≤ 1)) = true then (CallT Tryd.prog fn_ref27_Decoder_begin #[.pointer d_0, .int .i64 4] h fun v h3 => v = .tuple #[] ∧ Q (.int .i64 0) h3) else (nn d_0 fun t50 => ldI h t50 .i64 fun t52 => if (t52 == 3) = true then (nn d_0 fun t55 => st1 h (Addr.add t55 1) (.int .i64 0) fun h4 => CallT Tryd.prog fn_ref27_Decoder_begin #[.pointer d_0, .int .i64 0] h4 fun v h5 => v = .tuple #[] ∧ Q (.int .i64 0) h5) else (nn d_0 fun t61 => ldI h (Addr.add t61 2) .i64 fun t63 => if (t63 == 0) = true then (CallT Tryd.prog fn_ref27_Decoder_begin #[.pointer d_0, .int .i64 5] h fun v h6 => v = .tuple #[] ∧ Q (.int .i64 0) h6) else (CallT Tryd.prog fn_ref27_Decoder_begin #[.pointer d_0, .int .i64 4] h fun v h7 => v = .tuple #[] ∧ Q (.int .i64 0) h7)))
def ref27_Decoder_end_b1 (d_0 : Option Addr) (Q : QT) (h : Heap) : Prop :=
 nn d_0 fun t20 => ldI h t20 .i64 fun t22 => if (decide (t22 ≤ 1)) = true then (nn d_0 fun t26 => ldI h (Addr.add t26 1) .i64 fun t28 => if (decide (t28 > 0)) = true then (nn d_0 fun t33 => ldI h (Addr.add t33 1) .i64 fun t35 => nn d_0 fun t36 => st1 h (Addr.add t36 4) (.int .i64 t35) fun h1 => CallT Tryd.prog fn_ref27_Decoder_begin #[.pointer d_0, .int .i64 2] h1 fun v h2 => v = .tuple #[] ∧ Q (.int .i64 0) h2) else (ref27_Decoder_end_b2 d_0 Q h)) else (ref27_Decoder_end_b2 d_0 Q h)
def ref27_Decoder_end_v (d_0 : Option Addr) (Q : QT) (h : Heap) : Prop :=
 nn d_0 fun t7 => ldI h t7 .i64 fun t9 => if (t9 == 0) = true then (nn d_0 fun t13 => ldI h (Addr.add t13 2) .i64 fun t15 => if (t15 == 0) = true then (Q (.int .i64 2) h) else (ref27_Decoder_end_b1 d_0 Q h)) else (ref27_Decoder_end_b1 d_0 Q h)
set_option maxRecDepth 100000 in
theorem ref27_Decoder_end_s (d_0 : Option Addr) {Q : QT} {h : Heap} (hk : ref27_Decoder_end_v d_0 Q h) : CallT Tryd.prog fn_ref27_Decoder_end #[.pointer d_0] h Q :=
 callU follows Tryd.func26 (Tryd.call26 _) rfl rfl [(11, fun e h => dP (e 0) fun d_0 => ref27_Decoder_end_b1 d_0 Q h), (17, fun e h => dP (e 0) fun d_0 => ref27_Decoder_end_b2 d_0 Q h)] []
 ⟨fun e h _ hk => by
 have F := Ag.nil (e := e)
 have ⟨d_0, F, hk⟩ := eP F hk
 exact cutU F (by as_aux_lemma => kernel_rfl) hk, fun e h _ hk => by
 have F := Ag.nil (e := e)
 have ⟨d_0, F, hk⟩ := eP F hk
 exact cutU F (by as_aux_lemma => kernel_rfl) hk, trivial⟩
 trivial (by as_aux_lemma => kernel_rfl) hk
/-! ### (*intrusion/intrusionref27.Decoder).free -/
def ref27_Decoder_free_v (d_0 : Option Addr) (Q : QT) (h : Heap) : Prop :=
 nn d_0 fun t4 => ldI h t4 .i64 fun t6 => if (t6 == 1) = true then (Q (.bool true) h) else (nn d_0 fun t10 => ldI h t10 .i64 fun t12 => Q (.bool (t12 == 4)) h)
set_option maxRecDepth 100000 in
theorem ref27_Decoder_free_s (d_0 : Option Addr) {Q : QT} {h : Heap} (hk : ref27_Decoder_free_v d_0 Q h) : CallT Tryd.prog fn_ref27_Decoder_free #[.pointer d_0] h Q :=
 callU follows Tryd.func27 (Tryd.call27 _) rfl rfl [] []
 trivial
 trivial (by as_aux_lemma => kernel_rfl) hk
/-! ### (*intrusion/intrusionref27.Decoder).count -/
def ref27_Decoder_count_v (d_0 : Option Addr) (Q : QT) (h : Heap) : Prop :=
 nn d_0 fun t4 => ldI h (Addr.add t4 2) .i64 fun t6 => nn d_0 fun t8 => st1 h (Addr.add t8 2) (.int .i64 (wrap .i64 (t6 + 1))) fun h1 => nn d_0 fun t11 => ldI h1 (Addr.add t11 2) .i64 fun t13 => if (decide (t13 > 128)) = true then (Q (.int .i64 3) h1) else (Q (.int .i64 0) h1)
set_option maxRecDepth 100000 in
theorem ref27_Decoder_count_s (d_0 : Option Addr) {Q : QT} {h : Heap} (hk : ref27_Decoder_count_v d_0 Q h) : CallT Tryd.prog fn_ref27_Decoder_count #[.pointer d_0] h Q :=
 callU follows Tryd.func28 (Tryd.call28 _) rfl rfl [] []
 trivial
 trivial (by as_aux_lemma => kernel_rfl) hk
/-! ### intrusion/intrusionref27.Digit -/
def ref27_Digit_b1 (c_0 : Int) (Q : QT) (h : Heap) : Prop :=
 if (decide (c_0 ≥ 97)) = true then (if (decide (c_0 ≤ 102)) = true then (Q (.int .i64 (wrap .i64 ((wrap .i64 c_0) - 87))) h) else (if (decide (c_0 ≥ 65)) = true then (if (decide (c_0 ≤ 70)) = true then (Q (.int .i64 (wrap .i64 ((wrap .i64 c_0) - 55))) h) else (Q (.int .i64 (-1)) h)) else (Q (.int .i64 (-1)) h))) else (if (decide (c_0 ≥ 65)) = true then (if (decide (c_0 ≤ 70)) = true then (Q (.int .i64 (wrap .i64 ((wrap .i64 c_0) - 55))) h) else (Q (.int .i64 (-1)) h)) else (Q (.int .i64 (-1)) h))
def ref27_Digit_v (c_0 : Int) (Q : QT) (h : Heap) : Prop :=
 if (decide (c_0 ≥ 48)) = true then (if (decide (c_0 ≤ 57)) = true then (Q (.int .i64 (wrap .i64 ((wrap .i64 c_0) - 48))) h) else (ref27_Digit_b1 c_0 Q h)) else (ref27_Digit_b1 c_0 Q h)
set_option maxRecDepth 100000 in
theorem ref27_Digit_s (c_0 : Int) {Q : QT} {h : Heap} (hk : ref27_Digit_v c_0 Q h) : CallT Tryd.prog fn_ref27_Digit #[.int .u8 c_0] h Q :=
 callU follows Tryd.func29 (Tryd.call29 _) rfl rfl [(9, fun e h => dI .u8 (e 0) fun c_0 => ref27_Digit_b1 c_0 Q h)] []
 ⟨fun e h _ hk => by
 have F := Ag.nil (e := e)
 have ⟨c_0, F, hk⟩ := eI F hk
 exact cutU F (by as_aux_lemma => kernel_rfl) hk, trivial⟩
 trivial (by as_aux_lemma => kernel_rfl) hk
/-! ### internal/strconv.FormatInt -/
def internal_strconv_FormatInt_b1 (i_0 : Int) (a_5 : Addr) (u_6 : Int) (Q : QT) (h : Heap) : Prop :=
 CallT Tryd.prog fn_internal_strconv_numDigits #[.int .u64 u_6] h fun v h4 => ∃ t27 : Int, v = .int .i64 t27 ∧ sliceSl 1 (some a_5) 24 24 (some (1 : Int)) (some (wrap .i64 (1 + t27))) none fun t30a t30n t30c => CallT Tryd.prog fn_internal_strconv_formatBase10 #[.slice t30a t30n t30c, .int .u64 u_6] h4 fun v h5 => v = .tuple #[] ∧ if (decide (i_0 < 0)) = true then (idxA (0 : Int) 24 (st1 h5 (Addr.add a_5 (((0 : Int)).toNat * 1)) (.int .u8 45) fun h6 => sliceSl 1 (some a_5) 24 24 none (some (wrap .i64 (1 + t27))) none fun t38a t38n t38c => convV Tryd.prog T_sl_uint8 T_string (.slice t38a t38n t38c) h6 fun v h7 => ∃ t39 : ByteArray, v = .string t39 ∧ Q (.string t39) h7)) else (sliceSl 1 (some a_5) 24 24 (some (1 : Int)) (some (wrap .i64 (1 + t27))) none fun t42a t42n t42c => convV Tryd.prog T_sl_uint8 T_string (.slice t42a t42n t42c) h5 fun v h8 => ∃ t43 : ByteArray, v = .string t43 ∧ Q (.string t43) h8)
def internal_strconv_FormatInt_b2 (i_0 : Int) (t17 : Bool) (Q : QT) (h : Heap) : Prop :=
 if t17 = true then (CallT Tryd.prog fn_internal_strconv_small #[.int .i64 i_0] h fun v h2 => ∃ t19 : ByteArray, v = .string t19 ∧ Q (.string t19) h2) else (alV h (.cells #[.int .u8 0, .int .u8 0, .int .u8 0, .int .u8 0, .int .u8 0, .int .u8 0, .int .u8 0, .int .u8 0, .int .u8 0, .int .u8 0, .int .u8 0, .int .u8 0, .int .u8 0, .int .u8 0, .int .u8 0, .int .u8 0, .int .u8 0, .int .u8 0, .int .u8 0, .int .u8 0, .int .u8 0, .int .u8 0, .int .u8 0, .int .u8 0] T_24_uint8) fun t5 h3 => if (decide (i_0 < 0)) = true then (internal_strconv_FormatInt_b1 i_0 t5 (wrap .u64 (0 - (wrap .u64 i_0))) Q h3) else (internal_strconv_FormatInt_b1 i_0 t5 (wrap .u64 i_0) Q h3))
def internal_strconv_FormatInt_v (i_0 base_1 : Int) (Q : QT) (h : Heap) : Prop :=
 if (base_1 == 10) = true then (if (decide (0 ≤ i_0)) = true then (internal_strconv_FormatInt_b2 i_0 (decide (i_0 < 100)) Q h) else (internal_strconv_FormatInt_b2 i_0 false Q h)) else (CallT Tryd.prog fn_internal_strconv_formatBits #[.slice none 0 0, .int .u64 (wrap .u64 i_0), .int .i64 base_1, .bool (decide (i_0 < 0)), .bool false] h fun v h1 => ∃ t50_0a : Option Addr, ∃ t50_0n : Nat, ∃ t50_0c : Nat, ∃ t50_1 : ByteArray, v = .tuple #[.slice t50_0a t50_0n t50_0c, .string t50_1] ∧ Q (.string t50_1) h1)
set_option maxRecDepth 100000 in
theorem internal_strconv_FormatInt_s (i_0 base_1 : Int) {Q : QT} {h : Heap} (hk : internal_strconv_FormatInt_v i_0 base_1 Q h) : CallT Tryd.prog fn_internal_strconv_FormatInt #[.int .i64 i_0, .int .i64 base_1] h Q :=
 callU follows Tryd.func30 (Tryd.call30 _) rfl rfl [(8, fun e h => dI .i64 (e 0) fun i_0 => dB (e 17) fun t17 => internal_strconv_FormatInt_b2 i_0 t17 Q h), (18, fun e h => dI .i64 (e 0) fun i_0 => dA (e 5) fun a_5 => dI .u64 (e 6) fun u_6 => internal_strconv_FormatInt_b1 i_0 a_5 u_6 Q h)] []
 ⟨fun e h _ hk => by
 have F := Ag.nil (e := e)
 have ⟨i_0, F, hk⟩ := eI F hk
 have ⟨t17, F, hk⟩ := eB F hk
 exact cutU F (by as_aux_lemma => kernel_rfl) hk, fun e h _ hk => by
 have F := Ag.nil (e := e)
 have ⟨i_0, F, hk⟩ := eI F hk
 have ⟨a_5, F, hk⟩ := eA F hk
 have ⟨u_6, F, hk⟩ := eI F hk
 exact cutU F (by as_aux_lemma => kernel_rfl) hk, trivial⟩
 trivial (by as_aux_lemma => kernel_rfl) hk
/-! ### internal/strconv.formatBits -/
def internal_strconv_formatBits_b8 (dst_0a : Option Addr) (dst_0n dst_0c : Nat) (append_4 : Bool) (d_10a : Option Addr) (d_10n d_10c : Nat) (s_11 : ByteArray) (a_12 : Addr) (i_13 : Int) (Q : QT) (h : Heap) : Prop :=
 if append_4 = true then (sliceSl 1 (some a_12) 65 65 (some i_13) none none fun t97a t97n t97c => bltV Tryd.prog .append #[T_sl_uint8, T_sl_uint8] T_sl_uint8 #[false, false] #[.slice dst_0a dst_0n dst_0c, .slice t97a t97n t97c] h fun v h9 => ∃ t98a : Option Addr, ∃ t98n : Nat, ∃ t98c : Nat, v = .slice t98a t98n t98c ∧ Q (.tuple #[.slice t98a t98n t98c, .string s_11]) h9) else (sliceSl 1 (some a_12) 65 65 (some i_13) none none fun t100a t100n t100c => convV Tryd.prog T_sl_uint8 T_string (.slice t100a t100n t100c) h fun v h10 => ∃ t101 : ByteArray, v = .string t101 ∧ Q (.tuple #[.slice d_10a d_10n d_10c, .string t101]) h10)
def internal_strconv_formatBits_b7 (dst_0a : Option Addr) (dst_0n dst_0c : Nat) (neg_3 append_4 : Bool) (d_10a : Option Addr) (d_10n d_10c : Nat) (s_11 : ByteArray) (a_12 : Addr) (i_13 : Int) (Q : QT) (h : Heap) : Prop :=
 if neg_3 = true then (idxA (wrap .i64 (i_13 - 1)) 65 (st1 h (Addr.add a_12 (((wrap .i64 (i_13 - 1))).toNat * 1)) (.int .u8 45) fun h8 => internal_strconv_formatBits_b8 dst_0a dst_0n dst_0c append_4 d_10a d_10n d_10c s_11 a_12 (wrap .i64 (i_13 - 1)) Q h8)) else (internal_strconv_formatBits_b8 dst_0a dst_0n dst_0c append_4 d_10a d_10n d_10c s_11 a_12 i_13 Q h)
def internal_strconv_formatBits_b4 (dst_0a : Option Addr) (dst_0n dst_0c : Nat) (u_1 : Int) (neg_3 append_4 : Bool) (d_10a : Option Addr) (d_10n d_10c : Nat) (s_11 : ByteArray) (a_12 : Addr) (i_13 : Int) (Q : QT) (h : Heap) : Prop :=
 idxS (⟨#[48, 49, 50, 51, 52, 53, 54, 55, 56, 57, 97, 98, 99, 100, 101, 102, 103, 104, 105, 106, 107, 108, 109, 110, 111, 112, 113, 114, 115, 116, 117, 118, 119, 120, 121, 122]⟩ : ByteArray) u_1 fun t62 => idxA (wrap .i64 (i_13 - 1)) 65 (st1 h (Addr.add a_12 (((wrap .i64 (i_13 - 1))).toNat * 1)) (.int .u8 t62) fun h6 => internal_strconv_formatBits_b7 dst_0a dst_0n dst_0c neg_3 append_4 d_10a d_10n d_10c s_11 a_12 (wrap .i64 (i_13 - 1)) Q h6)
def internal_strconv_formatBits_l3 (dst_0a : Option Addr) (dst_0n dst_0c : Nat) (neg_3 append_4 : Bool) (d_10a : Option Addr) (d_10n d_10c : Nat) (s_11 : ByteArray) (a_12 : Addr) (shift_14 b_15 m_16 : Int) (Q : QT) (u_1 i_13 : Int) (h : Heap) (Kn3 : Int × Int → Heap → Prop) : Prop :=
 if (decide (u_1 ≥ b_15)) = true then (idxS (⟨#[48, 49, 50, 51, 52, 53, 54, 55, 56, 57, 97, 98, 99, 100, 101, 102, 103, 104, 105, 106, 107, 108, 109, 110, 111, 112, 113, 114, 115, 116, 117, 118, 119, 120, 121, 122]⟩ : ByteArray) (wrap .u64 (BitVec.toNat (BitVec.ofInt (IntKind.bits .u64) u_1 &&& BitVec.ofInt (IntKind.bits .u64) m_16) : Int)) fun t53 => idxA (wrap .i64 (i_13 - 1)) 65 (st1 h (Addr.add a_12 (((wrap .i64 (i_13 - 1))).toNat * 1)) (.int .u8 t53) fun h4 => 0 ≤ shift_14 ∧ Kn3 (Int.fdiv u_1 (2 ^ (min (Int.toNat shift_14) (IntKind.bits .u64))), wrap .i64 (i_13 - 1)) h4)) else (internal_strconv_formatBits_b4 dst_0a dst_0n dst_0c u_1 neg_3 append_4 d_10a d_10n d_10c s_11 a_12 i_13 Q h)
def internal_strconv_formatBits_b6 (dst_0a : Option Addr) (dst_0n dst_0c : Nat) (u_1 : Int) (neg_3 append_4 : Bool) (d_10a : Option Addr) (d_10n d_10c : Nat) (s_11 : ByteArray) (a_12 : Addr) (i_13 : Int) (Q : QT) (h : Heap) : Prop :=
 idxS (⟨#[48, 49, 50, 51, 52, 53, 54, 55, 56, 57, 97, 98, 99, 100, 101, 102, 103, 104, 105, 106, 107, 108, 109, 110, 111, 112, 113, 114, 115, 116, 117, 118, 119, 120, 121, 122]⟩ : ByteArray) u_1 fun t87 => idxA (wrap .i64 (i_13 - 1)) 65 (st1 h (Addr.add a_12 (((wrap .i64 (i_13 - 1))).toNat * 1)) (.int .u8 t87) fun h7 => internal_strconv_formatBits_b7 dst_0a dst_0n dst_0c neg_3 append_4 d_10a d_10n d_10c s_11 a_12 (wrap .i64 (i_13 - 1)) Q h7)
def internal_strconv_formatBits_l5 (dst_0a : Option Addr) (dst_0n dst_0c : Nat) (neg_3 append_4 : Bool) (d_10a : Option Addr) (d_10n d_10c : Nat) (s_11 : ByteArray) (a_12 : Addr) (b_17 : Int) (Q : QT) (u_1 i_13 : Int) (h : Heap) (Kn5 : Int × Int → Heap → Prop) : Prop :=
 if (decide (u_1 ≥ b_17)) = true then (b_17 ≠ 0 ∧ idxS (⟨#[48, 49, 50, 51, 52, 53, 54, 55, 56, 57, 97, 98, 99, 100, 101, 102, 103, 104, 105, 106, 107, 108, 109, 110, 111, 112, 113, 114, 115, 116, 117, 118, 119, 120, 121, 122]⟩ : ByteArray) (wrap .u64 (u_1 - (wrap .u64 ((wrap .u64 (Int.tdiv u_1 b_17)) * b_17)))) fun t80 => idxA (wrap .i64 (i_13 - 1)) 65 (st1 h (Addr.add a_12 (((wrap .i64 (i_13 - 1))).toNat * 1)) (.int .u8 t80) fun h5 => Kn5 (wrap .u64 (Int.tdiv u_1 b_17), wrap .i64 (i_13 - 1)) h5)) else (internal_strconv_formatBits_b6 dst_0a dst_0n dst_0c u_1 neg_3 append_4 d_10a d_10n d_10c s_11 a_12 i_13 Q h)
def internal_strconv_formatBits_b2 (dst_0a : Option Addr) (dst_0n dst_0c : Nat) (u_1 base_2 : Int) (neg_3 append_4 : Bool) (d_10a : Option Addr) (d_10n d_10c : Nat) (s_11 : ByteArray) (a_12 : Addr) (i_13 : Int) (Q : QT) (h : Heap) : Prop :=
 CallT Tryd.prog fn_internal_strconv_isPowerOfTwo #[.int .i64 base_2] h fun v h2 => ∃ t34 : Bool, v = .bool t34 ∧ if t34 = true then (CallT Tryd.prog fn_math_bits_TrailingZeros #[.int .u64 (wrap .u64 base_2)] h2 fun v h3 => ∃ t37 : Int, v = .int .i64 t37 ∧ LoopV (fun (s : Int × Int) h Kn => internal_strconv_formatBits_l3 dst_0a dst_0n dst_0c neg_3 append_4 d_10a d_10n d_10c s_11 a_12 (wrap .u64 t37) (wrap .u64 base_2) (wrap .u64 ((wrap .u64 base_2) - 1)) Q s.1 s.2 h Kn) (u_1, i_13) h3) else (LoopV (fun (s : Int × Int) h Kn => internal_strconv_formatBits_l5 dst_0a dst_0n dst_0c neg_3 append_4 d_10a d_10n d_10c s_11 a_12 (wrap .u64 base_2) Q s.1 s.2 h Kn) (u_1, i_13) h2)
def internal_strconv_formatBits_b1 (dst_0a : Option Addr) (dst_0n dst_0c : Nat) (u_1 base_2 : Int) (neg_3 append_4 : Bool) (d_10a : Option Addr) (d_10n d_10c : Nat) (s_11 : ByteArray) (Q : QT) (h : Heap) : Prop :=
 alV h (.cells #[.int .u8 0, .int .u8 0, .int .u8 0, .int .u8 0, .int .u8 0, .int .u8 0, .int .u8 0, .int .u8 0, .int .u8 0, .int .u8 0, .int .u8 0, .int .u8 0, .int .u8 0, .int .u8 0, .int .u8 0, .int .u8 0, .int .u8 0, .int .u8 0, .int .u8 0, .int .u8 0, .int .u8 0, .int .u8 0, .int .u8 0, .int .u8 0, .int .u8 0, .int .u8 0, .int .u8 0, .int .u8 0, .int .u8 0, .int .u8 0, .int .u8 0, .int .u8 0, .int .u8 0, .int .u8 0, .int .u8 0, .int .u8 0, .int .u8 0, .int .u8 0, .int .u8 0, .int .u8 0, .int .u8 0, .int .u8 0, .int .u8 0, .int .u8 0, .int .u8 0, .int .u8 0, .int .u8 0, .int .u8 0, .int .u8 0, .int .u8 0, .int .u8 0, .int .u8 0, .int .u8 0, .int .u8 0, .int .u8 0, .int .u8 0, .int .u8 0, .int .u8 0, .int .u8 0, .int .u8 0, .int .u8 0, .int .u8 0, .int .u8 0, .int .u8 0, .int .u8 0] T_65_uint8) fun t12 h1 => if neg_3 = true then (internal_strconv_formatBits_b2 dst_0a dst_0n dst_0c (wrap .u64 (0 - u_1)) base_2 neg_3 append_4 d_10a d_10n d_10c s_11 t12 65 Q h1) else (internal_strconv_formatBits_b2 dst_0a dst_0n dst_0c u_1 base_2 neg_3 append_4 d_10a d_10n d_10c s_11 t12 65 Q h1)
def internal_strconv_formatBits_v (dst_0a : Option Addr) (dst_0n dst_0c : Nat) (u_1 base_2 : Int) (neg_3 append_4 : Bool) (Q : QT) (h : Heap) : Prop :=
 if (decide (base_2 < 2)) = true then (False) else (if (base_2 == 10) = true then (False) else (if (decide (base_2 > 36)) = true then (False) else (internal_strconv_formatBits_b1 dst_0a dst_0n dst_0c u_1 base_2 neg_3 append_4 none 0 0 (⟨#[]⟩ : ByteArray) Q h)))
set_option maxRecDepth 100000 in
theorem internal_strconv_formatBits_s (dst_0a : Option Addr) (dst_0n dst_0c : Nat) (u_1 base_2 : Int) (neg_3 append_4 : Bool) {Q : QT} {h : Heap} (hk : internal_strconv_formatBits_v dst_0a dst_0n dst_0c u_1 base_2 neg_3 append_4 Q h) : CallT Tryd.prog fn_internal_strconv_formatBits #[.slice dst_0a dst_0n dst_0c, .int .u64 u_1, .int .i64 base_2, .bool neg_3, .bool append_4] h Q :=
 callU follows Tryd.func34 (Tryd.call34 _) rfl rfl [(8, fun e h => dL (e 0) fun dst_0a dst_0n dst_0c => dI .u64 (e 1) fun u_1 => dI .i64 (e 2) fun base_2 => dB (e 3) fun neg_3 => dB (e 4) fun append_4 => dL (e 10) fun d_10a d_10n d_10c => dS (e 11) fun s_11 => internal_strconv_formatBits_b1 dst_0a dst_0n dst_0c u_1 base_2 neg_3 append_4 d_10a d_10n d_10c s_11 Q h), (16, fun e h => dL (e 0) fun dst_0a dst_0n dst_0c => dI .u64 (e 1) fun u_1 => dI .i64 (e 2) fun base_2 => dB (e 3) fun neg_3 => dB (e 4) fun append_4 => dL (e 10) fun d_10a d_10n d_10c => dS (e 11) fun s_11 => dA (e 12) fun a_12 => dI .i64 (e 13) fun i_13 => internal_strconv_formatBits_b2 dst_0a dst_0n dst_0c u_1 base_2 neg_3 append_4 d_10a d_10n d_10c s_11 a_12 i_13 Q h), (32, fun e h => dL (e 0) fun dst_0a dst_0n dst_0c => dI .u64 (e 1) fun u_1 => dB (e 3) fun neg_3 => dB (e 4) fun append_4 => dL (e 10) fun d_10a d_10n d_10c => dS (e 11) fun s_11 => dA (e 12) fun a_12 => dI .i64 (e 13) fun i_13 => internal_strconv_formatBits_b4 dst_0a dst_0n dst_0c u_1 neg_3 append_4 d_10a d_10n d_10c s_11 a_12 i_13 Q h), (48, fun e h => dL (e 0) fun dst_0a dst_0n dst_0c => dI .u64 (e 1) fun u_1 => dB (e 3) fun neg_3 => dB (e 4) fun append_4 => dL (e 10) fun d_10a d_10n d_10c => dS (e 11) fun s_11 => dA (e 12) fun a_12 => dI .i64 (e 13) fun i_13 => internal_strconv_formatBits_b6 dst_0a dst_0n dst_0c u_1 neg_3 append_4 d_10a d_10n d_10c s_11 a_12 i_13 Q h), (52, fun e h => dL (e 0) fun dst_0a dst_0n dst_0c => dB (e 3) fun neg_3 => dB (e 4) fun append_4 => dL (e 10) fun d_10a d_10n d_10c => dS (e 11) fun s_11 => dA (e 12) fun a_12 => dI .i64 (e 13) fun i_13 => internal_strconv_formatBits_b7 dst_0a dst_0n dst_0c neg_3 append_4 d_10a d_10n d_10c s_11 a_12 i_13 Q h), (58, fun e h => dL (e 0) fun dst_0a dst_0n dst_0c => dB (e 4) fun append_4 => dL (e 10) fun d_10a d_10n d_10c => dS (e 11) fun s_11 => dA (e 12) fun a_12 => dI .i64 (e 13) fun i_13 => internal_strconv_formatBits_b8 dst_0a dst_0n dst_0c append_4 d_10a d_10n d_10c s_11 a_12 i_13 Q h)] [(24, fun e h => dL (e 0) fun dst_0a dst_0n dst_0c => dB (e 3) fun neg_3 => dB (e 4) fun append_4 => dL (e 10) fun d_10a d_10n d_10c => dS (e 11) fun s_11 => dA (e 12) fun a_12 => dI .u64 (e 14) fun shift_14 => dI .u64 (e 15) fun b_15 => dI .u64 (e 16) fun m_16 => dI .u64 (e 1) fun u_1 => dI .i64 (e 13) fun i_13 => LoopV (fun (s : Int × Int) h Kn => internal_strconv_formatBits_l3 dst_0a dst_0n dst_0c neg_3 append_4 d_10a d_10n d_10c s_11 a_12 shift_14 b_15 m_16 Q s.1 s.2 h Kn) (u_1, i_13) h), (38, fun e h => dL (e 0) fun dst_0a dst_0n dst_0c => dB (e 3) fun neg_3 => dB (e 4) fun append_4 => dL (e 10) fun d_10a d_10n d_10c => dS (e 11) fun s_11 => dA (e 12) fun a_12 => dI .u64 (e 17) fun b_17 => dI .u64 (e 1) fun u_1 => dI .i64 (e 13) fun i_13 => LoopV (fun (s : Int × Int) h Kn => internal_strconv_formatBits_l5 dst_0a dst_0n dst_0c neg_3 append_4 d_10a d_10n d_10c s_11 a_12 b_17 Q s.1 s.2 h Kn) (u_1, i_13) h)]
 ⟨fun e h _ hk => by
 have F := Ag.nil (e := e)
 have ⟨dst_0a, dst_0n, dst_0c, F, hk⟩ := eL F hk
 have ⟨u_1, F, hk⟩ := eI F hk
 have ⟨base_2, F, hk⟩ := eI F hk
 have ⟨neg_3, F, hk⟩ := eB F hk
 have ⟨append_4, F, hk⟩ := eB F hk
 have ⟨d_10a, d_10n, d_10c, F, hk⟩ := eL F hk
 have ⟨s_11, F, hk⟩ := eS F hk
 exact cutU F (by as_aux_lemma => kernel_rfl) hk, fun e h _ hk => by
 have F := Ag.nil (e := e)
 have ⟨dst_0a, dst_0n, dst_0c, F, hk⟩ := eL F hk
 have ⟨u_1, F, hk⟩ := eI F hk
 have ⟨base_2, F, hk⟩ := eI F hk
 have ⟨neg_3, F, hk⟩ := eB F hk
 have ⟨append_4, F, hk⟩ := eB F hk
 have ⟨d_10a, d_10n, d_10c, F, hk⟩ := eL F hk
 have ⟨s_11, F, hk⟩ := eS F hk
 have ⟨a_12, F, hk⟩ := eA F hk
 have ⟨i_13, F, hk⟩ := eI F hk
 exact cutU F (by as_aux_lemma => kernel_rfl) hk, fun e h _ hk => by
 have F := Ag.nil (e := e)
 have ⟨dst_0a, dst_0n, dst_0c, F, hk⟩ := eL F hk
 have ⟨u_1, F, hk⟩ := eI F hk
 have ⟨neg_3, F, hk⟩ := eB F hk
 have ⟨append_4, F, hk⟩ := eB F hk
 have ⟨d_10a, d_10n, d_10c, F, hk⟩ := eL F hk
 have ⟨s_11, F, hk⟩ := eS F hk
 have ⟨a_12, F, hk⟩ := eA F hk
 have ⟨i_13, F, hk⟩ := eI F hk
 exact cutU F (by as_aux_lemma => kernel_rfl) hk, fun e h _ hk => by
 have F := Ag.nil (e := e)
 have ⟨dst_0a, dst_0n, dst_0c, F, hk⟩ := eL F hk
 have ⟨u_1, F, hk⟩ := eI F hk
 have ⟨neg_3, F, hk⟩ := eB F hk
 have ⟨append_4, F, hk⟩ := eB F hk
 have ⟨d_10a, d_10n, d_10c, F, hk⟩ := eL F hk
 have ⟨s_11, F, hk⟩ := eS F hk
 have ⟨a_12, F, hk⟩ := eA F hk
 have ⟨i_13, F, hk⟩ := eI F hk
 exact cutU F (by as_aux_lemma => kernel_rfl) hk, fun e h _ hk => by
 have F := Ag.nil (e := e)
 have ⟨dst_0a, dst_0n, dst_0c, F, hk⟩ := eL F hk
 have ⟨neg_3, F, hk⟩ := eB F hk
 have ⟨append_4, F, hk⟩ := eB F hk
 have ⟨d_10a, d_10n, d_10c, F, hk⟩ := eL F hk
 have ⟨s_11, F, hk⟩ := eS F hk
 have ⟨a_12, F, hk⟩ := eA F hk
 have ⟨i_13, F, hk⟩ := eI F hk
 exact cutU F (by as_aux_lemma => kernel_rfl) hk, fun e h _ hk => by
 have F := Ag.nil (e := e)
 have ⟨dst_0a, dst_0n, dst_0c, F, hk⟩ := eL F hk
 have ⟨append_4, F, hk⟩ := eB F hk
 have ⟨d_10a, d_10n, d_10c, F, hk⟩ := eL F hk
 have ⟨s_11, F, hk⟩ := eS F hk
 have ⟨a_12, F, hk⟩ := eA F hk
 have ⟨i_13, F, hk⟩ := eI F hk
 exact cutU F (by as_aux_lemma => kernel_rfl) hk, trivial⟩
 ⟨⟨by kernel_rfl, fun e h he hk => by
 have F := Ag.nil (e := e)
 have ⟨dst_0a, dst_0n, dst_0c, F, hk⟩ := eL F hk
 have ⟨neg_3, F, hk⟩ := eB F hk
 have ⟨append_4, F, hk⟩ := eB F hk
 have ⟨d_10a, d_10n, d_10c, F, hk⟩ := eL F hk
 have ⟨s_11, F, hk⟩ := eS F hk
 have ⟨a_12, F, hk⟩ := eA F hk
 have ⟨shift_14, F, hk⟩ := eI F hk
 have ⟨b_15, F, hk⟩ := eI F hk
 have ⟨m_16, F, hk⟩ := eI F hk
 have ⟨u_1, F, hk⟩ := eI F hk
 have ⟨i_13, F, hk⟩ := eI F hk
 exact loopU (s0 := (u_1, i_13)) follows (fun _ h => by cases h) he F (fun s => [(13, .int .i64 s.2), (1, .int .u64 s.1)]) (by kernel_rfl) (F.take 2) hk (fun Kn3 e h => dI .u64 (e 1) fun u_1 => dI .i64 (e 13) fun i_13 => Kn3 (u_1, i_13) h) (fun Kn3 e h hk => by
  have F := Ag.nil (e := e)
  have ⟨u_1, F, hk⟩ := eI F hk
  have ⟨i_13, F, hk⟩ := eI F hk
  exact ⟨(u_1, i_13), F, hk⟩)
  (fun Kn3 => []) (fun Kn3 => [])
  (fun Kn3 => trivial)
  (fun Kn3 => trivial) (fun e s h Kn3 => by as_aux_lemma => kernel_rfl)⟩, ⟨by kernel_rfl, fun e h he hk => by
 have F := Ag.nil (e := e)
 have ⟨dst_0a, dst_0n, dst_0c, F, hk⟩ := eL F hk
 have ⟨neg_3, F, hk⟩ := eB F hk
 have ⟨append_4, F, hk⟩ := eB F hk
 have ⟨d_10a, d_10n, d_10c, F, hk⟩ := eL F hk
 have ⟨s_11, F, hk⟩ := eS F hk
 have ⟨a_12, F, hk⟩ := eA F hk
 have ⟨b_17, F, hk⟩ := eI F hk
 have ⟨u_1, F, hk⟩ := eI F hk
 have ⟨i_13, F, hk⟩ := eI F hk
 exact loopU (s0 := (u_1, i_13)) follows (fun _ h => by cases h) he F (fun s => [(13, .int .i64 s.2), (1, .int .u64 s.1)]) (by kernel_rfl) (F.take 2) hk (fun Kn5 e h => dI .u64 (e 1) fun u_1 => dI .i64 (e 13) fun i_13 => Kn5 (u_1, i_13) h) (fun Kn5 e h hk => by
  have F := Ag.nil (e := e)
  have ⟨u_1, F, hk⟩ := eI F hk
  have ⟨i_13, F, hk⟩ := eI F hk
  exact ⟨(u_1, i_13), F, hk⟩)
  (fun Kn5 => []) (fun Kn5 => [])
  (fun Kn5 => trivial)
  (fun Kn5 => trivial) (fun e s h Kn5 => by as_aux_lemma => kernel_rfl)⟩, trivial⟩ (by as_aux_lemma => kernel_rfl) hk
/-! ### internal/strconv.isPowerOfTwo -/
def internal_strconv_isPowerOfTwo_v (x_0 : Int) (Q : QT) (h : Heap) : Prop :=
 Q (.bool ((wrap .i64 (BitVec.toNat (BitVec.ofInt (IntKind.bits .i64) x_0 &&& BitVec.ofInt (IntKind.bits .i64) (wrap .i64 (x_0 - 1))) : Int)) == 0)) h
set_option maxRecDepth 100000 in
theorem internal_strconv_isPowerOfTwo_s (x_0 : Int) {Q : QT} {h : Heap} (hk : internal_strconv_isPowerOfTwo_v x_0 Q h) : CallT Tryd.prog fn_internal_strconv_isPowerOfTwo #[.int .i64 x_0] h Q :=
 callU follows Tryd.func38 (Tryd.call38 _) rfl rfl [] []
 trivial
 trivial (by as_aux_lemma => kernel_rfl) hk
/-! ### math/bits.TrailingZeros -/
def math_bits_TrailingZeros_v (x_0 : Int) (Q : QT) (h : Heap) : Prop :=
 CallT Tryd.prog fn_math_bits_TrailingZeros64 #[.int .u64 x_0] h fun v h1 => ∃ t7 : Int, v = .int .i64 t7 ∧ Q (.int .i64 t7) h1
set_option maxRecDepth 100000 in
theorem math_bits_TrailingZeros_s (x_0 : Int) {Q : QT} {h : Heap} (hk : math_bits_TrailingZeros_v x_0 Q h) : CallT Tryd.prog fn_math_bits_TrailingZeros #[.int .u64 x_0] h Q :=
 callU follows Tryd.func39 (Tryd.call39 _) rfl rfl [] []
 trivial
 trivial (by as_aux_lemma => kernel_rfl) hk
/-! ### math/bits.TrailingZeros64 -/
def math_bits_TrailingZeros64_v (x_0 : Int) (Q : QT) (h : Heap) : Prop :=
 if (x_0 == 0) = true then (Q (.int .i64 64) h) else (0 ≤ (58 : Int) ∧ idxA (Int.fdiv (wrap .u64 ((wrap .u64 (BitVec.toNat (BitVec.ofInt (IntKind.bits .u64) x_0 &&& BitVec.ofInt (IntKind.bits .u64) (wrap .u64 (0 - x_0))) : Int)) * 285870213051353865)) (2 ^ (min (Int.toNat 58) (IntKind.bits .u64)))) 64 (ldI h (Addr.add (⟨2, 0, none⟩ : Addr) (((Int.fdiv (wrap .u64 ((wrap .u64 (BitVec.toNat (BitVec.ofInt (IntKind.bits .u64) x_0 &&& BitVec.ofInt (IntKind.bits .u64) (wrap .u64 (0 - x_0))) : Int)) * 285870213051353865)) (2 ^ (min (Int.toNat 58) (IntKind.bits .u64))))).toNat * 1)) .u8 fun t12 => Q (.int .i64 (wrap .i64 t12)) h))
set_option maxRecDepth 100000 in
theorem math_bits_TrailingZeros64_s (x_0 : Int) {Q : QT} {h : Heap} (hk : math_bits_TrailingZeros64_v x_0 Q h) : CallT Tryd.prog fn_math_bits_TrailingZeros64 #[.int .u64 x_0] h Q :=
 callU follows Tryd.func41 (Tryd.call41 _) rfl rfl [] []
 trivial
 trivial (by as_aux_lemma => kernel_rfl) hk
end Go.Proofs.YtjhcockaojlfiaaDoor
