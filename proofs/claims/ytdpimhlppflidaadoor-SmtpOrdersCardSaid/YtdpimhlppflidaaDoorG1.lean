/-
  Printed by wip/tool/gen2.py: verification conditions, and the proof that each suffices.
-/
import Derived.Test.YtdpimhlppflidaaDoorProg
import Derived.Test.YtdpimhlppflidaaDoorVcTree
namespace Go.Proofs.YtdpimhlppflidaaDoor
set_option linter.unusedSimpArgs false
set_option linter.unusedVariables false
set_option maxRecDepth 20000
open Go IntKind
abbrev fn_main_main : FuncId := 0
abbrev fn_gosem_cut : FuncId := 1
abbrev fn_gosem_cut_init : FuncId := 2
abbrev fn_law30_SmtpFeeds : FuncId := 3
abbrev fn_law30_SmtpLists : FuncId := 4
abbrev fn_law30_SmtpPending : FuncId := 5
abbrev fn_law30_SmtpOrders : FuncId := 6
abbrev fn_law30_SmtpMails : FuncId := 7
abbrev fn_law30_SmtpCovered : FuncId := 8
abbrev fn_smtp_New : FuncId := 9
abbrev fn_ref30_New : FuncId := 10
abbrev fn_law30_long : FuncId := 11
abbrev fn_law30_lives : FuncId := 12
abbrev fn_ref30_Same : FuncId := 13
abbrev fn_smtp_Session_Feed : FuncId := 14
abbrev fn_ref30_Session_Feed : FuncId := 15
abbrev fn_smtp_Session_Opaque : FuncId := 16
abbrev fn_ref30_Session_Opaque : FuncId := 17
abbrev fn_smtp_Of : FuncId := 18
abbrev fn_ref30_Of : FuncId := 19
abbrev fn_smtp_Mail : FuncId := 20
abbrev fn_ref30_Mail : FuncId := 21
abbrev fn_lines_New : FuncId := 22
abbrev fn_ref25_New : FuncId := 23
abbrev fn_lines_Splitter_Feed : FuncId := 24
abbrev fn_smtp_Session_Feed_1 : FuncId := 25
abbrev fn_smtp_Session_readable : FuncId := 26
abbrev fn_smtp_Session_client : FuncId := 27
abbrev fn_smtp_Session_server : FuncId := 28
abbrev fn_ref25_Splitter_Feed : FuncId := 29
abbrev fn_ref30_Session_can : FuncId := 30
abbrev fn_ref30_Session_read : FuncId := 31
abbrev fn_ref30_Session_waiting : FuncId := 32
abbrev fn_ref30_Session_fail : FuncId := 33
abbrev fn_strings_HasPrefix : FuncId := 34
abbrev fn_strings_Builder_WriteString : FuncId := 35
abbrev fn_strings_Builder_String : FuncId := 36
abbrev fn_lines_bound : FuncId := 37
abbrev fn_lines_Splitter_Feed_1 : FuncId := 38
abbrev fn_strings_IndexByte : FuncId := 39
abbrev fn_lines_Splitter_append : FuncId := 40
abbrev fn_lines_Splitter_line : FuncId := 41
abbrev fn_lines_Splitter_length : FuncId := 42
abbrev fn_strings_TrimPrefix : FuncId := 43
abbrev fn_strings_Cut : FuncId := 44
abbrev fn_strings_ToUpper : FuncId := 45
abbrev fn_strings_Join : FuncId := 46
abbrev fn_smtp_Session_answer : FuncId := 47
abbrev fn_ref25_Splitter_line : FuncId := 48
abbrev fn_ref25_bare : FuncId := 49
abbrev fn_ref30_Session_answered : FuncId := 50
abbrev fn_ref30_Session_client : FuncId := 51
abbrev fn_ref30_Session_server : FuncId := 52
abbrev fn_internal_stringslite_HasPrefix : FuncId := 53
abbrev fn_strings_Builder_copyCheck : FuncId := 54
abbrev fn_internal_stringslite_IndexByte : FuncId := 55
abbrev fn_lines_Splitter_forget : FuncId := 56
abbrev fn_lines_Splitter_first : FuncId := 57
abbrev fn_internal_stringslite_TrimPrefix : FuncId := 58
abbrev fn_internal_stringslite_Cut : FuncId := 59
abbrev fn_strings_Builder_Grow : FuncId := 60
abbrev fn_strings_Builder_WriteByte : FuncId := 61
abbrev fn_strings_Map : FuncId := 62
abbrev fn_unicode_ToUpper : FuncId := 63
abbrev fn_ref30_Command : FuncId := 64
abbrev fn_ref30_Reply : FuncId := 65
abbrev fn_internal_abi_NoEscape : FuncId := 66
abbrev fn_internal_bytealg_IndexByteString : FuncId := 67
abbrev fn_internal_stringslite_Index : FuncId := 68
abbrev fn_strings_Builder_grow : FuncId := 69
abbrev fn_unicode_utf8_DecodeRuneInString : FuncId := 70
abbrev fn_unicode_utf8_RuneLen : FuncId := 71
abbrev fn_strings_Builder_WriteRune : FuncId := 72
abbrev fn_strings_Builder_Cap : FuncId := 73
abbrev fn_unicode_To : FuncId := 74
abbrev fn_ref30_digits : FuncId := 75
abbrev fn_internal_bytealg_IndexString : FuncId := 76
abbrev fn_internal_bytealg_Cutover : FuncId := 77
abbrev fn_internal_bytealg_IndexRabinKarp_string : FuncId := 78
abbrev fn_internal_bytealg_MakeNoZero : FuncId := 79
abbrev fn_unicode_utf8_decodeRuneInStringSlow : FuncId := 80
abbrev fn_unicode_utf8_AppendRune : FuncId := 81
abbrev fn_unicode_to : FuncId := 82
abbrev fn_internal_bytealg_hashStr_string : FuncId := 83
abbrev fn_unicode_utf8_appendRuneNonASCII : FuncId := 84
abbrev fn_unicode_lookupCaseRange : FuncId := 85
abbrev fn_unicode_convertCase : FuncId := 86
abbrev fn_runtime_boundsError_Error : FuncId := 87
abbrev fn_runtime_boundsError_RuntimeError : FuncId := 88
abbrev fn_runtime_errorString_Error : FuncId := 89
abbrev fn_runtime_errorString_RuntimeError : FuncId := 90
abbrev fn_runtime_plainError_Error : FuncId := 91
abbrev fn_runtime_plainError_RuntimeError : FuncId := 92
abbrev fn_runtime_errorAddressString_Error : FuncId := 93
abbrev fn_runtime_errorAddressString_RuntimeError : FuncId := 94
abbrev fn_runtime_TypeAssertionError_Error : FuncId := 95
abbrev fn_runtime_TypeAssertionError_RuntimeError : FuncId := 96
abbrev fn_runtime_PanicNilError_Error : FuncId := 97
abbrev fn_runtime_PanicNilError_RuntimeError : FuncId := 98
abbrev fn_internal_abi_Type_Align : FuncId := 99
abbrev fn_internal_runtime_maps_unhashableTypeError_Error : FuncId := 100
abbrev fn_internal_runtime_maps_unhashableTypeError_RuntimeError : FuncId := 101
abbrev fn_ref25_Splitter_Rest : FuncId := 102
abbrev fn_strings_Builder_Reset : FuncId := 103
abbrev fn_smtp_mail_open : FuncId := 104
abbrev fn_smtp_command_open : FuncId := 105
abbrev fn_internal_abi_Kind_String : FuncId := 106
abbrev fn_var_s_door_gosem_cut_vars_holds_initialisers_alone_see_the_manifest_s_row_cutvarsword_look_11_test_files_too : FuncId := 107
abbrev fn_var_s_door_the_look_of_gosem_cut_vars_went_over_the_folder_that_the_caller_named_as_the_repository_s_root_look_11 : FuncId := 108
abbrev fn_var_s_door_unicode_CaseRanges_is_laid_by_its_text_alone_pinned_1 : FuncId := 109
abbrev fn_var_s_door_unicode_utf8_acceptRanges_is_laid_by_its_own_initialiser_plain_data_look_11 : FuncId := 110
abbrev fn_var_s_door_unicode_utf8_first_is_laid_by_its_text_alone_pinned_1 : FuncId := 111
abbrev fn_gosem_cut_vars : FuncId := 112
abbrev T_t : TypeId := 0
abbrev T_func : TypeId := 1
abbrev T_int64 : TypeId := 2
abbrev T_int : TypeId := 3
abbrev T_bool : TypeId := 4
abbrev T_uint8 : TypeId := 5
abbrev T_abi_BoundsErrorCode : TypeId := 6
abbrev T_struct_x_int64_y_int_signed_bool_code_abi_BoundsErrorCode : TypeId := 7
abbrev T_runtime_boundsError : TypeId := 8
abbrev T_string : TypeId := 9
abbrev T_runtime_errorString : TypeId := 10
abbrev T_runtime_plainError : TypeId := 11
abbrev T_uintptr : TypeId := 12
abbrev T_struct_msg_string_addr_uintptr : TypeId := 13
abbrev T_runtime_errorAddressString : TypeId := 14
abbrev T_p_runtime_TypeAssertionError : TypeId := 15
abbrev T_p_runtime_PanicNilError : TypeId := 16
abbrev T_p_abi_Type : TypeId := 17
abbrev T_struct_typ_p_abi_Type : TypeId := 18
abbrev T_maps_unhashableTypeError : TypeId := 19
abbrev T_interface : TypeId := 20
abbrev T_int32 : TypeId := 21
abbrev T_sl_intrusionlaw30_Part : TypeId := 22
abbrev T_p_smtp_Session : TypeId := 23
abbrev T_func_p_smtp_Session : TypeId := 24
abbrev T_p_intrusionref30_Session : TypeId := 25
abbrev T_func_p_intrusionref30_Session : TypeId := 26
abbrev T_func_sl_intrusionlaw30_Part_int_bool : TypeId := 27
abbrev T_func_bool : TypeId := 28
abbrev T_func_sl_api_SmtpEvent_sl_api_SmtpEvent_bool : TypeId := 29
abbrev T_sl_api_SmtpEvent : TypeId := 30
abbrev T_func_int_string_sl_api_SmtpEvent : TypeId := 31
abbrev T_struct_Dir_int_S_string : TypeId := 32
abbrev T_intrusionlaw30_Part : TypeId := 33
abbrev T_func_sl_intrusionlaw30_Part_bool : TypeId := 34
abbrev T_sl_string : TypeId := 35
abbrev T_func_sl_api_SmtpEvent_int_sl_api_SmtpEvent : TypeId := 36
abbrev T_func_sl_string_string : TypeId := 37
abbrev T_func_sl_api_SmtpEvent_int_sl_string_bool : TypeId := 38
abbrev T_sl_uint8 : TypeId := 39
abbrev T_struct_Kind_int_Dir_int_Name_string_Text_string : TypeId := 40
abbrev T_api_SmtpEvent : TypeId := 41
abbrev T_func_int_int_bool : TypeId := 42
abbrev T_func_sl_string_bool : TypeId := 43
abbrev T_func_string_string_bool : TypeId := 44
abbrev T_p_smtp_side : TypeId := 45
abbrev T_3_p_smtp_side : TypeId := 46
abbrev T_sl_smtp_item : TypeId := 47
abbrev T_struct_sides_3_p_smtp_side_items_sl_smtp_item_greeted_bool : TypeId := 48
abbrev T_smtp_Session : TypeId := 49
abbrev T_sl_int : TypeId := 50
abbrev T_p_lines_Splitter : TypeId := 51
abbrev T_func_int_p_lines_Splitter : TypeId := 52
abbrev T_sl_api_Line : TypeId := 53
abbrev T_struct_split_p_lines_Splitter_queue_sl_api_Line_failed_boo : TypeId := 54
abbrev T_smtp_side : TypeId := 55
abbrev T_p_intrusionref25_Splitter : TypeId := 56
abbrev T_3_p_intrusionref25_Splitter : TypeId := 57
abbrev T_3_sl_api_Line : TypeId := 58
abbrev T_3_bool : TypeId := 59
abbrev T_struct_Split_3_p_intrusionref25_Splitter_Lines_3_sl_api_Li : TypeId := 60
abbrev T_intrusionref30_Session : TypeId := 61
abbrev T_func_int_p_intrusionref25_Splitter : TypeId := 62
abbrev T_func_string_sl_api_Line : TypeId := 63
abbrev T_func_int_int_string_string : TypeId := 64
abbrev T_func_int_bool : TypeId := 65
abbrev T_struct_Text_string_Long_bool : TypeId := 66
abbrev T_api_Line : TypeId := 67
abbrev T_func_string_smtp_adder_bool : TypeId := 68
abbrev T_func_int_sl_api_SmtpEvent : TypeId := 69
abbrev T_func_int_int : TypeId := 70
abbrev T_p_strings_Builder : TypeId := 71
abbrev T_struct_addr_p_strings_Builder_buf_sl_uint8 : TypeId := 72
abbrev T_strings_Builder : TypeId := 73
abbrev T_interface_Error_string : TypeId := 74
abbrev T_error : TypeId := 75
abbrev T_int_error : TypeId := 76
abbrev T_func_string_int_error : TypeId := 77
abbrev T_func_string : TypeId := 78
abbrev T_struct_max_int_buf_sl_uint8_n_int_ends_bool : TypeId := 79
abbrev T_lines_Splitter : TypeId := 80
abbrev T_struct_Max_int_Begun_string : TypeId := 81
abbrev T_intrusionref25_Splitter : TypeId := 82
abbrev T_func_string_uint8_int : TypeId := 83
abbrev T_func_string_2 : TypeId := 84
abbrev T_func_int_api_Line : TypeId := 85
abbrev T_func_int : TypeId := 86
abbrev T_interface_smtp_open_bool : TypeId := 87
abbrev T_smtp_item : TypeId := 88
abbrev T_smtp_adder : TypeId := 89
abbrev T_struct : TypeId := 90
abbrev T_smtp_mail : TypeId := 91
abbrev T_func_string_string_string : TypeId := 92
abbrev T_string_string_bool : TypeId := 93
abbrev T_func_string_string_string_string_bool : TypeId := 94
abbrev T_func_string_string : TypeId := 95
abbrev T_struct_verb_string : TypeId := 96
abbrev T_smtp_command : TypeId := 97
abbrev T_func_sl_string_string_string : TypeId := 98
abbrev T_func_smtp_item_string : TypeId := 99
abbrev T_func_string_api_Line : TypeId := 100
abbrev T_func_api_Line_sl_api_SmtpEvent : TypeId := 101
abbrev T_p_uint8 : TypeId := 102
abbrev T_func_int_int_string : TypeId := 103
abbrev T_func_int_2 : TypeId := 104
abbrev T_func_uint8_error : TypeId := 105
abbrev T_func_func_int32_int32_string_string : TypeId := 106
abbrev T_func_int32_int32 : TypeId := 107
abbrev T_func_string_string_string_bool : TypeId := 108
abbrev T_string_string_bool_bool : TypeId := 109
abbrev T_func_string_string_string_bool_bool : TypeId := 110
abbrev T_unsafe_Pointer : TypeId := 111
abbrev T_func_unsafe_Pointer_unsafe_Pointer : TypeId := 112
abbrev T_func_string_string_int : TypeId := 113
abbrev T_int32_int : TypeId := 114
abbrev T_func_string_int32_int : TypeId := 115
abbrev T_func_int32_int : TypeId := 116
abbrev T_func_int32_int_error : TypeId := 117
abbrev T_func_int_int32_int32 : TypeId := 118
abbrev T_func_string_bool : TypeId := 119
abbrev T_uint : TypeId := 120
abbrev T_func_int_sl_uint8 : TypeId := 121
abbrev T_func_sl_uint8_int32_sl_uint8 : TypeId := 122
abbrev T_int32_bool : TypeId := 123
abbrev T_func_int_int32_sl_unicode_CaseRange_int32_bool : TypeId := 124
abbrev T_sl_unicode_CaseRange : TypeId := 125
abbrev T_uint32 : TypeId := 126
abbrev T_uint32_uint32 : TypeId := 127
abbrev T_func_string_uint32_uint32 : TypeId := 128
abbrev T_256_uint8 : TypeId := 129
abbrev T_struct_lo_uint8_hi_uint8 : TypeId := 130
abbrev T_utf8_acceptRange : TypeId := 131
abbrev T_16_utf8_acceptRange : TypeId := 132
abbrev T_p_unicode_CaseRange : TypeId := 133
abbrev T_func_int32_sl_unicode_CaseRange_p_unicode_CaseRange : TypeId := 134
abbrev T_func_int_int32_p_unicode_CaseRange_int32 : TypeId := 135
abbrev T_3_int32 : TypeId := 136
abbrev T_unicode_d : TypeId := 137
abbrev T_struct_Lo_uint32_Hi_uint32_Delta_unicode_d : TypeId := 138
abbrev T_unicode_CaseRange : TypeId := 139
abbrev T_struct__interface_p_abi_Type_concrete_p_abi_Type_asserted_ : TypeId := 140
abbrev T_runtime_TypeAssertionError : TypeId := 141
abbrev T_0_p_runtime_PanicNilError : TypeId := 142
abbrev T_struct___0_p_runtime_PanicNilError : TypeId := 143
abbrev T_runtime_PanicNilError : TypeId := 144
abbrev T_abi_TFlag : TypeId := 145
abbrev T_abi_Kind : TypeId := 146
abbrev T_func_unsafe_Pointer_unsafe_Pointer_bool : TypeId := 147
abbrev T_abi_NameOff : TypeId := 148
abbrev T_abi_TypeOff : TypeId := 149
abbrev T_struct_Size__uintptr_PtrBytes_uintptr_Hash_uint32_TFlag_ab : TypeId := 150
abbrev T_abi_Type : TypeId := 151
theorem follows : Tryd.prog.follows .mixedOrders = true := by kernel_rfl
variable [Gh]
/-! ### intrusion/intrusionlaw30.SmtpFeeds -/
def law30_SmtpFeeds_b2 (Q : QT) (h : Heap) : Prop :=
 CallT Tryd.prog fn_law30_lives #[] h fun v h11 => ∃ t54 : Bool, v = .bool t54 ∧ Q (.bool t54) h11
def law30_SmtpFeeds_l1 (l_0a : Option Addr) (l_0n l_0c : Nat) (p_3 x_4 : Option Addr) (Q : QT) (i_5 : Int) (h : Heap) (Kn1 : Int → Heap → Prop) : Prop :=
 if (decide (i_5 < ((l_0n : Nat) : Int))) = true then (idxA i_5 l_0n (nn l_0a fun t24 => ldI h (Addr.add t24 ((i_5).toNat * 2)) .i64 fun t26 => idxA i_5 l_0n (nn l_0a fun t29 => ldS h (Addr.add (Addr.add t29 ((i_5).toNat * 2)) 1) fun t31 => idxA i_5 l_0n (nn l_0a fun t36 => ldI h (Addr.add t36 ((i_5).toNat * 2)) .i64 fun t38 => idxA i_5 l_0n (nn l_0a fun t41 => ldS h (Addr.add (Addr.add t41 ((i_5).toNat * 2)) 1) fun t43 => CallT Tryd.prog fn_smtp_Session_Feed #[.pointer p_3, .int .i64 t26, .string t31] h fun v h6 => ∃ t32a : Option Addr, ∃ t32n : Nat, ∃ t32c : Nat, v = .slice t32a t32n t32c ∧ (ldI h6 (Addr.add t36 ((i_5).toNat * 2)) .i64 fun t938 => (.int .i64 t938 : Value) = .int .i64 t38) ∧ (ldS h6 (Addr.add (Addr.add t41 ((i_5).toNat * 2)) 1) fun t943 => (.string t943 : Value) = .string t43) ∧ CallT Tryd.prog fn_ref30_Session_Feed #[.pointer x_4, .int .i64 t38, .string t43] h6 fun v h7 => ∃ t44a : Option Addr, ∃ t44n : Nat, ∃ t44c : Nat, v = .slice t44a t44n t44c ∧ CallT Tryd.prog fn_ref30_Same #[.slice t32a t32n t32c, .slice t44a t44n t44c] h7 fun v h8 => ∃ t45 : Bool, v = .bool t45 ∧ if (!t45) = true then (Q (.bool false) h8) else (CallT Tryd.prog fn_smtp_Session_Opaque #[.pointer p_3] h8 fun v h9 => ∃ t49 : Bool, v = .bool t49 ∧ CallT Tryd.prog fn_ref30_Session_Opaque #[.pointer x_4] h9 fun v h10 => ∃ t51 : Bool, v = .bool t51 ∧ if (!(t49 == t51)) = true then (Q (.bool false) h10) else (Kn1 (wrap .i64 (i_5 + 1)) h10))))))) else (law30_SmtpFeeds_b2 Q h)
def law30_SmtpFeeds_v (l_0a : Option Addr) (l_0n l_0c : Nat) (Q : QT) (h : Heap) : Prop :=
 CallT Tryd.prog fn_smtp_New #[] h fun v h1 => ∃ t6 : Option Addr, v = .pointer t6 ∧ CallT Tryd.prog fn_ref30_New #[] h1 fun v h2 => ∃ t7 : Option Addr, v = .pointer t7 ∧ CallT Tryd.prog fn_law30_long #[.slice l_0a l_0n l_0c, .int .i64 20000] h2 fun v h3 => ∃ t9 : Bool, v = .bool t9 ∧ if t9 = true then (CallT Tryd.prog fn_law30_lives #[] h3 fun v h4 => ∃ t14 : Bool, v = .bool t14 ∧ Q (.bool t14) h4) else (if (Option.isNone t6) = true then (CallT Tryd.prog fn_law30_lives #[] h3 fun v h5 => ∃ t14 : Bool, v = .bool t14 ∧ Q (.bool t14) h5) else (LoopV (fun (s : Int) h Kn => law30_SmtpFeeds_l1 l_0a l_0n l_0c t6 t7 Q s h Kn) 0 h3))
set_option maxRecDepth 100000 in
theorem law30_SmtpFeeds_s (l_0a : Option Addr) (l_0n l_0c : Nat) {Q : QT} {h : Heap} (hk : law30_SmtpFeeds_v l_0a l_0n l_0c Q h) : CallT Tryd.prog fn_law30_SmtpFeeds #[.slice l_0a l_0n l_0c] h Q :=
 callU follows Tryd.func3 (Tryd.call3 _) rfl rfl [(20, fun e h => law30_SmtpFeeds_b2 Q h)] [(12, fun e h => dL (e 0) fun l_0a l_0n l_0c => dP (e 3) fun p_3 => dP (e 4) fun x_4 => dI .i64 (e 5) fun i_5 => LoopV (fun (s : Int) h Kn => law30_SmtpFeeds_l1 l_0a l_0n l_0c p_3 x_4 Q s h Kn) i_5 h)]
 ⟨fun e h _ hk => by
 have F := Ag.nil (e := e)
 exact cutU F (by as_aux_lemma => kernel_rfl) hk, trivial⟩
 ⟨⟨by kernel_rfl, fun e h he hk => by
 have F := Ag.nil (e := e)
 have ⟨l_0a, l_0n, l_0c, F, hk⟩ := eL F hk
 have ⟨p_3, F, hk⟩ := eP F hk
 have ⟨x_4, F, hk⟩ := eP F hk
 have ⟨i_5, F, hk⟩ := eI F hk
 exact loopU (s0 := i_5) follows (fun _ h => by cases h) he F (fun s => [(5, .int .i64 s)]) (by kernel_rfl) (F.take 1) hk (fun Kn1 e h => dI .i64 (e 5) fun i_5 => Kn1 i_5 h) (fun Kn1 e h hk => by
  have F := Ag.nil (e := e)
  have ⟨i_5, F, hk⟩ := eI F hk
  exact ⟨i_5, F, hk⟩)
  (fun Kn1 => []) (fun Kn1 => [])
  (fun Kn1 => trivial)
  (fun Kn1 => trivial) (fun e s h Kn1 => by as_aux_lemma => kernel_rfl)⟩, trivial⟩ (by as_aux_lemma => kernel_rfl) hk
/-! ### intrusion/intrusionlaw30.SmtpLists -/
def law30_SmtpLists_b2 (l_0a : Option Addr) (l_0n l_0c : Nat) (dir_1 : Int) (m_2a : Option Addr) (m_2n m_2c : Nat) (Q : QT) (h : Heap) : Prop :=
 CallT Tryd.prog fn_smtp_Of #[.slice l_0a l_0n l_0c, .int .i64 dir_1] h fun v h4 => ∃ t32a : Option Addr, ∃ t32n : Nat, ∃ t32c : Nat, v = .slice t32a t32n t32c ∧ CallT Tryd.prog fn_ref30_Of #[.slice l_0a l_0n l_0c, .int .i64 dir_1] h4 fun v h5 => ∃ t35a : Option Addr, ∃ t35n : Nat, ∃ t35c : Nat, v = .slice t35a t35n t35c ∧ CallT Tryd.prog fn_ref30_Same #[.slice t32a t32n t32c, .slice t35a t35n t35c] h5 fun v h6 => ∃ t36 : Bool, v = .bool t36 ∧ if t36 = true then (CallT Tryd.prog fn_smtp_Mail #[.slice m_2a m_2n m_2c] h6 fun v h7 => ∃ t39 : ByteArray, v = .string t39 ∧ CallT Tryd.prog fn_ref30_Mail #[.slice m_2a m_2n m_2c] h7 fun v h8 => ∃ t41 : ByteArray, v = .string t41 ∧ if (t39.toList == t41.toList) = true then (CallT Tryd.prog fn_law30_lives #[] h8 fun v h9 => ∃ t45 : Bool, v = .bool t45 ∧ Q (.bool t45) h9) else (Q (.bool false) h8)) else (Q (.bool false) h6)
def law30_SmtpLists_l1 (l_0a : Option Addr) (l_0n l_0c : Nat) (dir_1 : Int) (m_2a : Option Addr) (m_2n m_2c : Nat) (Q : QT) (i_7 : Int) (h : Heap) (Kn1 : Int → Heap → Prop) : Prop :=
 if (decide (i_7 < ((m_2n : Nat) : Int))) = true then (idxA i_7 m_2n (nn m_2a fun t25 => ldS h (Addr.add t25 ((i_7).toNat * 1)) fun t26 => if (decide (((t26.size : Nat) : Int) > 600)) = true then (CallT Tryd.prog fn_law30_lives #[] h fun v h3 => ∃ t29 : Bool, v = .bool t29 ∧ Q (.bool t29) h3) else (Kn1 (wrap .i64 (i_7 + 1)) h))) else (law30_SmtpLists_b2 l_0a l_0n l_0c dir_1 m_2a m_2n m_2c Q h)
def law30_SmtpLists_v (l_0a : Option Addr) (l_0n l_0c : Nat) (dir_1 : Int) (m_2a : Option Addr) (m_2n m_2c : Nat) (Q : QT) (h : Heap) : Prop :=
 if (decide (((l_0n : Nat) : Int) > 60)) = true then (CallT Tryd.prog fn_law30_lives #[] h fun v h1 => ∃ t16 : Bool, v = .bool t16 ∧ Q (.bool t16) h1) else (if (decide (((m_2n : Nat) : Int) > 60)) = true then (CallT Tryd.prog fn_law30_lives #[] h fun v h2 => ∃ t16 : Bool, v = .bool t16 ∧ Q (.bool t16) h2) else (LoopV (fun (s : Int) h Kn => law30_SmtpLists_l1 l_0a l_0n l_0c dir_1 m_2a m_2n m_2c Q s h Kn) 0 h))
set_option maxRecDepth 100000 in
theorem law30_SmtpLists_s (l_0a : Option Addr) (l_0n l_0c : Nat) (dir_1 : Int) (m_2a : Option Addr) (m_2n m_2c : Nat) {Q : QT} {h : Heap} (hk : law30_SmtpLists_v l_0a l_0n l_0c dir_1 m_2a m_2n m_2c Q h) : CallT Tryd.prog fn_law30_SmtpLists #[.slice l_0a l_0n l_0c, .int .i64 dir_1, .slice m_2a m_2n m_2c] h Q :=
 callU follows Tryd.func4 (Tryd.call4 _) rfl rfl [(18, fun e h => dL (e 0) fun l_0a l_0n l_0c => dI .i64 (e 1) fun dir_1 => dL (e 2) fun m_2a m_2n m_2c => law30_SmtpLists_b2 l_0a l_0n l_0c dir_1 m_2a m_2n m_2c Q h)] [(10, fun e h => dL (e 0) fun l_0a l_0n l_0c => dI .i64 (e 1) fun dir_1 => dL (e 2) fun m_2a m_2n m_2c => dI .i64 (e 7) fun i_7 => LoopV (fun (s : Int) h Kn => law30_SmtpLists_l1 l_0a l_0n l_0c dir_1 m_2a m_2n m_2c Q s h Kn) i_7 h)]
 ⟨fun e h _ hk => by
 have F := Ag.nil (e := e)
 have ⟨l_0a, l_0n, l_0c, F, hk⟩ := eL F hk
 have ⟨dir_1, F, hk⟩ := eI F hk
 have ⟨m_2a, m_2n, m_2c, F, hk⟩ := eL F hk
 exact cutU F (by as_aux_lemma => kernel_rfl) hk, trivial⟩
 ⟨⟨by kernel_rfl, fun e h he hk => by
 have F := Ag.nil (e := e)
 have ⟨l_0a, l_0n, l_0c, F, hk⟩ := eL F hk
 have ⟨dir_1, F, hk⟩ := eI F hk
 have ⟨m_2a, m_2n, m_2c, F, hk⟩ := eL F hk
 have ⟨i_7, F, hk⟩ := eI F hk
 exact loopU (s0 := i_7) follows (fun _ h => by cases h) he F (fun s => [(7, .int .i64 s)]) (by kernel_rfl) (F.take 1) hk (fun Kn1 e h => dI .i64 (e 7) fun i_7 => Kn1 i_7 h) (fun Kn1 e h hk => by
  have F := Ag.nil (e := e)
  have ⟨i_7, F, hk⟩ := eI F hk
  exact ⟨i_7, F, hk⟩)
  (fun Kn1 => []) (fun Kn1 => [])
  (fun Kn1 => trivial)
  (fun Kn1 => trivial) (fun e s h Kn1 => by as_aux_lemma => kernel_rfl)⟩, trivial⟩ (by as_aux_lemma => kernel_rfl) hk
/-! ### intrusion/intrusionlaw30.SmtpPending -/
def law30_SmtpPending_b2 (n_0 at_1 : Int) (b_5a : Option Addr) (b_5n b_5c : Nat) (Q : QT) (h : Heap) : Prop :=
 convV Tryd.prog T_sl_uint8 T_string (.slice b_5a b_5n b_5c) h fun v h4 => ∃ t41 : ByteArray, v = .string t41 ∧ CallT Tryd.prog fn_smtp_New #[] h4 fun v h5 => ∃ t42 : Option Addr, v = .pointer t42 ∧ CallT Tryd.prog fn_smtp_Session_Feed #[.pointer t42, .int .i64 1, .string (⟨#[68, 65, 84, 65, 10]⟩ : ByteArray)] h5 fun v h6 => ∃ t44a : Option Addr, ∃ t44n : Nat, ∃ t44c : Nat, v = .slice t44a t44n t44c ∧ sliceStr t41 none (some at_1) fun t48 => CallT Tryd.prog fn_smtp_Session_Feed #[.pointer t42, .int .i64 1, .string t48] h6 fun v h7 => ∃ t49a : Option Addr, ∃ t49n : Nat, ∃ t49c : Nat, v = .slice t49a t49n t49c ∧ sliceStr t41 (some at_1) none fun t53 => CallT Tryd.prog fn_smtp_Session_Feed #[.pointer t42, .int .i64 1, .string t53] h7 fun v h8 => ∃ t54a : Option Addr, ∃ t54n : Nat, ∃ t54c : Nat, v = .slice t54a t54n t54c ∧ if (((t44n : Nat) : Int) != 1) = true then (Q (.bool false) h8) else (if (decide ((wrap .i64 (((t49n : Nat) : Int) + ((t54n : Nat) : Int))) > 1)) = true then (Q (.bool false) h8) else (if (((t49n : Nat) : Int) == 1) = true then (idxA (0 : Int) t49n (nn t49a fun t71 => ldI h8 (Addr.add t71 (((0 : Int)).toNat * 4)) .i64 fun t73 => if (t73 == 5) = true then (idxA (0 : Int) t49n (nn t49a fun t78 => ldI h8 (Addr.add (Addr.add t78 (((0 : Int)).toNat * 4)) 1) .i64 fun t80 => if (t80 == 1) = true then (if (true == (decide (n_0 > 8192))) = true then (Q (.bool ((((t49n : Nat) : Int) == 1) == (decide (at_1 > 8192)))) h8) else (Q (.bool false) h8)) else (if (((t54n : Nat) : Int) == 1) = true then (idxA (0 : Int) t54n (nn t54a fun t89 => ldI h8 (Addr.add t89 (((0 : Int)).toNat * 4)) .i64 fun t91 => if (t91 == 5) = true then (idxA (0 : Int) t54n (nn t54a fun t96 => ldI h8 (Addr.add (Addr.add t96 (((0 : Int)).toNat * 4)) 1) .i64 fun t98 => if ((t98 == 1) == (decide (n_0 > 8192))) = true then (Q (.bool ((((t49n : Nat) : Int) == 1) == (decide (at_1 > 8192)))) h8) else (Q (.bool false) h8))) else (if (false == (decide (n_0 > 8192))) = true then (Q (.bool ((((t49n : Nat) : Int) == 1) == (decide (at_1 > 8192)))) h8) else (Q (.bool false) h8)))) else (if (false == (decide (n_0 > 8192))) = true then (Q (.bool ((((t49n : Nat) : Int) == 1) == (decide (at_1 > 8192)))) h8) else (Q (.bool false) h8))))) else (if (((t54n : Nat) : Int) == 1) = true then (idxA (0 : Int) t54n (nn t54a fun t89 => ldI h8 (Addr.add t89 (((0 : Int)).toNat * 4)) .i64 fun t91 => if (t91 == 5) = true then (idxA (0 : Int) t54n (nn t54a fun t96 => ldI h8 (Addr.add (Addr.add t96 (((0 : Int)).toNat * 4)) 1) .i64 fun t98 => if ((t98 == 1) == (decide (n_0 > 8192))) = true then (Q (.bool ((((t49n : Nat) : Int) == 1) == (decide (at_1 > 8192)))) h8) else (Q (.bool false) h8))) else (if (false == (decide (n_0 > 8192))) = true then (Q (.bool ((((t49n : Nat) : Int) == 1) == (decide (at_1 > 8192)))) h8) else (Q (.bool false) h8)))) else (if (false == (decide (n_0 > 8192))) = true then (Q (.bool ((((t49n : Nat) : Int) == 1) == (decide (at_1 > 8192)))) h8) else (Q (.bool false) h8))))) else (if (((t54n : Nat) : Int) == 1) = true then (idxA (0 : Int) t54n (nn t54a fun t89 => ldI h8 (Addr.add t89 (((0 : Int)).toNat * 4)) .i64 fun t91 => if (t91 == 5) = true then (idxA (0 : Int) t54n (nn t54a fun t96 => ldI h8 (Addr.add (Addr.add t96 (((0 : Int)).toNat * 4)) 1) .i64 fun t98 => if ((t98 == 1) == (decide (n_0 > 8192))) = true then (Q (.bool ((((t49n : Nat) : Int) == 1) == (decide (at_1 > 8192)))) h8) else (Q (.bool false) h8))) else (if (false == (decide (n_0 > 8192))) = true then (Q (.bool ((((t49n : Nat) : Int) == 1) == (decide (at_1 > 8192)))) h8) else (Q (.bool false) h8)))) else (if (false == (decide (n_0 > 8192))) = true then (Q (.bool ((((t49n : Nat) : Int) == 1) == (decide (at_1 > 8192)))) h8) else (Q (.bool false) h8)))))
def law30_SmtpPending_l1 (n_0 at_1 : Int) (b_5a : Option Addr) (b_5n b_5c : Nat) (Q : QT) (i_6 : Int) (h : Heap) (Kn1 : Int → Heap → Prop) : Prop :=
 if (decide (i_6 < n_0)) = true then (idxA i_6 b_5n (nn b_5a fun t39 => st1 h (Addr.add t39 ((i_6).toNat * 1)) (.int .u8 10) fun h3 => Kn1 (wrap .i64 (i_6 + 1)) h3)) else (law30_SmtpPending_b2 n_0 at_1 b_5a b_5n b_5c Q h)
def law30_SmtpPending_v (n_0 at_1 : Int) (Q : QT) (h : Heap) : Prop :=
 CallT Tryd.prog fn_law30_lives #[] h fun v h1 => ∃ t13 : Bool, v = .bool t13 ∧ if (!t13) = true then (Q (.bool false) h1) else (if (decide (n_0 < 0)) = true then (Q (.bool true) h1) else (if (decide (n_0 > 9000)) = true then (Q (.bool true) h1) else (if (decide (at_1 < 0)) = true then (Q (.bool true) h1) else (if (decide (at_1 > n_0)) = true then (Q (.bool true) h1) else (mkSlV Tryd.prog T_sl_uint8 (.int .i64 n_0) (.int .i64 n_0) h1 fun v h2 => ∃ t31a : Option Addr, ∃ t31n : Nat, ∃ t31c : Nat, v = .slice t31a t31n t31c ∧ LoopV (fun (s : Int) h Kn => law30_SmtpPending_l1 n_0 at_1 t31a t31n t31c Q s h Kn) 0 h2)))))
set_option maxRecDepth 100000 in
theorem law30_SmtpPending_s (n_0 at_1 : Int) {Q : QT} {h : Heap} (hk : law30_SmtpPending_v n_0 at_1 Q h) : CallT Tryd.prog fn_law30_SmtpPending #[.int .i64 n_0, .int .i64 at_1] h Q :=
 callU follows Tryd.func5 (Tryd.call5 _) rfl rfl [(22, fun e h => dI .i64 (e 0) fun n_0 => dI .i64 (e 1) fun at_1 => dL (e 5) fun b_5a b_5n b_5c => law30_SmtpPending_b2 n_0 at_1 b_5a b_5n b_5c Q h)] [(16, fun e h => dI .i64 (e 0) fun n_0 => dI .i64 (e 1) fun at_1 => dL (e 5) fun b_5a b_5n b_5c => dI .i64 (e 6) fun i_6 => LoopV (fun (s : Int) h Kn => law30_SmtpPending_l1 n_0 at_1 b_5a b_5n b_5c Q s h Kn) i_6 h)]
 ⟨fun e h _ hk => by
 have F := Ag.nil (e := e)
 have ⟨n_0, F, hk⟩ := eI F hk
 have ⟨at_1, F, hk⟩ := eI F hk
 have ⟨b_5a, b_5n, b_5c, F, hk⟩ := eL F hk
 exact cutU F (by as_aux_lemma => kernel_rfl) hk, trivial⟩
 ⟨⟨by kernel_rfl, fun e h he hk => by
 have F := Ag.nil (e := e)
 have ⟨n_0, F, hk⟩ := eI F hk
 have ⟨at_1, F, hk⟩ := eI F hk
 have ⟨b_5a, b_5n, b_5c, F, hk⟩ := eL F hk
 have ⟨i_6, F, hk⟩ := eI F hk
 exact loopU (s0 := i_6) follows (fun _ h => by cases h) he F (fun s => [(6, .int .i64 s)]) (by kernel_rfl) (F.take 1) hk (fun Kn1 e h => dI .i64 (e 6) fun i_6 => Kn1 i_6 h) (fun Kn1 e h hk => by
  have F := Ag.nil (e := e)
  have ⟨i_6, F, hk⟩ := eI F hk
  exact ⟨i_6, F, hk⟩)
  (fun Kn1 => []) (fun Kn1 => [])
  (fun Kn1 => trivial)
  (fun Kn1 => trivial) (fun e s h Kn1 => by as_aux_lemma => kernel_rfl)⟩, trivial⟩ (by as_aux_lemma => kernel_rfl) hk
/-! ### intrusion/intrusionlaw30.SmtpOrders -/
def law30_SmtpOrders_b2 (l_0a : Option Addr) (l_0n l_0c : Nat) (p_3 q_4 o_5 a_6a : Option Addr) (a_6n a_6c : Nat) (client_7 server_8 : ByteArray) (i_9 : Int) (Q : QT) (Kn1 : (Option Addr) × Nat × Nat × ByteArray × ByteArray × Int → Heap → Prop) (h : Heap) : Prop :=
 idxA i_9 l_0n (nn l_0a fun t56 => ldI h (Addr.add t56 ((i_9).toNat * 2)) .i64 fun t58 => if (t58 == 2) = true then (idxA i_9 l_0n (nn l_0a fun t63 => ldS h (Addr.add (Addr.add t63 ((i_9).toNat * 2)) 1) fun t65 => ((server_8.size + t65.size : Nat) : Int) ≤ IntKind.max .i64 ∧ Kn1 (a_6a, a_6n, a_6c, client_7, server_8 ++ t65, wrap .i64 (i_9 + 1)) h)) else (Kn1 (a_6a, a_6n, a_6c, client_7, server_8, wrap .i64 (i_9 + 1)) h))
def law30_SmtpOrders_b5 (p_3 q_4 o_5 a_6a : Option Addr) (a_6n a_6c : Nat) (Q : QT) (h : Heap) : Prop :=
 CallT Tryd.prog fn_smtp_Of #[.slice a_6a a_6n a_6c, .int .i64 1] h fun v h19 => ∃ t105a : Option Addr, ∃ t105n : Nat, ∃ t105c : Nat, v = .slice t105a t105n t105c ∧ CallT Tryd.prog fn_smtp_Of #[.slice a_6a a_6n a_6c, .int .i64 2] h19 fun v h20 => ∃ t108a : Option Addr, ∃ t108n : Nat, ∃ t108c : Nat, v = .slice t108a t108n t108c ∧ if ((wrap .i64 (((t105n : Nat) : Int) + ((t108n : Nat) : Int))) == ((a_6n : Nat) : Int)) = true then (CallT Tryd.prog fn_smtp_Session_Opaque #[.pointer p_3] h20 fun v h21 => ∃ t116 : Bool, v = .bool t116 ∧ CallT Tryd.prog fn_smtp_Session_Opaque #[.pointer q_4] h21 fun v h22 => ∃ t118 : Bool, v = .bool t118 ∧ if (t116 == t118) = true then (CallT Tryd.prog fn_smtp_Session_Opaque #[.pointer p_3] h22 fun v h23 => ∃ t123 : Bool, v = .bool t123 ∧ CallT Tryd.prog fn_smtp_Session_Opaque #[.pointer o_5] h23 fun v h24 => ∃ t125 : Bool, v = .bool t125 ∧ Q (.bool (t123 == t125)) h24) else (Q (.bool false) h22)) else (Q (.bool false) h20)
def law30_SmtpOrders_l4 (p_3 q_4 o_5 a_6a : Option Addr) (a_6n a_6c : Nat) (b_10a : Option Addr) (b_10n b_10c : Nat) (c_11a : Option Addr) (c_11n c_11c : Nat) (Q : QT) (dir_12 : Int) (h : Heap) (Kn4 : Int → Heap → Prop) : Prop :=
 if (decide (dir_12 ≤ 2)) = true then (CallT Tryd.prog fn_smtp_Of #[.slice a_6a a_6n a_6c, .int .i64 dir_12] h fun v h14 => ∃ t89a : Option Addr, ∃ t89n : Nat, ∃ t89c : Nat, v = .slice t89a t89n t89c ∧ CallT Tryd.prog fn_smtp_Of #[.slice b_10a b_10n b_10c, .int .i64 dir_12] h14 fun v h15 => ∃ t93a : Option Addr, ∃ t93n : Nat, ∃ t93c : Nat, v = .slice t93a t93n t93c ∧ CallT Tryd.prog fn_ref30_Same #[.slice t89a t89n t89c, .slice t93a t93n t93c] h15 fun v h16 => ∃ t94 : Bool, v = .bool t94 ∧ if (!t94) = true then (Q (.bool false) h16) else (CallT Tryd.prog fn_smtp_Of #[.slice c_11a c_11n c_11c, .int .i64 dir_12] h16 fun v h17 => ∃ t100a : Option Addr, ∃ t100n : Nat, ∃ t100c : Nat, v = .slice t100a t100n t100c ∧ CallT Tryd.prog fn_ref30_Same #[.slice t89a t89n t89c, .slice t100a t100n t100c] h17 fun v h18 => ∃ t101 : Bool, v = .bool t101 ∧ if (!t101) = true then (Q (.bool false) h18) else (Kn4 (wrap .i64 (dir_12 + 1)) h18))) else (law30_SmtpOrders_b5 p_3 q_4 o_5 a_6a a_6n a_6c Q h)
def law30_SmtpOrders_b3 (p_3 q_4 o_5 a_6a : Option Addr) (a_6n a_6c : Nat) (client_7 server_8 : ByteArray) (Q : QT) (h : Heap) : Prop :=
 CallT Tryd.prog fn_smtp_Session_Feed #[.pointer q_4, .int .i64 1, .string client_7] h fun v h8 => ∃ t69a : Option Addr, ∃ t69n : Nat, ∃ t69c : Nat, v = .slice t69a t69n t69c ∧ CallT Tryd.prog fn_smtp_Session_Feed #[.pointer q_4, .int .i64 2, .string server_8] h8 fun v h9 => ∃ t73a : Option Addr, ∃ t73n : Nat, ∃ t73c : Nat, v = .slice t73a t73n t73c ∧ bltV Tryd.prog .append #[T_sl_api_SmtpEvent, T_sl_api_SmtpEvent] T_sl_api_SmtpEvent #[false, false] #[.slice t69a t69n t69c, .slice t73a t73n t73c] h9 fun v h10 => ∃ t74a : Option Addr, ∃ t74n : Nat, ∃ t74c : Nat, v = .slice t74a t74n t74c ∧ CallT Tryd.prog fn_smtp_Session_Feed #[.pointer o_5, .int .i64 2, .string server_8] h10 fun v h11 => ∃ t77a : Option Addr, ∃ t77n : Nat, ∃ t77c : Nat, v = .slice t77a t77n t77c ∧ CallT Tryd.prog fn_smtp_Session_Feed #[.pointer o_5, .int .i64 1, .string client_7] h11 fun v h12 => ∃ t81a : Option Addr, ∃ t81n : Nat, ∃ t81c : Nat, v = .slice t81a t81n t81c ∧ bltV Tryd.prog .append #[T_sl_api_SmtpEvent, T_sl_api_SmtpEvent] T_sl_api_SmtpEvent #[false, false] #[.slice t77a t77n t77c, .slice t81a t81n t81c] h12 fun v h13 => ∃ t82a : Option Addr, ∃ t82n : Nat, ∃ t82c : Nat, v = .slice t82a t82n t82c ∧ LoopV (fun (s : Int) h Kn => law30_SmtpOrders_l4 p_3 q_4 o_5 a_6a a_6n a_6c t74a t74n t74c t82a t82n t82c Q s h Kn) 1 h13
def law30_SmtpOrders_l1 (l_0a : Option Addr) (l_0n l_0c : Nat) (p_3 q_4 o_5 : Option Addr) (Q : QT) (a_6a : Option Addr) (a_6n a_6c : Nat) (client_7 server_8 : ByteArray) (i_9 : Int) (h : Heap) (Kn1 : (Option Addr) × Nat × Nat × ByteArray × ByteArray × Int → Heap → Prop) : Prop :=
 if (decide (i_9 < ((l_0n : Nat) : Int))) = true then (idxA i_9 l_0n (nn l_0a fun t31 => ldI h (Addr.add t31 ((i_9).toNat * 2)) .i64 fun t33 => idxA i_9 l_0n (nn l_0a fun t36 => ldS h (Addr.add (Addr.add t36 ((i_9).toNat * 2)) 1) fun t38 => CallT Tryd.prog fn_smtp_Session_Feed #[.pointer p_3, .int .i64 t33, .string t38] h fun v h6 => ∃ t39a : Option Addr, ∃ t39n : Nat, ∃ t39c : Nat, v = .slice t39a t39n t39c ∧ bltV Tryd.prog .append #[T_sl_api_SmtpEvent, T_sl_api_SmtpEvent] T_sl_api_SmtpEvent #[false, false] #[.slice a_6a a_6n a_6c, .slice t39a t39n t39c] h6 fun v h7 => ∃ t40a : Option Addr, ∃ t40n : Nat, ∃ t40c : Nat, v = .slice t40a t40n t40c ∧ idxA i_9 l_0n (nn l_0a fun t43 => ldI h7 (Addr.add t43 ((i_9).toNat * 2)) .i64 fun t45 => if (t45 == 1) = true then (idxA i_9 l_0n (nn l_0a fun t50 => ldS h7 (Addr.add (Addr.add t50 ((i_9).toNat * 2)) 1) fun t52 => ((client_7.size + t52.size : Nat) : Int) ≤ IntKind.max .i64 ∧ law30_SmtpOrders_b2 l_0a l_0n l_0c p_3 q_4 o_5 t40a t40n t40c (client_7 ++ t52) server_8 i_9 Q Kn1 h7)) else (law30_SmtpOrders_b2 l_0a l_0n l_0c p_3 q_4 o_5 t40a t40n t40c client_7 server_8 i_9 Q Kn1 h7))))) else (law30_SmtpOrders_b3 p_3 q_4 o_5 a_6a a_6n a_6c client_7 server_8 Q h)
def law30_SmtpOrders_v (l_0a : Option Addr) (l_0n l_0c : Nat) (Q : QT) (h : Heap) : Prop :=
 CallT Tryd.prog fn_law30_lives #[] h fun v h1 => ∃ t14 : Bool, v = .bool t14 ∧ if (!t14) = true then (Q (.bool false) h1) else (CallT Tryd.prog fn_law30_long #[.slice l_0a l_0n l_0c, .int .i64 4000] h1 fun v h2 => ∃ t17 : Bool, v = .bool t17 ∧ if t17 = true then (Q (.bool true) h2) else (CallT Tryd.prog fn_smtp_New #[] h2 fun v h3 => ∃ t18 : Option Addr, v = .pointer t18 ∧ CallT Tryd.prog fn_smtp_New #[] h3 fun v h4 => ∃ t19 : Option Addr, v = .pointer t19 ∧ CallT Tryd.prog fn_smtp_New #[] h4 fun v h5 => ∃ t20 : Option Addr, v = .pointer t20 ∧ LoopV (fun (s : (Option Addr) × Nat × Nat × ByteArray × ByteArray × Int) h Kn => law30_SmtpOrders_l1 l_0a l_0n l_0c t18 t19 t20 Q s.1 s.2.1 s.2.2.1 s.2.2.2.1 s.2.2.2.2.1 s.2.2.2.2.2 h Kn) (none, 0, 0, (⟨#[]⟩ : ByteArray), (⟨#[]⟩ : ByteArray), 0) h5))
set_option maxRecDepth 100000 in
theorem law30_SmtpOrders_s (l_0a : Option Addr) (l_0n l_0c : Nat) {Q : QT} {h : Heap} (hk : law30_SmtpOrders_v l_0a l_0n l_0c Q h) : CallT Tryd.prog fn_law30_SmtpOrders #[.slice l_0a l_0n l_0c] h Q :=
 callU follows Tryd.func6 (Tryd.call6 _) rfl rfl [(34, fun e h => dP (e 3) fun p_3 => dP (e 4) fun q_4 => dP (e 5) fun o_5 => dL (e 6) fun a_6a a_6n a_6c => dS (e 7) fun client_7 => dS (e 8) fun server_8 => law30_SmtpOrders_b3 p_3 q_4 o_5 a_6a a_6n a_6c client_7 server_8 Q h), (54, fun e h => dP (e 3) fun p_3 => dP (e 4) fun q_4 => dP (e 5) fun o_5 => dL (e 6) fun a_6a a_6n a_6c => law30_SmtpOrders_b5 p_3 q_4 o_5 a_6a a_6n a_6c Q h)] [(20, fun e h => dL (e 0) fun l_0a l_0n l_0c => dP (e 3) fun p_3 => dP (e 4) fun q_4 => dP (e 5) fun o_5 => dL (e 6) fun a_6a a_6n a_6c => dS (e 7) fun client_7 => dS (e 8) fun server_8 => dI .i64 (e 9) fun i_9 => LoopV (fun (s : (Option Addr) × Nat × Nat × ByteArray × ByteArray × Int) h Kn => law30_SmtpOrders_l1 l_0a l_0n l_0c p_3 q_4 o_5 Q s.1 s.2.1 s.2.2.1 s.2.2.2.1 s.2.2.2.2.1 s.2.2.2.2.2 h Kn) (a_6a, a_6n, a_6c, client_7, server_8, i_9) h), (44, fun e h => dP (e 3) fun p_3 => dP (e 4) fun q_4 => dP (e 5) fun o_5 => dL (e 6) fun a_6a a_6n a_6c => dL (e 10) fun b_10a b_10n b_10c => dL (e 11) fun c_11a c_11n c_11c => dI .i64 (e 12) fun dir_12 => LoopV (fun (s : Int) h Kn => law30_SmtpOrders_l4 p_3 q_4 o_5 a_6a a_6n a_6c b_10a b_10n b_10c c_11a c_11n c_11c Q s h Kn) dir_12 h)]
 ⟨fun e h _ hk => by
 have F := Ag.nil (e := e)
 have ⟨p_3, F, hk⟩ := eP F hk
 have ⟨q_4, F, hk⟩ := eP F hk
 have ⟨o_5, F, hk⟩ := eP F hk
 have ⟨a_6a, a_6n, a_6c, F, hk⟩ := eL F hk
 have ⟨client_7, F, hk⟩ := eS F hk
 have ⟨server_8, F, hk⟩ := eS F hk
 exact cutU F (by as_aux_lemma => kernel_rfl) hk, fun e h _ hk => by
 have F := Ag.nil (e := e)
 have ⟨p_3, F, hk⟩ := eP F hk
 have ⟨q_4, F, hk⟩ := eP F hk
 have ⟨o_5, F, hk⟩ := eP F hk
 have ⟨a_6a, a_6n, a_6c, F, hk⟩ := eL F hk
 exact cutU F (by as_aux_lemma => kernel_rfl) hk, trivial⟩
 ⟨⟨by kernel_rfl, fun e h he hk => by
 have F := Ag.nil (e := e)
 have ⟨l_0a, l_0n, l_0c, F, hk⟩ := eL F hk
 have ⟨p_3, F, hk⟩ := eP F hk
 have ⟨q_4, F, hk⟩ := eP F hk
 have ⟨o_5, F, hk⟩ := eP F hk
 have ⟨a_6a, a_6n, a_6c, F, hk⟩ := eL F hk
 have ⟨client_7, F, hk⟩ := eS F hk
 have ⟨server_8, F, hk⟩ := eS F hk
 have ⟨i_9, F, hk⟩ := eI F hk
 exact loopU (s0 := (a_6a, a_6n, a_6c, client_7, server_8, i_9)) follows (fun _ h => by cases h) he F (fun s => [(9, .int .i64 s.2.2.2.2.2), (8, .string s.2.2.2.2.1), (7, .string s.2.2.2.1), (6, .slice s.1 s.2.1 s.2.2.1)]) (by kernel_rfl) (F.take 4) hk (fun Kn1 e h => dL (e 6) fun a_6a a_6n a_6c => dS (e 7) fun client_7 => dS (e 8) fun server_8 => dI .i64 (e 9) fun i_9 => Kn1 (a_6a, a_6n, a_6c, client_7, server_8, i_9) h) (fun Kn1 e h hk => by
  have F := Ag.nil (e := e)
  have ⟨a_6a, a_6n, a_6c, F, hk⟩ := eL F hk
  have ⟨client_7, F, hk⟩ := eS F hk
  have ⟨server_8, F, hk⟩ := eS F hk
  have ⟨i_9, F, hk⟩ := eI F hk
  exact ⟨(a_6a, a_6n, a_6c, client_7, server_8, i_9), F, hk⟩)
  (fun Kn1 => [(30, fun e h => dL (e 0) fun l_0a l_0n l_0c => dP (e 3) fun p_3 => dP (e 4) fun q_4 => dP (e 5) fun o_5 => dL (e 6) fun a_6a a_6n a_6c => dS (e 7) fun client_7 => dS (e 8) fun server_8 => dI .i64 (e 9) fun i_9 => law30_SmtpOrders_b2 l_0a l_0n l_0c p_3 q_4 o_5 a_6a a_6n a_6c client_7 server_8 i_9 Q Kn1 h)]) (fun Kn1 => [])
  (fun Kn1 => ⟨fun e h _ hk => by
 have F := Ag.nil (e := e)
 have ⟨l_0a, l_0n, l_0c, F, hk⟩ := eL F hk
 have ⟨p_3, F, hk⟩ := eP F hk
 have ⟨q_4, F, hk⟩ := eP F hk
 have ⟨o_5, F, hk⟩ := eP F hk
 have ⟨a_6a, a_6n, a_6c, F, hk⟩ := eL F hk
 have ⟨client_7, F, hk⟩ := eS F hk
 have ⟨server_8, F, hk⟩ := eS F hk
 have ⟨i_9, F, hk⟩ := eI F hk
 exact cutU F (by as_aux_lemma => kernel_rfl) hk, trivial⟩)
  (fun Kn1 => trivial) (fun e s h Kn1 => by as_aux_lemma => kernel_rfl)⟩, ⟨by kernel_rfl, fun e h he hk => by
 have F := Ag.nil (e := e)
 have ⟨p_3, F, hk⟩ := eP F hk
 have ⟨q_4, F, hk⟩ := eP F hk
 have ⟨o_5, F, hk⟩ := eP F hk
 have ⟨a_6a, a_6n, a_6c, F, hk⟩ := eL F hk
 have ⟨b_10a, b_10n, b_10c, F, hk⟩ := eL F hk
 have ⟨c_11a, c_11n, c_11c, F, hk⟩ := eL F hk
 have ⟨dir_12, F, hk⟩ := eI F hk
 exact loopU (s0 := dir_12) follows (fun _ h => by cases h) he F (fun s => [(12, .int .i64 s)]) (by kernel_rfl) (F.take 1) hk (fun Kn4 e h => dI .i64 (e 12) fun dir_12 => Kn4 dir_12 h) (fun Kn4 e h hk => by
  have F := Ag.nil (e := e)
  have ⟨dir_12, F, hk⟩ := eI F hk
  exact ⟨dir_12, F, hk⟩)
  (fun Kn4 => []) (fun Kn4 => [])
  (fun Kn4 => trivial)
  (fun Kn4 => trivial) (fun e s h Kn4 => by as_aux_lemma => kernel_rfl)⟩, trivial⟩ (by as_aux_lemma => kernel_rfl) hk
/-! ### intrusion/intrusionlaw30.SmtpMails -/
def law30_SmtpMails_l2 (m_0a : Option Addr) (m_0n m_0c : Nat) (i_3 : Int) (Q : QT) (Kn1 : Int → Heap → Prop) (k_4 : Int) (h : Heap) (Kn2 : Int → Heap → Prop) : Prop :=
 idxA i_3 m_0n (nn m_0a fun t49 => ldS h (Addr.add t49 ((i_3).toNat * 1)) fun t50 => if (decide (k_4 < ((t50.size : Nat) : Int))) = true then (idxA i_3 m_0n (nn m_0a fun t57 => ldS h (Addr.add t57 ((i_3).toNat * 1)) fun t58 => idxS t58 k_4 fun t60 => if (t60 == 10) = true then (Q (.bool true) h) else (Kn2 (wrap .i64 (k_4 + 1)) h))) else (Kn1 (wrap .i64 (i_3 + 1)) h))
def law30_SmtpMails_l4 (m_0a : Option Addr) (m_0n m_0c : Nat) (x_6a : Option Addr) (x_6n x_6c : Nat) (Q : QT) (i_7 : Int) (h : Heap) (Kn4 : Int → Heap → Prop) : Prop :=
 if (decide (i_7 < ((m_0n : Nat) : Int))) = true then (idxA (wrap .i64 (i_7 + 1)) x_6n (nn x_6a fun t115 => ldI h (Addr.add t115 (((wrap .i64 (i_7 + 1))).toNat * 4)) .i64 fun t116_0 => ldI h (Addr.add (Addr.add t115 (((wrap .i64 (i_7 + 1))).toNat * 4)) 1) .i64 fun t116_1 => ldS h (Addr.add (Addr.add t115 (((wrap .i64 (i_7 + 1))).toNat * 4)) 2) fun t116_2 => ldS h (Addr.add (Addr.add t115 (((wrap .i64 (i_7 + 1))).toNat * 4)) 3) fun t116_3 => idxA i_7 m_0n (nn m_0a fun t119 => ldS h (Addr.add t119 ((i_7).toNat * 1)) fun t120 => if (!((t116_0 == (3 : Int)) && ((t116_1 == (1 : Int)) && ((t116_2 == (⟨#[]⟩ : ByteArray)) && ((t116_3 == t120) && true))))) = true then (Q (.bool false) h) else (Kn4 (wrap .i64 (i_7 + 1)) h)))) else (Q (.bool true) h)
def law30_SmtpMails_b3 (m_0a : Option Addr) (m_0n m_0c : Nat) (Q : QT) (h : Heap) : Prop :=
 CallT Tryd.prog fn_smtp_New #[] h fun v h2 => ∃ t62 : Option Addr, v = .pointer t62 ∧ CallT Tryd.prog fn_smtp_Session_Feed #[.pointer t62, .int .i64 2, .string (⟨#[50, 50, 48, 32, 104, 105, 13, 10, 51, 53, 52, 32, 103, 111, 13, 10]⟩ : ByteArray)] h2 fun v h3 => ∃ t64a : Option Addr, ∃ t64n : Nat, ∃ t64c : Nat, v = .slice t64a t64n t64c ∧ CallT Tryd.prog fn_smtp_Mail #[.slice m_0a m_0n m_0c] h3 fun v h4 => ∃ t67 : ByteArray, v = .string t67 ∧ (((⟨#[68, 65, 84, 65, 13, 10]⟩ : ByteArray).size + t67.size : Nat) : Int) ≤ IntKind.max .i64 ∧ ((((⟨#[68, 65, 84, 65, 13, 10]⟩ : ByteArray) ++ t67).size + (⟨#[81, 85, 73, 84, 13, 10]⟩ : ByteArray).size : Nat) : Int) ≤ IntKind.max .i64 ∧ CallT Tryd.prog fn_smtp_Session_Feed #[.pointer t62, .int .i64 1, .string (((⟨#[68, 65, 84, 65, 13, 10]⟩ : ByteArray) ++ t67) ++ (⟨#[81, 85, 73, 84, 13, 10]⟩ : ByteArray))] h4 fun v h5 => ∃ t70a : Option Addr, ∃ t70n : Nat, ∃ t70c : Nat, v = .slice t70a t70n t70c ∧ CallT Tryd.prog fn_smtp_Of #[.slice t70a t70n t70c, .int .i64 1] h5 fun v h6 => ∃ t72a : Option Addr, ∃ t72n : Nat, ∃ t72c : Nat, v = .slice t72a t72n t72c ∧ if (((t72n : Nat) : Int) != (wrap .i64 (((m_0n : Nat) : Int) + 3))) = true then (Q (.bool false) h6) else (idxA (0 : Int) t72n (nn t72a fun t81 => ldS h6 (Addr.add (Addr.add t81 (((0 : Int)).toNat * 4)) 2) fun t83 => if (!(t83.toList == (⟨#[68, 65, 84, 65]⟩ : ByteArray).toList)) = true then (Q (.bool false) h6) else (idxA (wrap .i64 (((m_0n : Nat) : Int) + 1)) t72n (nn t72a fun t91 => ldI h6 (Addr.add t91 (((wrap .i64 (((m_0n : Nat) : Int) + 1))).toNat * 4)) .i64 fun t92_0 => ldI h6 (Addr.add (Addr.add t91 (((wrap .i64 (((m_0n : Nat) : Int) + 1))).toNat * 4)) 1) .i64 fun t92_1 => ldS h6 (Addr.add (Addr.add t91 (((wrap .i64 (((m_0n : Nat) : Int) + 1))).toNat * 4)) 2) fun t92_2 => ldS h6 (Addr.add (Addr.add t91 (((wrap .i64 (((m_0n : Nat) : Int) + 1))).toNat * 4)) 3) fun t92_3 => if (!((t92_0 == (4 : Int)) && ((t92_1 == (1 : Int)) && ((t92_2 == (⟨#[]⟩ : ByteArray)) && ((t92_3 == (⟨#[]⟩ : ByteArray)) && true))))) = true then (Q (.bool false) h6) else (idxA (wrap .i64 (((m_0n : Nat) : Int) + 2)) t72n (nn t72a fun t101 => ldS h6 (Addr.add (Addr.add t101 (((wrap .i64 (((m_0n : Nat) : Int) + 2))).toNat * 4)) 2) fun t103 => if (!(t103.toList == (⟨#[81, 85, 73, 84]⟩ : ByteArray).toList)) = true then (Q (.bool false) h6) else (LoopV (fun (s : Int) h Kn => law30_SmtpMails_l4 m_0a m_0n m_0c t72a t72n t72c Q s h Kn) 0 h6)))))))
def law30_SmtpMails_l1 (m_0a : Option Addr) (m_0n m_0c : Nat) (Q : QT) (i_3 : Int) (h : Heap) (Kn1 : Int → Heap → Prop) : Prop :=
 if (decide (i_3 < ((m_0n : Nat) : Int))) = true then (idxA i_3 m_0n (nn m_0a fun t21 => ldS h (Addr.add t21 ((i_3).toNat * 1)) fun t22 => if (decide (((t22.size : Nat) : Int) > 500)) = true then (Q (.bool true) h) else (idxA i_3 m_0n (nn m_0a fun t28 => ldS h (Addr.add t28 ((i_3).toNat * 1)) fun t29 => if (!(t29.toList == (⟨#[]⟩ : ByteArray).toList)) = true then (idxA i_3 m_0n (nn m_0a fun t34 => ldS h (Addr.add t34 ((i_3).toNat * 1)) fun t35 => idxA i_3 m_0n (nn m_0a fun t38 => ldS h (Addr.add t38 ((i_3).toNat * 1)) fun t39 => idxS t35 (wrap .i64 (((t39.size : Nat) : Int) - 1)) fun t42 => if (t42 == 13) = true then (Q (.bool true) h) else (LoopV (fun (s : Int) h Kn => law30_SmtpMails_l2 m_0a m_0n m_0c i_3 Q Kn1 s h Kn) 0 h)))) else (LoopV (fun (s : Int) h Kn => law30_SmtpMails_l2 m_0a m_0n m_0c i_3 Q Kn1 s h Kn) 0 h))))) else (law30_SmtpMails_b3 m_0a m_0n m_0c Q h)
def law30_SmtpMails_v (m_0a : Option Addr) (m_0n m_0c : Nat) (Q : QT) (h : Heap) : Prop :=
 CallT Tryd.prog fn_law30_lives #[] h fun v h1 => ∃ t8 : Bool, v = .bool t8 ∧ if (!t8) = true then (Q (.bool false) h1) else (if (decide (((m_0n : Nat) : Int) > 20)) = true then (Q (.bool true) h1) else (LoopV (fun (s : Int) h Kn => law30_SmtpMails_l1 m_0a m_0n m_0c Q s h Kn) 0 h1))
set_option maxRecDepth 100000 in
theorem law30_SmtpMails_s (m_0a : Option Addr) (m_0n m_0c : Nat) {Q : QT} {h : Heap} (hk : law30_SmtpMails_v m_0a m_0n m_0c Q h) : CallT Tryd.prog fn_law30_SmtpMails #[.slice m_0a m_0n m_0c] h Q :=
 callU follows Tryd.func7 (Tryd.call7 _) rfl rfl [(32, fun e h => dL (e 0) fun m_0a m_0n m_0c => law30_SmtpMails_b3 m_0a m_0n m_0c Q h)] [(14, fun e h => dL (e 0) fun m_0a m_0n m_0c => dI .i64 (e 3) fun i_3 => LoopV (fun (s : Int) h Kn => law30_SmtpMails_l1 m_0a m_0n m_0c Q s h Kn) i_3 h), (46, fun e h => dL (e 0) fun m_0a m_0n m_0c => dL (e 6) fun x_6a x_6n x_6c => dI .i64 (e 7) fun i_7 => LoopV (fun (s : Int) h Kn => law30_SmtpMails_l4 m_0a m_0n m_0c x_6a x_6n x_6c Q s h Kn) i_7 h)]
 ⟨fun e h _ hk => by
 have F := Ag.nil (e := e)
 have ⟨m_0a, m_0n, m_0c, F, hk⟩ := eL F hk
 exact cutU F (by as_aux_lemma => kernel_rfl) hk, trivial⟩
 ⟨⟨by kernel_rfl, fun e h he hk => by
 have F := Ag.nil (e := e)
 have ⟨m_0a, m_0n, m_0c, F, hk⟩ := eL F hk
 have ⟨i_3, F, hk⟩ := eI F hk
 exact loopU (s0 := i_3) follows (fun _ h => by cases h) he F (fun s => [(3, .int .i64 s)]) (by kernel_rfl) (F.take 1) hk (fun Kn1 e h => dI .i64 (e 3) fun i_3 => Kn1 i_3 h) (fun Kn1 e h hk => by
  have F := Ag.nil (e := e)
  have ⟨i_3, F, hk⟩ := eI F hk
  exact ⟨i_3, F, hk⟩)
  (fun Kn1 => []) (fun Kn1 => [(24, fun e h => dL (e 0) fun m_0a m_0n m_0c => dI .i64 (e 3) fun i_3 => dI .i64 (e 4) fun k_4 => LoopV (fun (s : Int) h Kn => law30_SmtpMails_l2 m_0a m_0n m_0c i_3 Q Kn1 s h Kn) k_4 h)])
  (fun Kn1 => trivial)
  (fun Kn1 => ⟨⟨by kernel_rfl, fun e h he hk => by
 have F := Ag.nil (e := e)
 have ⟨m_0a, m_0n, m_0c, F, hk⟩ := eL F hk
 have ⟨i_3, F, hk⟩ := eI F hk
 have ⟨k_4, F, hk⟩ := eI F hk
 exact loopU (s0 := k_4) follows (keep_sub (by kernel_rfl)) he F (fun s => [(4, .int .i64 s)]) (by kernel_rfl) (F.take 1) hk (fun Kn2 e h => dI .i64 (e 4) fun k_4 => Kn2 k_4 h) (fun Kn2 e h hk => by
  have F := Ag.nil (e := e)
  have ⟨k_4, F, hk⟩ := eI F hk
  exact ⟨k_4, F, hk⟩)
  (fun Kn2 => []) (fun Kn2 => [])
  (fun Kn2 => trivial)
  (fun Kn2 => trivial) (fun e s h Kn2 => by as_aux_lemma => kernel_rfl)⟩, trivial⟩) (fun e s h Kn1 => by as_aux_lemma => kernel_rfl)⟩, ⟨by kernel_rfl, fun e h he hk => by
 have F := Ag.nil (e := e)
 have ⟨m_0a, m_0n, m_0c, F, hk⟩ := eL F hk
 have ⟨x_6a, x_6n, x_6c, F, hk⟩ := eL F hk
 have ⟨i_7, F, hk⟩ := eI F hk
 exact loopU (s0 := i_7) follows (fun _ h => by cases h) he F (fun s => [(7, .int .i64 s)]) (by kernel_rfl) (F.take 1) hk (fun Kn4 e h => dI .i64 (e 7) fun i_7 => Kn4 i_7 h) (fun Kn4 e h hk => by
  have F := Ag.nil (e := e)
  have ⟨i_7, F, hk⟩ := eI F hk
  exact ⟨i_7, F, hk⟩)
  (fun Kn4 => []) (fun Kn4 => [])
  (fun Kn4 => trivial)
  (fun Kn4 => trivial) (fun e s h Kn4 => by as_aux_lemma => kernel_rfl)⟩, trivial⟩ (by as_aux_lemma => kernel_rfl) hk
/-! ### intrusion/intrusionlaw30.SmtpCovered -/
def law30_SmtpCovered_v (a_0 b_1 : ByteArray) (Q : QT) (h : Heap) : Prop :=
 CallT Tryd.prog fn_law30_lives #[] h fun v h1 => ∃ t10 : Bool, v = .bool t10 ∧ if (!t10) = true then (Q (.bool false) h1) else (if (decide (((a_0.size : Nat) : Int) > 1000)) = true then (Q (.bool true) h1) else (if (decide (((b_1.size : Nat) : Int) > 1000)) = true then (Q (.bool true) h1) else (CallT Tryd.prog fn_smtp_New #[] h1 fun v h2 => ∃ t20 : Option Addr, v = .pointer t20 ∧ (((⟨#[50, 50, 48, 32, 104, 105, 10, 50, 50, 48, 32, 103, 111, 10]⟩ : ByteArray).size + b_1.size : Nat) : Int) ≤ IntKind.max .i64 ∧ CallT Tryd.prog fn_smtp_Session_Feed #[.pointer t20, .int .i64 2, .string ((⟨#[50, 50, 48, 32, 104, 105, 10, 50, 50, 48, 32, 103, 111, 10]⟩ : ByteArray) ++ b_1)] h2 fun v h3 => ∃ t24a : Option Addr, ∃ t24n : Nat, ∃ t24c : Nat, v = .slice t24a t24n t24c ∧ (((⟨#[115, 116, 97, 114, 116, 116, 108, 115, 10]⟩ : ByteArray).size + a_0.size : Nat) : Int) ≤ IntKind.max .i64 ∧ CallT Tryd.prog fn_smtp_Session_Feed #[.pointer t20, .int .i64 1, .string ((⟨#[115, 116, 97, 114, 116, 116, 108, 115, 10]⟩ : ByteArray) ++ a_0)] h3 fun v h4 => ∃ t28a : Option Addr, ∃ t28n : Nat, ∃ t28c : Nat, v = .slice t28a t28n t28c ∧ CallT Tryd.prog fn_smtp_Session_Feed #[.pointer t20, .int .i64 2, .string b_1] h4 fun v h5 => ∃ t31a : Option Addr, ∃ t31n : Nat, ∃ t31c : Nat, v = .slice t31a t31n t31c ∧ CallT Tryd.prog fn_smtp_Session_Feed #[.pointer t20, .int .i64 1, .string a_0] h5 fun v h6 => ∃ t34a : Option Addr, ∃ t34n : Nat, ∃ t34c : Nat, v = .slice t34a t34n t34c ∧ if (((t24n : Nat) : Int) == 1) = true then (if (((t28n : Nat) : Int) == 2) = true then (idxA (0 : Int) t28n (nn t28a fun t45 => ldS h6 (Addr.add (Addr.add t45 (((0 : Int)).toNat * 4)) 2) fun t47 => if (t47.toList == (⟨#[83, 84, 65, 82, 84, 84, 76, 83]⟩ : ByteArray).toList) = true then (idxA (1 : Int) t28n (nn t28a fun t52 => ldS h6 (Addr.add (Addr.add t52 (((1 : Int)).toNat * 4)) 2) fun t54 => if (t54.toList == (⟨#[50, 50, 48]⟩ : ByteArray).toList) = true then (CallT Tryd.prog fn_smtp_Session_Opaque #[.pointer t20] h6 fun v h7 => ∃ t59 : Bool, v = .bool t59 ∧ if t59 = true then (if (((t31n : Nat) : Int) == 0) = true then (Q (.bool (((t34n : Nat) : Int) == 0)) h7) else (Q (.bool false) h7)) else (Q (.bool false) h7)) else (Q (.bool false) h6))) else (Q (.bool false) h6))) else (Q (.bool false) h6)) else (Q (.bool false) h6))))
set_option maxRecDepth 100000 in
theorem law30_SmtpCovered_s (a_0 b_1 : ByteArray) {Q : QT} {h : Heap} (hk : law30_SmtpCovered_v a_0 b_1 Q h) : CallT Tryd.prog fn_law30_SmtpCovered #[.string a_0, .string b_1] h Q :=
 callU follows Tryd.func8 (Tryd.call8 _) rfl rfl [] []
 trivial
 trivial (by as_aux_lemma => kernel_rfl) hk
/-! ### intrusion/smtp.New -/
def smtp_New_l1 (p_1 : Addr) (t6a : Option Addr) (t6n t6c : Nat) (t7 : Int) (Q : QT) (t8 : Int) (h : Heap) (Kn1 : Int → Heap → Prop) : Prop :=
 if (decide (t8 < t7)) = true then (idxA t8 t6n (nn t6a fun t10 => ldI h (Addr.add t10 ((t8).toNat * 1)) .i64 fun t11 => CallT Tryd.prog fn_lines_New #[.int .i64 512] h fun v h3 => ∃ t14 : Option Addr, v = .pointer t14 ∧ alV h3 (.cells #[.pointer t14, .slice none 0 0, .bool false] T_smtp_side) fun t16 h4 => idxA t11 3 (st1 h4 (Addr.add p_1 ((t11).toNat * 1)) (.pointer (some t16)) fun h5 => Kn1 (wrap .i64 (t8 + 1)) h5))) else (Q (.pointer (some p_1)) h)
def smtp_New_v (Q : QT) (h : Heap) : Prop :=
 alV h (.cells #[.pointer none, .pointer none, .pointer none, .slice none 0 0, .bool false, .bool false, .bool false, .string (⟨#[]⟩ : ByteArray), .slice none 0 0] T_smtp_Session) fun t5 h1 => alV h1 (.cells #[.int .i64 1, .int .i64 2] T_int) fun t6 h2 => LoopV (fun (s : Int) h Kn => smtp_New_l1 t5 (some t6) 2 2 2 Q s h Kn) 0 h2
set_option maxRecDepth 100000 in
theorem smtp_New_s {Q : QT} {h : Heap} (hk : smtp_New_v Q h) : CallT Tryd.prog fn_smtp_New #[] h Q :=
 callU follows Tryd.func9 (Tryd.call9 _) rfl rfl [] [(8, fun e h => dA (e 1) fun p_1 => dL (e 6) fun t6a t6n t6c => dI .i64 (e 7) fun t7 => dI .i64 (e 8) fun t8 => LoopV (fun (s : Int) h Kn => smtp_New_l1 p_1 t6a t6n t6c t7 Q s h Kn) t8 h)]
 trivial
 ⟨⟨by kernel_rfl, fun e h he hk => by
 have F := Ag.nil (e := e)
 have ⟨p_1, F, hk⟩ := eA F hk
 have ⟨t6a, t6n, t6c, F, hk⟩ := eL F hk
 have ⟨t7, F, hk⟩ := eI F hk
 have ⟨t8, F, hk⟩ := eI F hk
 exact loopU (s0 := t8) follows (fun _ h => by cases h) he F (fun s => [(8, .int .i64 s)]) (by kernel_rfl) (F.take 1) hk (fun Kn1 e h => dI .i64 (e 8) fun t8 => Kn1 t8 h) (fun Kn1 e h hk => by
  have F := Ag.nil (e := e)
  have ⟨t8, F, hk⟩ := eI F hk
  exact ⟨t8, F, hk⟩)
  (fun Kn1 => []) (fun Kn1 => [])
  (fun Kn1 => trivial)
  (fun Kn1 => trivial) (fun e s h Kn1 => by as_aux_lemma => kernel_rfl)⟩, trivial⟩ (by as_aux_lemma => kernel_rfl) hk
/-! ### intrusion/intrusionref30.New -/
def ref30_New_v (Q : QT) (h : Heap) : Prop :=
 alV h (.cells #[.pointer none, .pointer none, .pointer none, .slice none 0 0, .slice none 0 0, .slice none 0 0, .bool false, .bool false, .bool false, .int .i64 0, .int .i64 0, .string (⟨#[]⟩ : ByteArray), .bool false, .string (⟨#[]⟩ : ByteArray), .string (⟨#[]⟩ : ByteArray), .bool false] T_intrusionref30_Session) fun t3 h1 => CallT Tryd.prog fn_ref25_New #[.int .i64 512] h1 fun v h2 => ∃ t5 : Option Addr, v = .pointer t5 ∧ idxA (1 : Int) 3 (st1 h2 (Addr.add t3 (((1 : Int)).toNat * 1)) (.pointer t5) fun h3 => CallT Tryd.prog fn_ref25_New #[.int .i64 512] h3 fun v h4 => ∃ t10 : Option Addr, v = .pointer t10 ∧ idxA (2 : Int) 3 (st1 h4 (Addr.add t3 (((2 : Int)).toNat * 1)) (.pointer t10) fun h5 => Q (.pointer (some t3)) h5))
set_option maxRecDepth 100000 in
theorem ref30_New_s {Q : QT} {h : Heap} (hk : ref30_New_v Q h) : CallT Tryd.prog fn_ref30_New #[] h Q :=
 callU follows Tryd.func10 (Tryd.call10 _) rfl rfl [] []
 trivial
 trivial (by as_aux_lemma => kernel_rfl) hk
/-! ### intrusion/intrusionlaw30.long -/
def law30_long_b2 (l_0a : Option Addr) (l_0n l_0c : Nat) (most_1 n_5 : Int) (Q : QT) (h : Heap) : Prop :=
 if (decide (((l_0n : Nat) : Int) > 60)) = true then (Q (.bool true) h) else (Q (.bool (decide (n_5 > most_1))) h)
def law30_long_l1 (l_0a : Option Addr) (l_0n l_0c : Nat) (most_1 : Int) (Q : QT) (n_5 i_6 : Int) (h : Heap) (Kn1 : Int × Int → Heap → Prop) : Prop :=
 if (decide (i_6 < ((l_0n : Nat) : Int))) = true then (if (decide (i_6 < 61)) = true then (idxA i_6 l_0n (nn l_0a fun t19 => ldS h (Addr.add (Addr.add t19 ((i_6).toNat * 2)) 1) fun t21 => if (decide (((t21.size : Nat) : Int) > most_1)) = true then (Q (.bool true) h) else (idxA i_6 l_0n (nn l_0a fun t28 => ldS h (Addr.add (Addr.add t28 ((i_6).toNat * 2)) 1) fun t30 => Kn1 (wrap .i64 (n_5 + ((t30.size : Nat) : Int)), wrap .i64 (i_6 + 1)) h)))) else (law30_long_b2 l_0a l_0n l_0c most_1 n_5 Q h)) else (law30_long_b2 l_0a l_0n l_0c most_1 n_5 Q h)
def law30_long_v (l_0a : Option Addr) (l_0n l_0c : Nat) (most_1 : Int) (Q : QT) (h : Heap) : Prop :=
 LoopV (fun (s : Int × Int) h Kn => law30_long_l1 l_0a l_0n l_0c most_1 Q s.1 s.2 h Kn) (0, 0) h
set_option maxRecDepth 100000 in
theorem law30_long_s (l_0a : Option Addr) (l_0n l_0c : Nat) (most_1 : Int) {Q : QT} {h : Heap} (hk : law30_long_v l_0a l_0n l_0c most_1 Q h) : CallT Tryd.prog fn_law30_long #[.slice l_0a l_0n l_0c, .int .i64 most_1] h Q :=
 callU follows Tryd.func11 (Tryd.call11 _) rfl rfl [(18, fun e h => dL (e 0) fun l_0a l_0n l_0c => dI .i64 (e 1) fun most_1 => dI .i64 (e 5) fun n_5 => law30_long_b2 l_0a l_0n l_0c most_1 n_5 Q h)] [(8, fun e h => dL (e 0) fun l_0a l_0n l_0c => dI .i64 (e 1) fun most_1 => dI .i64 (e 5) fun n_5 => dI .i64 (e 6) fun i_6 => LoopV (fun (s : Int × Int) h Kn => law30_long_l1 l_0a l_0n l_0c most_1 Q s.1 s.2 h Kn) (n_5, i_6) h)]
 ⟨fun e h _ hk => by
 have F := Ag.nil (e := e)
 have ⟨l_0a, l_0n, l_0c, F, hk⟩ := eL F hk
 have ⟨most_1, F, hk⟩ := eI F hk
 have ⟨n_5, F, hk⟩ := eI F hk
 exact cutU F (by as_aux_lemma => kernel_rfl) hk, trivial⟩
 ⟨⟨by kernel_rfl, fun e h he hk => by
 have F := Ag.nil (e := e)
 have ⟨l_0a, l_0n, l_0c, F, hk⟩ := eL F hk
 have ⟨most_1, F, hk⟩ := eI F hk
 have ⟨n_5, F, hk⟩ := eI F hk
 have ⟨i_6, F, hk⟩ := eI F hk
 exact loopU (s0 := (n_5, i_6)) follows (fun _ h => by cases h) he F (fun s => [(6, .int .i64 s.2), (5, .int .i64 s.1)]) (by kernel_rfl) (F.take 2) hk (fun Kn1 e h => dI .i64 (e 5) fun n_5 => dI .i64 (e 6) fun i_6 => Kn1 (n_5, i_6) h) (fun Kn1 e h hk => by
  have F := Ag.nil (e := e)
  have ⟨n_5, F, hk⟩ := eI F hk
  have ⟨i_6, F, hk⟩ := eI F hk
  exact ⟨(n_5, i_6), F, hk⟩)
  (fun Kn1 => []) (fun Kn1 => [])
  (fun Kn1 => trivial)
  (fun Kn1 => trivial) (fun e s h Kn1 => by as_aux_lemma => kernel_rfl)⟩, trivial⟩ (by as_aux_lemma => kernel_rfl) hk
/-! ### intrusion/intrusionlaw30.lives -/
def law30_lives_v (Q : QT) (h : Heap) : Prop :=
 CallT Tryd.prog fn_smtp_New #[] h fun v h1 => ∃ t4 : Option Addr, v = .pointer t4 ∧ if (Option.isNone t4) = true then (Q (.bool false) h1) else (CallT Tryd.prog fn_smtp_Session_Feed #[.pointer t4, .int .i64 1, .string (⟨#[110, 111, 111, 112, 32, 120, 13, 10, 68, 65, 84, 65, 13, 10, 46, 97, 13, 10, 46, 13, 10]⟩ : ByteArray)] h1 fun v h2 => ∃ t8a : Option Addr, ∃ t8n : Nat, ∃ t8c : Nat, v = .slice t8a t8n t8c ∧ CallT Tryd.prog fn_smtp_Session_Feed #[.pointer t4, .int .i64 2, .string (⟨#[50, 50, 48, 32, 104, 105, 13, 10, 50, 53, 48, 45, 97, 13, 10, 50, 53, 48, 32, 98, 13, 10, 51, 53, 52, 32, 103, 111, 13, 10]⟩ : ByteArray)] h2 fun v h3 => ∃ t10a : Option Addr, ∃ t10n : Nat, ∃ t10c : Nat, v = .slice t10a t10n t10c ∧ if (((t8n : Nat) : Int) != 2) = true then (Q (.bool false) h3) else (idxA (0 : Int) t8n (nn t8a fun t16 => ldI h3 (Addr.add t16 (((0 : Int)).toNat * 4)) .i64 fun t17_0 => ldI h3 (Addr.add (Addr.add t16 (((0 : Int)).toNat * 4)) 1) .i64 fun t17_1 => ldS h3 (Addr.add (Addr.add t16 (((0 : Int)).toNat * 4)) 2) fun t17_2 => ldS h3 (Addr.add (Addr.add t16 (((0 : Int)).toNat * 4)) 3) fun t17_3 => if (!((t17_0 == (1 : Int)) && ((t17_1 == (1 : Int)) && ((t17_2 == (⟨#[78, 79, 79, 80]⟩ : ByteArray)) && ((t17_3 == (⟨#[120]⟩ : ByteArray)) && true))))) = true then (Q (.bool false) h3) else (if (((t10n : Nat) : Int) != 5) = true then (Q (.bool false) h3) else (idxA (1 : Int) t10n (nn t10a fun t27 => ldI h3 (Addr.add t27 (((1 : Int)).toNat * 4)) .i64 fun t28_0 => ldI h3 (Addr.add (Addr.add t27 (((1 : Int)).toNat * 4)) 1) .i64 fun t28_1 => ldS h3 (Addr.add (Addr.add t27 (((1 : Int)).toNat * 4)) 2) fun t28_2 => ldS h3 (Addr.add (Addr.add t27 (((1 : Int)).toNat * 4)) 3) fun t28_3 => if ((t28_0 == (2 : Int)) && ((t28_1 == (2 : Int)) && ((t28_2 == (⟨#[50, 53, 48]⟩ : ByteArray)) && ((t28_3 == (⟨#[97, 32, 98]⟩ : ByteArray)) && true)))) = true then (idxA (3 : Int) t10n (nn t10a fun t33 => ldI h3 (Addr.add t33 (((3 : Int)).toNat * 4)) .i64 fun t34_0 => ldI h3 (Addr.add (Addr.add t33 (((3 : Int)).toNat * 4)) 1) .i64 fun t34_1 => ldS h3 (Addr.add (Addr.add t33 (((3 : Int)).toNat * 4)) 2) fun t34_2 => ldS h3 (Addr.add (Addr.add t33 (((3 : Int)).toNat * 4)) 3) fun t34_3 => if ((t34_0 == (3 : Int)) && ((t34_1 == (1 : Int)) && ((t34_2 == (⟨#[]⟩ : ByteArray)) && ((t34_3 == (⟨#[97]⟩ : ByteArray)) && true)))) = true then (idxA (4 : Int) t10n (nn t10a fun t40 => ldI h3 (Addr.add t40 (((4 : Int)).toNat * 4)) .i64 fun t41_0 => ldI h3 (Addr.add (Addr.add t40 (((4 : Int)).toNat * 4)) 1) .i64 fun t41_1 => ldS h3 (Addr.add (Addr.add t40 (((4 : Int)).toNat * 4)) 2) fun t41_2 => ldS h3 (Addr.add (Addr.add t40 (((4 : Int)).toNat * 4)) 3) fun t41_3 => if ((t41_0 == (4 : Int)) && ((t41_1 == (1 : Int)) && ((t41_2 == (⟨#[]⟩ : ByteArray)) && ((t41_3 == (⟨#[]⟩ : ByteArray)) && true)))) = true then (alV h3 (.cells #[.string (⟨#[46, 97]⟩ : ByteArray)] T_string) fun t46 h4 => CallT Tryd.prog fn_smtp_Mail #[.slice (some t46) 1 1] h4 fun v h5 => ∃ t47 : ByteArray, v = .string t47 ∧ if (t47.toList == (⟨#[46, 46, 97, 13, 10, 46, 13, 10]⟩ : ByteArray).toList) = true then (CallT Tryd.prog fn_smtp_Of #[.slice t10a t10n t10c, .int .i64 2] h5 fun v h6 => ∃ t52a : Option Addr, ∃ t52n : Nat, ∃ t52c : Nat, v = .slice t52a t52n t52c ∧ if (((t52n : Nat) : Int) == 3) = true then (CallT Tryd.prog fn_smtp_Session_Opaque #[.pointer t4] h6 fun v h7 => ∃ t58 : Bool, v = .bool t58 ∧ Q (.bool (!t58)) h7) else (Q (.bool false) h6)) else (Q (.bool false) h5)) else (Q (.bool false) h3))) else (Q (.bool false) h3))) else (Q (.bool false) h3)))))))
set_option maxRecDepth 100000 in
theorem law30_lives_s {Q : QT} {h : Heap} (hk : law30_lives_v Q h) : CallT Tryd.prog fn_law30_lives #[] h Q :=
 callU follows Tryd.func12 (Tryd.call12 _) rfl rfl [] []
 trivial
 trivial (by as_aux_lemma => kernel_rfl) hk
/-! ### intrusion/intrusionref30.Same -/
def ref30_Same_l1 (a_0a : Option Addr) (a_0n a_0c : Nat) (b_1a : Option Addr) (b_1n b_1c : Nat) (Q : QT) (i_5 : Int) (h : Heap) (Kn1 : Int → Heap → Prop) : Prop :=
 if (decide (i_5 < ((a_0n : Nat) : Int))) = true then (idxA i_5 a_0n (nn a_0a fun t19 => ldI h (Addr.add t19 ((i_5).toNat * 4)) .i64 fun t20_0 => ldI h (Addr.add (Addr.add t19 ((i_5).toNat * 4)) 1) .i64 fun t20_1 => ldS h (Addr.add (Addr.add t19 ((i_5).toNat * 4)) 2) fun t20_2 => ldS h (Addr.add (Addr.add t19 ((i_5).toNat * 4)) 3) fun t20_3 => idxA i_5 b_1n (nn b_1a fun t23 => ldI h (Addr.add t23 ((i_5).toNat * 4)) .i64 fun t24_0 => ldI h (Addr.add (Addr.add t23 ((i_5).toNat * 4)) 1) .i64 fun t24_1 => ldS h (Addr.add (Addr.add t23 ((i_5).toNat * 4)) 2) fun t24_2 => ldS h (Addr.add (Addr.add t23 ((i_5).toNat * 4)) 3) fun t24_3 => if (!((t20_0 == t24_0) && ((t20_1 == t24_1) && ((t20_2 == t24_2) && ((t20_3 == t24_3) && true))))) = true then (Q (.bool false) h) else (Kn1 (wrap .i64 (i_5 + 1)) h)))) else (Q (.bool true) h)
def ref30_Same_v (a_0a : Option Addr) (a_0n a_0c : Nat) (b_1a : Option Addr) (b_1n b_1c : Nat) (Q : QT) (h : Heap) : Prop :=
 if (((a_0n : Nat) : Int) != ((b_1n : Nat) : Int)) = true then (Q (.bool false) h) else (LoopV (fun (s : Int) h Kn => ref30_Same_l1 a_0a a_0n a_0c b_1a b_1n b_1c Q s h Kn) 0 h)
set_option maxRecDepth 100000 in
theorem ref30_Same_s (a_0a : Option Addr) (a_0n a_0c : Nat) (b_1a : Option Addr) (b_1n b_1c : Nat) {Q : QT} {h : Heap} (hk : ref30_Same_v a_0a a_0n a_0c b_1a b_1n b_1c Q h) : CallT Tryd.prog fn_ref30_Same #[.slice a_0a a_0n a_0c, .slice b_1a b_1n b_1c] h Q :=
 callU follows Tryd.func13 (Tryd.call13 _) rfl rfl [] [(10, fun e h => dL (e 0) fun a_0a a_0n a_0c => dL (e 1) fun b_1a b_1n b_1c => dI .i64 (e 5) fun i_5 => LoopV (fun (s : Int) h Kn => ref30_Same_l1 a_0a a_0n a_0c b_1a b_1n b_1c Q s h Kn) i_5 h)]
 trivial
 ⟨⟨by kernel_rfl, fun e h he hk => by
 have F := Ag.nil (e := e)
 have ⟨a_0a, a_0n, a_0c, F, hk⟩ := eL F hk
 have ⟨b_1a, b_1n, b_1c, F, hk⟩ := eL F hk
 have ⟨i_5, F, hk⟩ := eI F hk
 exact loopU (s0 := i_5) follows (fun _ h => by cases h) he F (fun s => [(5, .int .i64 s)]) (by kernel_rfl) (F.take 1) hk (fun Kn1 e h => dI .i64 (e 5) fun i_5 => Kn1 i_5 h) (fun Kn1 e h hk => by
  have F := Ag.nil (e := e)
  have ⟨i_5, F, hk⟩ := eI F hk
  exact ⟨i_5, F, hk⟩)
  (fun Kn1 => []) (fun Kn1 => [])
  (fun Kn1 => trivial)
  (fun Kn1 => trivial) (fun e s h Kn1 => by as_aux_lemma => kernel_rfl)⟩, trivial⟩ (by as_aux_lemma => kernel_rfl) hk
/-! ### (*intrusion/smtp.Session).Feed -/
def smtp_Session_Feed_b6 (p_0 : Option Addr) (dir_1 : Int) (x_7 : Option Addr) (out_8 add_9_0 : Addr) (waiting_14 : Int) (Q : QT) (h : Heap) : Prop :=
 if (decide (waiting_14 > 8192)) = true then (nn x_7 fun t132 => ldB h (Addr.add t132 2) fun t134 => if (!t134) = true then (nn p_0 fun t139 => ldB h (Addr.add t139 5) fun t141 => if (!t141) = true then (nn x_7 fun t145 => st1 h (Addr.add t145 2) (.bool true) fun h16 => CallT Tryd.prog fn_smtp_Session_Feed_1 #[.int .i64 5, .int .i64 dir_1, .string (⟨#[]⟩ : ByteArray), .string (⟨#[]⟩ : ByteArray), .pointer (some add_9_0)] h16 fun v h17 => v = .tuple #[] ∧ ldL h17 out_8 fun t150a t150n t150c => Q (.slice t150a t150n t150c) h17) else (ldL h out_8 fun t150a t150n t150c => Q (.slice t150a t150n t150c) h)) else (ldL h out_8 fun t150a t150n t150c => Q (.slice t150a t150n t150c) h)) else (ldL h out_8 fun t150a t150n t150c => Q (.slice t150a t150n t150c) h)
def smtp_Session_Feed_l5 (p_0 : Option Addr) (dir_1 : Int) (x_7 : Option Addr) (out_8 add_9_0 : Addr) (t115a : Option Addr) (t115n t115c : Nat) (t116 : Int) (Q : QT) (waiting_14 t117 : Int) (h : Heap) (Kn5 : Int × Int → Heap → Prop) : Prop :=
 if (decide (t117 < t116)) = true then (idxA t117 t115n (nn t115a fun t119 => ldS h (Addr.add t119 ((t117).toNat * 2)) fun t120_0 => ldB h (Addr.add (Addr.add t119 ((t117).toNat * 2)) 1) fun t120_1 => alV h (.cells #[.string (⟨#[]⟩ : ByteArray), .bool false] T_api_Line) fun t16 h14 => stN h14 t16 [.string t120_0, .bool t120_1] 0 fun h15 => ldS h15 t16 fun t123 => Kn5 (wrap .i64 (waiting_14 + (wrap .i64 (((t123.size : Nat) : Int) + 1))), wrap .i64 (t117 + 1)) h15)) else (smtp_Session_Feed_b6 p_0 dir_1 x_7 out_8 add_9_0 waiting_14 Q h)
def smtp_Session_Feed_b3 (p_0 : Option Addr) (dir_1 : Int) (x_7 : Option Addr) (out_8 add_9_0 : Addr) (Q : QT) (h : Heap) : Prop :=
 nn x_7 fun t113 => ldL h (Addr.add t113 1) fun t115a t115n t115c => LoopV (fun (s : Int × Int) h Kn => smtp_Session_Feed_l5 p_0 dir_1 x_7 out_8 add_9_0 t115a t115n t115c ((t115n : Nat) : Int) Q s.1 s.2 h Kn) (0, 0) h
def smtp_Session_Feed_b4 (p_0 : Option Addr) (dir_1 : Int) (x_7 : Option Addr) (out_8 add_9_0 : Addr) (d_10 : Int) (y_11 : Option Addr) (ok_13 : Bool) (Q : QT) (Kn1 : Unit → Heap → Prop) (h : Heap) : Prop :=
 if (!ok_13) = true then (nn y_11 fun t107 => st1 h (Addr.add t107 2) (.bool true) fun h11 => CallT Tryd.prog fn_smtp_Session_Feed_1 #[.int .i64 5, .int .i64 d_10, .string (⟨#[]⟩ : ByteArray), .string (⟨#[]⟩ : ByteArray), .pointer (some add_9_0)] h11 fun v h12 => v = .tuple #[] ∧ Kn1 () h12) else (Kn1 () h)
def smtp_Session_Feed_b8 (p_0 : Option Addr) (dir_1 : Int) (x_7 : Option Addr) (out_8 add_9_0 : Addr) (d_10 : Int) (y_11 : Option Addr) (l_12 : Addr) (ok_13 : Bool) (Q : QT) (Kn1 : Unit → Heap → Prop) (h : Heap) : Prop :=
 if ok_13 = true then (ldS h l_12 fun t101 => CallT Tryd.prog fn_smtp_Session_server #[.pointer p_0, .string t101, .func (.func 25) #[] #[.pointer (some add_9_0)]] h fun v h13 => ∃ t103 : Bool, v = .bool t103 ∧ smtp_Session_Feed_b4 p_0 dir_1 x_7 out_8 add_9_0 d_10 y_11 t103 Q Kn1 h13) else (smtp_Session_Feed_b4 p_0 dir_1 x_7 out_8 add_9_0 d_10 y_11 ok_13 Q Kn1 h)
def smtp_Session_Feed_b2 (p_0 : Option Addr) (dir_1 : Int) (x_7 : Option Addr) (out_8 add_9_0 : Addr) (d_10 : Int) (Q : QT) (Kn1 : Unit → Heap → Prop) (h : Heap) : Prop :=
 CallT Tryd.prog fn_smtp_Session_readable #[.pointer p_0, .int .i64 d_10] h fun v h6 => ∃ t63 : Bool, v = .bool t63 ∧ if (!t63) = true then (smtp_Session_Feed_b3 p_0 dir_1 x_7 out_8 add_9_0 Q h6) else (nn p_0 fun t67 => idxA d_10 3 (ldP h6 (Addr.add t67 ((d_10).toNat * 1)) fun t70 => nn t70 fun t72 => ldL h6 (Addr.add t72 1) fun t74a t74n t74c => idxA (0 : Int) t74n (nn t74a fun t75 => ldS h6 (Addr.add t75 (((0 : Int)).toNat * 2)) fun t76_0 => ldB h6 (Addr.add (Addr.add t75 (((0 : Int)).toNat * 2)) 1) fun t76_1 => alV h6 (.cells #[.string (⟨#[]⟩ : ByteArray), .bool false] T_api_Line) fun t12 h7 => stN h7 t12 [.string t76_0, .bool t76_1] 0 fun h8 => nn t70 fun t79 => ldL h8 (Addr.add t79 1) fun t81a t81n t81c => sliceSl 2 t81a t81n t81c (some (1 : Int)) none none fun t82a t82n t82c => nn t70 fun t83 => st1 h8 (Addr.add t83 1) (.slice t82a t82n t82c) fun h9 => ldB h9 (Addr.add t12 1) fun t86 => if (!t86) = true then (if (d_10 == 1) = true then (ldS h9 t12 fun t95 => CallT Tryd.prog fn_smtp_Session_client #[.pointer p_0, .string t95, .func (.func 25) #[] #[.pointer (some add_9_0)]] h9 fun v h10 => ∃ t97 : Bool, v = .bool t97 ∧ smtp_Session_Feed_b4 p_0 dir_1 x_7 out_8 add_9_0 d_10 t70 t97 Q Kn1 h10) else (smtp_Session_Feed_b8 p_0 dir_1 x_7 out_8 add_9_0 d_10 t70 t12 (!t86) Q Kn1 h9)) else (smtp_Session_Feed_b8 p_0 dir_1 x_7 out_8 add_9_0 d_10 t70 t12 (!t86) Q Kn1 h9))))
def smtp_Session_Feed_l1 (p_0 : Option Addr) (dir_1 : Int) (x_7 : Option Addr) (out_8 add_9_0 : Addr) (Q : QT) (h : Heap) (Kn1 : Unit → Heap → Prop) : Prop :=
 CallT Tryd.prog fn_smtp_Session_readable #[.pointer p_0, .int .i64 1] h fun v h5 => ∃ t59 : Bool, v = .bool t59 ∧ if (!t59) = true then (smtp_Session_Feed_b2 p_0 dir_1 x_7 out_8 add_9_0 2 Q Kn1 h5) else (smtp_Session_Feed_b2 p_0 dir_1 x_7 out_8 add_9_0 1 Q Kn1 h5)
def smtp_Session_Feed_b7 (p_0 : Option Addr) (dir_1 : Int) (s_2 : ByteArray) (Q : QT) (h : Heap) : Prop :=
 nn p_0 fun t38 => idxA dir_1 3 (ldP h (Addr.add t38 ((dir_1).toNat * 1)) fun t41 => nn t41 fun t44 => ldL h (Addr.add t44 1) fun t46a t46n t46c => nn t41 fun t48 => ldP h t48 fun t50 => CallT Tryd.prog fn_lines_Splitter_Feed #[.pointer t50, .string s_2] h fun v h1 => ∃ t52a : Option Addr, ∃ t52n : Nat, ∃ t52c : Nat, v = .slice t52a t52n t52c ∧ (ldL h1 (Addr.add t44 1) fun t946a t946n t946c => (.slice t946a t946n t946c : Value) = .slice t46a t46n t46c) ∧ bltV Tryd.prog .append #[T_sl_api_Line, T_sl_api_Line] T_sl_api_Line #[false, false] #[.slice t46a t46n t46c, .slice t52a t52n t52c] h1 fun v h2 => ∃ t53a : Option Addr, ∃ t53n : Nat, ∃ t53c : Nat, v = .slice t53a t53n t53c ∧ nn t41 fun t54 => st1 h2 (Addr.add t54 1) (.slice t53a t53n t53c) fun h3 => alV h3 (.cells #[.slice none 0 0] T_sl_api_SmtpEvent) fun t8 h4 => LoopV (fun (s : Unit) h Kn => smtp_Session_Feed_l1 p_0 dir_1 t41 t8 t8 Q h Kn) () h4)
def smtp_Session_Feed_v (p_0 : Option Addr) (dir_1 : Int) (s_2 : ByteArray) (Q : QT) (h : Heap) : Prop :=
 if (Option.isNone p_0) = true then (Q (.slice none 0 0) h) else (if (dir_1 != 1) = true then (if (dir_1 != 2) = true then (Q (.slice none 0 0) h) else (nn p_0 fun t30 => idxA dir_1 3 (ldP h (Addr.add t30 ((dir_1).toNat * 1)) fun t33 => if (Option.isNone t33) = true then (Q (.slice none 0 0) h) else (smtp_Session_Feed_b7 p_0 dir_1 s_2 Q h)))) else (nn p_0 fun t30 => idxA dir_1 3 (ldP h (Addr.add t30 ((dir_1).toNat * 1)) fun t33 => if (Option.isNone t33) = true then (Q (.slice none 0 0) h) else (smtp_Session_Feed_b7 p_0 dir_1 s_2 Q h))))
set_option maxRecDepth 100000 in
theorem smtp_Session_Feed_s (p_0 : Option Addr) (dir_1 : Int) (s_2 : ByteArray) {Q : QT} {h : Heap} (hk : smtp_Session_Feed_v p_0 dir_1 s_2 Q h) : CallT Tryd.prog fn_smtp_Session_Feed #[.pointer p_0, .int .i64 dir_1, .string s_2] h Q :=
 callU follows Tryd.func14 (Tryd.call14 _) rfl rfl [(8, fun e h => dP (e 0) fun p_0 => dI .i64 (e 1) fun dir_1 => dS (e 2) fun s_2 => smtp_Session_Feed_b7 p_0 dir_1 s_2 Q h), (46, fun e h => dP (e 0) fun p_0 => dI .i64 (e 1) fun dir_1 => dP (e 7) fun x_7 => dA (e 8) fun out_8 => dF 25 (e 9) fun l9_1 => dC l9_1 fun v9_2 l9_2 => dA v9_2 fun add_9_0 => dE l9_2 (smtp_Session_Feed_b3 p_0 dir_1 x_7 out_8 add_9_0 Q h)), (58, fun e h => dP (e 0) fun p_0 => dI .i64 (e 1) fun dir_1 => dP (e 7) fun x_7 => dA (e 8) fun out_8 => dF 25 (e 9) fun l9_1 => dC l9_1 fun v9_2 l9_2 => dA v9_2 fun add_9_0 => dE l9_2 (dI .i64 (e 14) fun waiting_14 => smtp_Session_Feed_b6 p_0 dir_1 x_7 out_8 add_9_0 waiting_14 Q h))] [(16, fun e h => dP (e 0) fun p_0 => dI .i64 (e 1) fun dir_1 => dP (e 7) fun x_7 => dA (e 8) fun out_8 => dF 25 (e 9) fun l9_1 => dC l9_1 fun v9_2 l9_2 => dA v9_2 fun add_9_0 => dE l9_2 (LoopV (fun (s : Unit) h Kn => smtp_Session_Feed_l1 p_0 dir_1 x_7 out_8 add_9_0 Q h Kn) () h)), (50, fun e h => dP (e 0) fun p_0 => dI .i64 (e 1) fun dir_1 => dP (e 7) fun x_7 => dA (e 8) fun out_8 => dF 25 (e 9) fun l9_1 => dC l9_1 fun v9_2 l9_2 => dA v9_2 fun add_9_0 => dE l9_2 (dL (e 115) fun t115a t115n t115c => dI .i64 (e 116) fun t116 => dI .i64 (e 14) fun waiting_14 => dI .i64 (e 117) fun t117 => LoopV (fun (s : Int × Int) h Kn => smtp_Session_Feed_l5 p_0 dir_1 x_7 out_8 add_9_0 t115a t115n t115c t116 Q s.1 s.2 h Kn) (waiting_14, t117) h))]
 ⟨fun e h _ hk => by
 have F := Ag.nil (e := e)
 have ⟨p_0, F, hk⟩ := eP F hk
 have ⟨dir_1, F, hk⟩ := eI F hk
 have ⟨s_2, F, hk⟩ := eS F hk
 exact cutU F (by as_aux_lemma => kernel_rfl) hk, fun e h _ hk => by
 have F := Ag.nil (e := e)
 have ⟨p_0, F, hk⟩ := eP F hk
 have ⟨dir_1, F, hk⟩ := eI F hk
 have ⟨x_7, F, hk⟩ := eP F hk
 have ⟨out_8, F, hk⟩ := eA F hk
 obtain ⟨l9_1, F, hk2⟩ := eF F hk; clear hk; have hk := hk2; clear hk2
 obtain ⟨v9_2, l9_2, q, hk2⟩ := dC_elim hk
 clear hk; subst q; have hk := hk2; clear hk2
 obtain ⟨add_9_0, q, hk2⟩ := dA_elim hk
 clear hk; subst q; have hk := hk2; clear hk2
 obtain ⟨q, hk2⟩ := dE_elim hk
 clear hk; subst q; have hk := hk2; clear hk2
 exact cutU F (by as_aux_lemma => kernel_rfl) hk, fun e h _ hk => by
 have F := Ag.nil (e := e)
 have ⟨p_0, F, hk⟩ := eP F hk
 have ⟨dir_1, F, hk⟩ := eI F hk
 have ⟨x_7, F, hk⟩ := eP F hk
 have ⟨out_8, F, hk⟩ := eA F hk
 obtain ⟨l9_1, F, hk2⟩ := eF F hk; clear hk; have hk := hk2; clear hk2
 obtain ⟨v9_2, l9_2, q, hk2⟩ := dC_elim hk
 clear hk; subst q; have hk := hk2; clear hk2
 obtain ⟨add_9_0, q, hk2⟩ := dA_elim hk
 clear hk; subst q; have hk := hk2; clear hk2
 obtain ⟨q, hk2⟩ := dE_elim hk
 clear hk; subst q; have hk := hk2; clear hk2
 have ⟨waiting_14, F, hk⟩ := eI F hk
 exact cutU F (by as_aux_lemma => kernel_rfl) hk, trivial⟩
 ⟨⟨by kernel_rfl, fun e h he hk => by
 have F := Ag.nil (e := e)
 have ⟨p_0, F, hk⟩ := eP F hk
 have ⟨dir_1, F, hk⟩ := eI F hk
 have ⟨x_7, F, hk⟩ := eP F hk
 have ⟨out_8, F, hk⟩ := eA F hk
 obtain ⟨l9_1, F, hk2⟩ := eF F hk; clear hk; have hk := hk2; clear hk2
 obtain ⟨v9_2, l9_2, q, hk2⟩ := dC_elim hk
 clear hk; subst q; have hk := hk2; clear hk2
 obtain ⟨add_9_0, q, hk2⟩ := dA_elim hk
 clear hk; subst q; have hk := hk2; clear hk2
 obtain ⟨q, hk2⟩ := dE_elim hk
 clear hk; subst q; have hk := hk2; clear hk2
 exact loopU (s0 := ()) follows (fun _ h => by cases h) he F (fun s => []) (by kernel_rfl) (F.take 0) hk (fun Kn1 e h => Kn1 () h) (fun Kn1 e h hk => by
  have F := Ag.nil (e := e)
  exact ⟨(), F, hk⟩)
  (fun Kn1 => [(22, fun e h => dP (e 0) fun p_0 => dI .i64 (e 1) fun dir_1 => dP (e 7) fun x_7 => dA (e 8) fun out_8 => dF 25 (e 9) fun l9_1 => dC l9_1 fun v9_2 l9_2 => dA v9_2 fun add_9_0 => dE l9_2 (dI .i64 (e 10) fun d_10 => smtp_Session_Feed_b2 p_0 dir_1 x_7 out_8 add_9_0 d_10 Q Kn1 h)), (40, fun e h => dP (e 0) fun p_0 => dI .i64 (e 1) fun dir_1 => dP (e 7) fun x_7 => dA (e 8) fun out_8 => dF 25 (e 9) fun l9_1 => dC l9_1 fun v9_2 l9_2 => dA v9_2 fun add_9_0 => dE l9_2 (dI .i64 (e 10) fun d_10 => dP (e 11) fun y_11 => dB (e 13) fun ok_13 => smtp_Session_Feed_b4 p_0 dir_1 x_7 out_8 add_9_0 d_10 y_11 ok_13 Q Kn1 h)), (37, fun e h => dP (e 0) fun p_0 => dI .i64 (e 1) fun dir_1 => dP (e 7) fun x_7 => dA (e 8) fun out_8 => dF 25 (e 9) fun l9_1 => dC l9_1 fun v9_2 l9_2 => dA v9_2 fun add_9_0 => dE l9_2 (dI .i64 (e 10) fun d_10 => dP (e 11) fun y_11 => dA (e 12) fun l_12 => dB (e 13) fun ok_13 => smtp_Session_Feed_b8 p_0 dir_1 x_7 out_8 add_9_0 d_10 y_11 l_12 ok_13 Q Kn1 h))]) (fun Kn1 => [])
  (fun Kn1 => ⟨fun e h _ hk => by
 have F := Ag.nil (e := e)
 have ⟨p_0, F, hk⟩ := eP F hk
 have ⟨dir_1, F, hk⟩ := eI F hk
 have ⟨x_7, F, hk⟩ := eP F hk
 have ⟨out_8, F, hk⟩ := eA F hk
 obtain ⟨l9_1, F, hk2⟩ := eF F hk; clear hk; have hk := hk2; clear hk2
 obtain ⟨v9_2, l9_2, q, hk2⟩ := dC_elim hk
 clear hk; subst q; have hk := hk2; clear hk2
 obtain ⟨add_9_0, q, hk2⟩ := dA_elim hk
 clear hk; subst q; have hk := hk2; clear hk2
 obtain ⟨q, hk2⟩ := dE_elim hk
 clear hk; subst q; have hk := hk2; clear hk2
 have ⟨d_10, F, hk⟩ := eI F hk
 exact cutU F (by as_aux_lemma => kernel_rfl) hk, fun e h _ hk => by
 have F := Ag.nil (e := e)
 have ⟨p_0, F, hk⟩ := eP F hk
 have ⟨dir_1, F, hk⟩ := eI F hk
 have ⟨x_7, F, hk⟩ := eP F hk
 have ⟨out_8, F, hk⟩ := eA F hk
 obtain ⟨l9_1, F, hk2⟩ := eF F hk; clear hk; have hk := hk2; clear hk2
 obtain ⟨v9_2, l9_2, q, hk2⟩ := dC_elim hk
 clear hk; subst q; have hk := hk2; clear hk2
 obtain ⟨add_9_0, q, hk2⟩ := dA_elim hk
 clear hk; subst q; have hk := hk2; clear hk2
 obtain ⟨q, hk2⟩ := dE_elim hk
 clear hk; subst q; have hk := hk2; clear hk2
 have ⟨d_10, F, hk⟩ := eI F hk
 have ⟨y_11, F, hk⟩ := eP F hk
 have ⟨ok_13, F, hk⟩ := eB F hk
 exact cutU F (by as_aux_lemma => kernel_rfl) hk, fun e h _ hk => by
 have F := Ag.nil (e := e)
 have ⟨p_0, F, hk⟩ := eP F hk
 have ⟨dir_1, F, hk⟩ := eI F hk
 have ⟨x_7, F, hk⟩ := eP F hk
 have ⟨out_8, F, hk⟩ := eA F hk
 obtain ⟨l9_1, F, hk2⟩ := eF F hk; clear hk; have hk := hk2; clear hk2
 obtain ⟨v9_2, l9_2, q, hk2⟩ := dC_elim hk
 clear hk; subst q; have hk := hk2; clear hk2
 obtain ⟨add_9_0, q, hk2⟩ := dA_elim hk
 clear hk; subst q; have hk := hk2; clear hk2
 obtain ⟨q, hk2⟩ := dE_elim hk
 clear hk; subst q; have hk := hk2; clear hk2
 have ⟨d_10, F, hk⟩ := eI F hk
 have ⟨y_11, F, hk⟩ := eP F hk
 have ⟨l_12, F, hk⟩ := eA F hk
 have ⟨ok_13, F, hk⟩ := eB F hk
 exact cutU F (by as_aux_lemma => kernel_rfl) hk, trivial⟩)
  (fun Kn1 => trivial) (fun e s h Kn1 => by as_aux_lemma => kernel_rfl)⟩, ⟨by kernel_rfl, fun e h he hk => by
 have F := Ag.nil (e := e)
 have ⟨p_0, F, hk⟩ := eP F hk
 have ⟨dir_1, F, hk⟩ := eI F hk
 have ⟨x_7, F, hk⟩ := eP F hk
 have ⟨out_8, F, hk⟩ := eA F hk
 obtain ⟨l9_1, F, hk2⟩ := eF F hk; clear hk; have hk := hk2; clear hk2
 obtain ⟨v9_2, l9_2, q, hk2⟩ := dC_elim hk
 clear hk; subst q; have hk := hk2; clear hk2
 obtain ⟨add_9_0, q, hk2⟩ := dA_elim hk
 clear hk; subst q; have hk := hk2; clear hk2
 obtain ⟨q, hk2⟩ := dE_elim hk
 clear hk; subst q; have hk := hk2; clear hk2
 have ⟨t115a, t115n, t115c, F, hk⟩ := eL F hk
 have ⟨t116, F, hk⟩ := eI F hk
 have ⟨waiting_14, F, hk⟩ := eI F hk
 have ⟨t117, F, hk⟩ := eI F hk
 exact loopU (s0 := (waiting_14, t117)) follows (fun _ h => by cases h) he F (fun s => [(117, .int .i64 s.2), (14, .int .i64 s.1)]) (by kernel_rfl) (F.take 2) hk (fun Kn5 e h => dI .i64 (e 14) fun waiting_14 => dI .i64 (e 117) fun t117 => Kn5 (waiting_14, t117) h) (fun Kn5 e h hk => by
  have F := Ag.nil (e := e)
  have ⟨waiting_14, F, hk⟩ := eI F hk
  have ⟨t117, F, hk⟩ := eI F hk
  exact ⟨(waiting_14, t117), F, hk⟩)
  (fun Kn5 => []) (fun Kn5 => [])
  (fun Kn5 => trivial)
  (fun Kn5 => trivial) (fun e s h Kn5 => by as_aux_lemma => kernel_rfl)⟩, trivial⟩ (by as_aux_lemma => kernel_rfl) hk
/-! ### (*intrusion/intrusionref30.Session).Feed -/
def ref30_Session_Feed_b3 (p_0 : Option Addr) (dir_1 : Int) (out_7a : Option Addr) (out_7n out_7c : Nat) (Q : QT) (Kn1 : (Option Addr) × Nat × Nat → Heap → Prop) (h : Heap) : Prop :=
 CallT Tryd.prog fn_ref30_Session_can #[.pointer p_0, .int .i64 1] h fun v h6 => ∃ t45 : Bool, v = .bool t45 ∧ if t45 = true then (CallT Tryd.prog fn_ref30_Session_read #[.pointer p_0, .int .i64 1] h6 fun v h7 => ∃ t48a : Option Addr, ∃ t48n : Nat, ∃ t48c : Nat, v = .slice t48a t48n t48c ∧ bltV Tryd.prog .append #[T_sl_api_SmtpEvent, T_sl_api_SmtpEvent] T_sl_api_SmtpEvent #[false, false] #[.slice out_7a out_7n out_7c, .slice t48a t48n t48c] h7 fun v h8 => ∃ t49a : Option Addr, ∃ t49n : Nat, ∃ t49c : Nat, v = .slice t49a t49n t49c ∧ Kn1 (t49a, t49n, t49c) h8) else (CallT Tryd.prog fn_ref30_Session_read #[.pointer p_0, .int .i64 2] h6 fun v h9 => ∃ t52a : Option Addr, ∃ t52n : Nat, ∃ t52c : Nat, v = .slice t52a t52n t52c ∧ bltV Tryd.prog .append #[T_sl_api_SmtpEvent, T_sl_api_SmtpEvent] T_sl_api_SmtpEvent #[false, false] #[.slice out_7a out_7n out_7c, .slice t52a t52n t52c] h9 fun v h10 => ∃ t53a : Option Addr, ∃ t53n : Nat, ∃ t53c : Nat, v = .slice t53a t53n t53c ∧ Kn1 (t53a, t53n, t53c) h10)
def ref30_Session_Feed_b2 (p_0 : Option Addr) (dir_1 : Int) (out_7a : Option Addr) (out_7n out_7c : Nat) (Q : QT) (h : Heap) : Prop :=
 nn p_0 fun t55 => ldB h (Addr.add t55 15) fun t57 => if (!t57) = true then (nn p_0 fun t62 => idxA dir_1 3 (ldB h (Addr.add (Addr.add t62 6) ((dir_1).toNat * 1)) fun t65 => if (!t65) = true then (CallT Tryd.prog fn_ref30_Session_waiting #[.pointer p_0, .int .i64 dir_1] h fun v h11 => ∃ t71 : Int, v = .int .i64 t71 ∧ if (decide (t71 > 8192)) = true then (CallT Tryd.prog fn_ref30_Session_fail #[.pointer p_0, .int .i64 dir_1] h11 fun v h12 => ∃ t77a : Option Addr, ∃ t77n : Nat, ∃ t77c : Nat, v = .slice t77a t77n t77c ∧ bltV Tryd.prog .append #[T_sl_api_SmtpEvent, T_sl_api_SmtpEvent] T_sl_api_SmtpEvent #[false, false] #[.slice out_7a out_7n out_7c, .slice t77a t77n t77c] h12 fun v h13 => ∃ t78a : Option Addr, ∃ t78n : Nat, ∃ t78c : Nat, v = .slice t78a t78n t78c ∧ Q (.slice t78a t78n t78c) h13) else (Q (.slice out_7a out_7n out_7c) h11)) else (Q (.slice out_7a out_7n out_7c) h))) else (Q (.slice out_7a out_7n out_7c) h)
def ref30_Session_Feed_l1 (p_0 : Option Addr) (dir_1 : Int) (Q : QT) (out_7a : Option Addr) (out_7n out_7c : Nat) (h : Heap) (Kn1 : (Option Addr) × Nat × Nat → Heap → Prop) : Prop :=
 CallT Tryd.prog fn_ref30_Session_can #[.pointer p_0, .int .i64 1] h fun v h4 => ∃ t39 : Bool, v = .bool t39 ∧ if t39 = true then (ref30_Session_Feed_b3 p_0 dir_1 out_7a out_7n out_7c Q Kn1 h4) else (CallT Tryd.prog fn_ref30_Session_can #[.pointer p_0, .int .i64 2] h4 fun v h5 => ∃ t42 : Bool, v = .bool t42 ∧ if t42 = true then (ref30_Session_Feed_b3 p_0 dir_1 out_7a out_7n out_7c Q Kn1 h5) else (ref30_Session_Feed_b2 p_0 dir_1 out_7a out_7n out_7c Q h5))
def ref30_Session_Feed_b4 (p_0 : Option Addr) (dir_1 : Int) (s_2 : ByteArray) (Q : QT) (h : Heap) : Prop :=
 nn p_0 fun t22 => idxA dir_1 3 (ldL h (Addr.add (Addr.add t22 3) ((dir_1).toNat * 1)) fun t25a t25n t25c => nn p_0 fun t28 => idxA dir_1 3 (ldP h (Addr.add t28 ((dir_1).toNat * 1)) fun t31 => nn p_0 fun t35 => CallT Tryd.prog fn_ref25_Splitter_Feed #[.pointer t31, .string s_2] h fun v h1 => ∃ t33a : Option Addr, ∃ t33n : Nat, ∃ t33c : Nat, v = .slice t33a t33n t33c ∧ (ldL h1 (Addr.add (Addr.add t22 3) ((dir_1).toNat * 1)) fun t925a t925n t925c => (.slice t925a t925n t925c : Value) = .slice t25a t25n t25c) ∧ bltV Tryd.prog .append #[T_sl_api_Line, T_sl_api_Line] T_sl_api_Line #[false, false] #[.slice t25a t25n t25c, .slice t33a t33n t33c] h1 fun v h2 => ∃ t34a : Option Addr, ∃ t34n : Nat, ∃ t34c : Nat, v = .slice t34a t34n t34c ∧ idxA dir_1 3 (st1 h2 (Addr.add (Addr.add t35 3) ((dir_1).toNat * 1)) (.slice t34a t34n t34c) fun h3 => LoopV (fun (s : (Option Addr) × Nat × Nat) h Kn => ref30_Session_Feed_l1 p_0 dir_1 Q s.1 s.2.1 s.2.2 h Kn) (none, 0, 0) h3)))
def ref30_Session_Feed_v (p_0 : Option Addr) (dir_1 : Int) (s_2 : ByteArray) (Q : QT) (h : Heap) : Prop :=
 if (Option.isNone p_0) = true then (Q (.slice none 0 0) h) else (if (dir_1 != 1) = true then (if (dir_1 != 2) = true then (Q (.slice none 0 0) h) else (ref30_Session_Feed_b4 p_0 dir_1 s_2 Q h)) else (ref30_Session_Feed_b4 p_0 dir_1 s_2 Q h))
set_option maxRecDepth 100000 in
theorem ref30_Session_Feed_s (p_0 : Option Addr) (dir_1 : Int) (s_2 : ByteArray) {Q : QT} {h : Heap} (hk : ref30_Session_Feed_v p_0 dir_1 s_2 Q h) : CallT Tryd.prog fn_ref30_Session_Feed #[.pointer p_0, .int .i64 dir_1, .string s_2] h Q :=
 callU follows Tryd.func15 (Tryd.call15 _) rfl rfl [(8, fun e h => dP (e 0) fun p_0 => dI .i64 (e 1) fun dir_1 => dS (e 2) fun s_2 => ref30_Session_Feed_b4 p_0 dir_1 s_2 Q h), (20, fun e h => dP (e 0) fun p_0 => dI .i64 (e 1) fun dir_1 => dL (e 7) fun out_7a out_7n out_7c => ref30_Session_Feed_b2 p_0 dir_1 out_7a out_7n out_7c Q h)] [(12, fun e h => dP (e 0) fun p_0 => dI .i64 (e 1) fun dir_1 => dL (e 7) fun out_7a out_7n out_7c => LoopV (fun (s : (Option Addr) × Nat × Nat) h Kn => ref30_Session_Feed_l1 p_0 dir_1 Q s.1 s.2.1 s.2.2 h Kn) (out_7a, out_7n, out_7c) h)]
 ⟨fun e h _ hk => by
 have F := Ag.nil (e := e)
 have ⟨p_0, F, hk⟩ := eP F hk
 have ⟨dir_1, F, hk⟩ := eI F hk
 have ⟨s_2, F, hk⟩ := eS F hk
 exact cutU F (by as_aux_lemma => kernel_rfl) hk, fun e h _ hk => by
 have F := Ag.nil (e := e)
 have ⟨p_0, F, hk⟩ := eP F hk
 have ⟨dir_1, F, hk⟩ := eI F hk
 have ⟨out_7a, out_7n, out_7c, F, hk⟩ := eL F hk
 exact cutU F (by as_aux_lemma => kernel_rfl) hk, trivial⟩
 ⟨⟨by kernel_rfl, fun e h he hk => by
 have F := Ag.nil (e := e)
 have ⟨p_0, F, hk⟩ := eP F hk
 have ⟨dir_1, F, hk⟩ := eI F hk
 have ⟨out_7a, out_7n, out_7c, F, hk⟩ := eL F hk
 exact loopU (s0 := (out_7a, out_7n, out_7c)) follows (fun _ h => by cases h) he F (fun s => [(7, .slice s.1 s.2.1 s.2.2)]) (by kernel_rfl) (F.take 1) hk (fun Kn1 e h => dL (e 7) fun out_7a out_7n out_7c => Kn1 (out_7a, out_7n, out_7c) h) (fun Kn1 e h hk => by
  have F := Ag.nil (e := e)
  have ⟨out_7a, out_7n, out_7c, F, hk⟩ := eL F hk
  exact ⟨(out_7a, out_7n, out_7c), F, hk⟩)
  (fun Kn1 => [(14, fun e h => dP (e 0) fun p_0 => dI .i64 (e 1) fun dir_1 => dL (e 7) fun out_7a out_7n out_7c => ref30_Session_Feed_b3 p_0 dir_1 out_7a out_7n out_7c Q Kn1 h)]) (fun Kn1 => [])
  (fun Kn1 => ⟨fun e h _ hk => by
 have F := Ag.nil (e := e)
 have ⟨p_0, F, hk⟩ := eP F hk
 have ⟨dir_1, F, hk⟩ := eI F hk
 have ⟨out_7a, out_7n, out_7c, F, hk⟩ := eL F hk
 exact cutU F (by as_aux_lemma => kernel_rfl) hk, trivial⟩)
  (fun Kn1 => trivial) (fun e s h Kn1 => by as_aux_lemma => kernel_rfl)⟩, trivial⟩ (by as_aux_lemma => kernel_rfl) hk
/-! ### (*intrusion/smtp.Session).Opaque -/
def smtp_Session_Opaque_v (p_0 : Option Addr) (Q : QT) (h : Heap) : Prop :=
 if (!(Option.isNone p_0)) = true then (nn p_0 fun t7 => ldB h (Addr.add t7 5) fun t9 => Q (.bool t9) h) else (Q (.bool false) h)
set_option maxRecDepth 100000 in
theorem smtp_Session_Opaque_s (p_0 : Option Addr) {Q : QT} {h : Heap} (hk : smtp_Session_Opaque_v p_0 Q h) : CallT Tryd.prog fn_smtp_Session_Opaque #[.pointer p_0] h Q :=
 callU follows Tryd.func16 (Tryd.call16 _) rfl rfl [] []
 trivial
 trivial (by as_aux_lemma => kernel_rfl) hk
/-! ### (*intrusion/intrusionref30.Session).Opaque -/
def ref30_Session_Opaque_v (p_0 : Option Addr) (Q : QT) (h : Heap) : Prop :=
 if (!(Option.isNone p_0)) = true then (nn p_0 fun t7 => ldB h (Addr.add t7 15) fun t9 => Q (.bool t9) h) else (Q (.bool false) h)
set_option maxRecDepth 100000 in
theorem ref30_Session_Opaque_s (p_0 : Option Addr) {Q : QT} {h : Heap} (hk : ref30_Session_Opaque_v p_0 Q h) : CallT Tryd.prog fn_ref30_Session_Opaque #[.pointer p_0] h Q :=
 callU follows Tryd.func17 (Tryd.call17 _) rfl rfl [] []
 trivial
 trivial (by as_aux_lemma => kernel_rfl) hk
/-! ### intrusion/smtp.Of -/
def smtp_Of_l1 (dir_1 : Int) (t8a : Option Addr) (t8n t8c : Nat) (t9 : Int) (Q : QT) (out_5a : Option Addr) (out_5n out_5c : Nat) (t10 : Int) (h : Heap) (Kn1 : (Option Addr) × Nat × Nat × Int → Heap → Prop) : Prop :=
 if (decide (t10 < t9)) = true then (idxA t10 t8n (nn t8a fun t12 => ldI h (Addr.add t12 ((t10).toNat * 4)) .i64 fun t13_0 => ldI h (Addr.add (Addr.add t12 ((t10).toNat * 4)) 1) .i64 fun t13_1 => ldS h (Addr.add (Addr.add t12 ((t10).toNat * 4)) 2) fun t13_2 => ldS h (Addr.add (Addr.add t12 ((t10).toNat * 4)) 3) fun t13_3 => alV h (.cells #[.int .i64 0, .int .i64 0, .string (⟨#[]⟩ : ByteArray), .string (⟨#[]⟩ : ByteArray)] T_api_SmtpEvent) fun t7 h1 => stN h1 t7 [.int .i64 t13_0, .int .i64 t13_1, .string t13_2, .string t13_3] 0 fun h2 => ldI h2 (Addr.add t7 1) .i64 fun t15 => if (t15 == dir_1) = true then (ldI h2 t7 .i64 fun t19_0 => ldI h2 (Addr.add t7 1) .i64 fun t19_1 => ldS h2 (Addr.add t7 2) fun t19_2 => ldS h2 (Addr.add t7 3) fun t19_3 => alV h2 (.cells #[.int .i64 t19_0, .int .i64 t19_1, .string t19_2, .string t19_3] T_api_SmtpEvent) fun t20 h3 => bltV Tryd.prog .append #[T_sl_api_SmtpEvent, T_sl_api_SmtpEvent] T_sl_api_SmtpEvent #[false, false] #[.slice out_5a out_5n out_5c, .slice (some t20) 1 1] h3 fun v h4 => ∃ t21a : Option Addr, ∃ t21n : Nat, ∃ t21c : Nat, v = .slice t21a t21n t21c ∧ Kn1 (t21a, t21n, t21c, wrap .i64 (t10 + 1)) h4) else (Kn1 (out_5a, out_5n, out_5c, wrap .i64 (t10 + 1)) h2))) else (Q (.slice out_5a out_5n out_5c) h)
def smtp_Of_v (l_0a : Option Addr) (l_0n l_0c : Nat) (dir_1 : Int) (Q : QT) (h : Heap) : Prop :=
 LoopV (fun (s : (Option Addr) × Nat × Nat × Int) h Kn => smtp_Of_l1 dir_1 l_0a l_0n l_0c ((l_0n : Nat) : Int) Q s.1 s.2.1 s.2.2.1 s.2.2.2 h Kn) (none, 0, 0, 0) h
set_option maxRecDepth 100000 in
theorem smtp_Of_s (l_0a : Option Addr) (l_0n l_0c : Nat) (dir_1 : Int) {Q : QT} {h : Heap} (hk : smtp_Of_v l_0a l_0n l_0c dir_1 Q h) : CallT Tryd.prog fn_smtp_Of #[.slice l_0a l_0n l_0c, .int .i64 dir_1] h Q :=
 callU follows Tryd.func18 (Tryd.call18 _) rfl rfl [] [(8, fun e h => dI .i64 (e 1) fun dir_1 => dL (e 8) fun t8a t8n t8c => dI .i64 (e 9) fun t9 => dL (e 5) fun out_5a out_5n out_5c => dI .i64 (e 10) fun t10 => LoopV (fun (s : (Option Addr) × Nat × Nat × Int) h Kn => smtp_Of_l1 dir_1 t8a t8n t8c t9 Q s.1 s.2.1 s.2.2.1 s.2.2.2 h Kn) (out_5a, out_5n, out_5c, t10) h)]
 trivial
 ⟨⟨by kernel_rfl, fun e h he hk => by
 have F := Ag.nil (e := e)
 have ⟨dir_1, F, hk⟩ := eI F hk
 have ⟨t8a, t8n, t8c, F, hk⟩ := eL F hk
 have ⟨t9, F, hk⟩ := eI F hk
 have ⟨out_5a, out_5n, out_5c, F, hk⟩ := eL F hk
 have ⟨t10, F, hk⟩ := eI F hk
 exact loopU (s0 := (out_5a, out_5n, out_5c, t10)) follows (fun _ h => by cases h) he F (fun s => [(10, .int .i64 s.2.2.2), (5, .slice s.1 s.2.1 s.2.2.1)]) (by kernel_rfl) (F.take 2) hk (fun Kn1 e h => dL (e 5) fun out_5a out_5n out_5c => dI .i64 (e 10) fun t10 => Kn1 (out_5a, out_5n, out_5c, t10) h) (fun Kn1 e h hk => by
  have F := Ag.nil (e := e)
  have ⟨out_5a, out_5n, out_5c, F, hk⟩ := eL F hk
  have ⟨t10, F, hk⟩ := eI F hk
  exact ⟨(out_5a, out_5n, out_5c, t10), F, hk⟩)
  (fun Kn1 => []) (fun Kn1 => [])
  (fun Kn1 => trivial)
  (fun Kn1 => trivial) (fun e s h Kn1 => by as_aux_lemma => kernel_rfl)⟩, trivial⟩ (by as_aux_lemma => kernel_rfl) hk
/-! ### intrusion/intrusionref30.Of -/
def ref30_Of_l1 (l_0a : Option Addr) (l_0n l_0c : Nat) (dir_1 : Int) (Q : QT) (out_5a : Option Addr) (out_5n out_5c : Nat) (i_6 : Int) (h : Heap) (Kn1 : (Option Addr) × Nat × Nat × Int → Heap → Prop) : Prop :=
 if (decide (i_6 < ((l_0n : Nat) : Int))) = true then (idxA i_6 l_0n (nn l_0a fun t15 => ldI h (Addr.add (Addr.add t15 ((i_6).toNat * 4)) 1) .i64 fun t17 => if (t17 == dir_1) = true then (idxA i_6 l_0n (nn l_0a fun t23 => ldI h (Addr.add t23 ((i_6).toNat * 4)) .i64 fun t24_0 => ldI h (Addr.add (Addr.add t23 ((i_6).toNat * 4)) 1) .i64 fun t24_1 => ldS h (Addr.add (Addr.add t23 ((i_6).toNat * 4)) 2) fun t24_2 => ldS h (Addr.add (Addr.add t23 ((i_6).toNat * 4)) 3) fun t24_3 => alV h (.cells #[.int .i64 t24_0, .int .i64 t24_1, .string t24_2, .string t24_3] T_api_SmtpEvent) fun t25 h1 => bltV Tryd.prog .append #[T_sl_api_SmtpEvent, T_sl_api_SmtpEvent] T_sl_api_SmtpEvent #[false, false] #[.slice out_5a out_5n out_5c, .slice (some t25) 1 1] h1 fun v h2 => ∃ t26a : Option Addr, ∃ t26n : Nat, ∃ t26c : Nat, v = .slice t26a t26n t26c ∧ Kn1 (t26a, t26n, t26c, wrap .i64 (i_6 + 1)) h2)) else (Kn1 (out_5a, out_5n, out_5c, wrap .i64 (i_6 + 1)) h))) else (Q (.slice out_5a out_5n out_5c) h)
def ref30_Of_v (l_0a : Option Addr) (l_0n l_0c : Nat) (dir_1 : Int) (Q : QT) (h : Heap) : Prop :=
 LoopV (fun (s : (Option Addr) × Nat × Nat × Int) h Kn => ref30_Of_l1 l_0a l_0n l_0c dir_1 Q s.1 s.2.1 s.2.2.1 s.2.2.2 h Kn) (none, 0, 0, 0) h
set_option maxRecDepth 100000 in
theorem ref30_Of_s (l_0a : Option Addr) (l_0n l_0c : Nat) (dir_1 : Int) {Q : QT} {h : Heap} (hk : ref30_Of_v l_0a l_0n l_0c dir_1 Q h) : CallT Tryd.prog fn_ref30_Of #[.slice l_0a l_0n l_0c, .int .i64 dir_1] h Q :=
 callU follows Tryd.func19 (Tryd.call19 _) rfl rfl [] [(8, fun e h => dL (e 0) fun l_0a l_0n l_0c => dI .i64 (e 1) fun dir_1 => dL (e 5) fun out_5a out_5n out_5c => dI .i64 (e 6) fun i_6 => LoopV (fun (s : (Option Addr) × Nat × Nat × Int) h Kn => ref30_Of_l1 l_0a l_0n l_0c dir_1 Q s.1 s.2.1 s.2.2.1 s.2.2.2 h Kn) (out_5a, out_5n, out_5c, i_6) h)]
 trivial
 ⟨⟨by kernel_rfl, fun e h he hk => by
 have F := Ag.nil (e := e)
 have ⟨l_0a, l_0n, l_0c, F, hk⟩ := eL F hk
 have ⟨dir_1, F, hk⟩ := eI F hk
 have ⟨out_5a, out_5n, out_5c, F, hk⟩ := eL F hk
 have ⟨i_6, F, hk⟩ := eI F hk
 exact loopU (s0 := (out_5a, out_5n, out_5c, i_6)) follows (fun _ h => by cases h) he F (fun s => [(6, .int .i64 s.2.2.2), (5, .slice s.1 s.2.1 s.2.2.1)]) (by kernel_rfl) (F.take 2) hk (fun Kn1 e h => dL (e 5) fun out_5a out_5n out_5c => dI .i64 (e 6) fun i_6 => Kn1 (out_5a, out_5n, out_5c, i_6) h) (fun Kn1 e h hk => by
  have F := Ag.nil (e := e)
  have ⟨out_5a, out_5n, out_5c, F, hk⟩ := eL F hk
  have ⟨i_6, F, hk⟩ := eI F hk
  exact ⟨(out_5a, out_5n, out_5c, i_6), F, hk⟩)
  (fun Kn1 => []) (fun Kn1 => [])
  (fun Kn1 => trivial)
  (fun Kn1 => trivial) (fun e s h Kn1 => by as_aux_lemma => kernel_rfl)⟩, trivial⟩ (by as_aux_lemma => kernel_rfl) hk
/-! ### intrusion/smtp.Mail -/
def smtp_Mail_b2 (b_3 : Addr) (s_5 : ByteArray) (t6a : Option Addr) (t6n t6c : Nat) (t7 t8 : Int) (Q : QT) (Kn1 : Int → Heap → Prop) (h : Heap) : Prop :=
 ((s_5.size + (⟨#[13, 10]⟩ : ByteArray).size : Nat) : Int) ≤ IntKind.max .i64 ∧ CallT Tryd.prog fn_strings_Builder_WriteString #[.pointer (some b_3), .string (s_5 ++ (⟨#[13, 10]⟩ : ByteArray))] h fun v h4 => ∃ t17_0 : Int, ∃ t17_1 : Value, v = .tuple #[.int .i64 t17_0, t17_1] ∧ Kn1 (wrap .i64 (t8 + 1)) h4
def smtp_Mail_b3 (b_3 : Addr) (Q : QT) (h : Heap) : Prop :=
 CallT Tryd.prog fn_strings_Builder_String #[.pointer (some b_3)] h fun v h5 => ∃ t19 : ByteArray, v = .string t19 ∧ ((t19.size + (⟨#[46, 13, 10]⟩ : ByteArray).size : Nat) : Int) ≤ IntKind.max .i64 ∧ Q (.string (t19 ++ (⟨#[46, 13, 10]⟩ : ByteArray))) h5
def smtp_Mail_l1 (b_3 : Addr) (t6a : Option Addr) (t6n t6c : Nat) (t7 : Int) (Q : QT) (t8 : Int) (h : Heap) (Kn1 : Int → Heap → Prop) : Prop :=
 if (decide (t8 < t7)) = true then (idxA t8 t6n (nn t6a fun t10 => ldS h (Addr.add t10 ((t8).toNat * 1)) fun t11 => CallT Tryd.prog fn_strings_HasPrefix #[.string t11, .string (⟨#[46]⟩ : ByteArray)] h fun v h2 => ∃ t13 : Bool, v = .bool t13 ∧ if t13 = true then (CallT Tryd.prog fn_strings_Builder_WriteString #[.pointer (some b_3), .string (⟨#[46]⟩ : ByteArray)] h2 fun v h3 => ∃ t14_0 : Int, ∃ t14_1 : Value, v = .tuple #[.int .i64 t14_0, t14_1] ∧ smtp_Mail_b2 b_3 t11 t6a t6n t6c t7 t8 Q Kn1 h3) else (smtp_Mail_b2 b_3 t11 t6a t6n t6c t7 t8 Q Kn1 h2))) else (smtp_Mail_b3 b_3 Q h)
def smtp_Mail_v (l_0a : Option Addr) (l_0n l_0c : Nat) (Q : QT) (h : Heap) : Prop :=
 alV h (.cells #[.pointer none, .slice none 0 0] T_strings_Builder) fun t3 h1 => LoopV (fun (s : Int) h Kn => smtp_Mail_l1 t3 l_0a l_0n l_0c ((l_0n : Nat) : Int) Q s h Kn) 0 h1
set_option maxRecDepth 100000 in
theorem smtp_Mail_s (l_0a : Option Addr) (l_0n l_0c : Nat) {Q : QT} {h : Heap} (hk : smtp_Mail_v l_0a l_0n l_0c Q h) : CallT Tryd.prog fn_smtp_Mail #[.slice l_0a l_0n l_0c] h Q :=
 callU follows Tryd.func20 (Tryd.call20 _) rfl rfl [(20, fun e h => dA (e 3) fun b_3 => smtp_Mail_b3 b_3 Q h)] [(8, fun e h => dA (e 3) fun b_3 => dL (e 6) fun t6a t6n t6c => dI .i64 (e 7) fun t7 => dI .i64 (e 8) fun t8 => LoopV (fun (s : Int) h Kn => smtp_Mail_l1 b_3 t6a t6n t6c t7 Q s h Kn) t8 h)]
 ⟨fun e h _ hk => by
 have F := Ag.nil (e := e)
 have ⟨b_3, F, hk⟩ := eA F hk
 exact cutU F (by as_aux_lemma => kernel_rfl) hk, trivial⟩
 ⟨⟨by kernel_rfl, fun e h he hk => by
 have F := Ag.nil (e := e)
 have ⟨b_3, F, hk⟩ := eA F hk
 have ⟨t6a, t6n, t6c, F, hk⟩ := eL F hk
 have ⟨t7, F, hk⟩ := eI F hk
 have ⟨t8, F, hk⟩ := eI F hk
 exact loopU (s0 := t8) follows (fun _ h => by cases h) he F (fun s => [(8, .int .i64 s)]) (by kernel_rfl) (F.take 1) hk (fun Kn1 e h => dI .i64 (e 8) fun t8 => Kn1 t8 h) (fun Kn1 e h hk => by
  have F := Ag.nil (e := e)
  have ⟨t8, F, hk⟩ := eI F hk
  exact ⟨t8, F, hk⟩)
  (fun Kn1 => [(16, fun e h => dA (e 3) fun b_3 => dS (e 5) fun s_5 => dL (e 6) fun t6a t6n t6c => dI .i64 (e 7) fun t7 => dI .i64 (e 8) fun t8 => smtp_Mail_b2 b_3 s_5 t6a t6n t6c t7 t8 Q Kn1 h)]) (fun Kn1 => [])
  (fun Kn1 => ⟨fun e h _ hk => by
 have F := Ag.nil (e := e)
 have ⟨b_3, F, hk⟩ := eA F hk
 have ⟨s_5, F, hk⟩ := eS F hk
 have ⟨t6a, t6n, t6c, F, hk⟩ := eL F hk
 have ⟨t7, F, hk⟩ := eI F hk
 have ⟨t8, F, hk⟩ := eI F hk
 exact cutU F (by as_aux_lemma => kernel_rfl) hk, trivial⟩)
  (fun Kn1 => trivial) (fun e s h Kn1 => by as_aux_lemma => kernel_rfl)⟩, trivial⟩ (by as_aux_lemma => kernel_rfl) hk
/-! ### intrusion/intrusionref30.Mail -/
def ref30_Mail_b2 (l_0a : Option Addr) (l_0n l_0c : Nat) (s_3 : ByteArray) (i_4 : Int) (Q : QT) (Kn1 : ByteArray × Int → Heap → Prop) (h : Heap) : Prop :=
 idxA i_4 l_0n (nn l_0a fun t29 => ldS h (Addr.add t29 ((i_4).toNat * 1)) fun t30 => ((t30.size + (⟨#[13, 10]⟩ : ByteArray).size : Nat) : Int) ≤ IntKind.max .i64 ∧ ((s_3.size + (t30 ++ (⟨#[13, 10]⟩ : ByteArray)).size : Nat) : Int) ≤ IntKind.max .i64 ∧ Kn1 (s_3 ++ (t30 ++ (⟨#[13, 10]⟩ : ByteArray)), wrap .i64 (i_4 + 1)) h)
def ref30_Mail_l1 (l_0a : Option Addr) (l_0n l_0c : Nat) (Q : QT) (s_3 : ByteArray) (i_4 : Int) (h : Heap) (Kn1 : ByteArray × Int → Heap → Prop) : Prop :=
 if (decide (i_4 < ((l_0n : Nat) : Int))) = true then (idxA i_4 l_0n (nn l_0a fun t13 => ldS h (Addr.add t13 ((i_4).toNat * 1)) fun t14 => if (!(t14.toList == (⟨#[]⟩ : ByteArray).toList)) = true then (idxA i_4 l_0n (nn l_0a fun t19 => ldS h (Addr.add t19 ((i_4).toNat * 1)) fun t20 => idxS t20 (0 : Int) fun t21 => if (t21 == 46) = true then (((s_3.size + (⟨#[46]⟩ : ByteArray).size : Nat) : Int) ≤ IntKind.max .i64 ∧ ref30_Mail_b2 l_0a l_0n l_0c (s_3 ++ (⟨#[46]⟩ : ByteArray)) i_4 Q Kn1 h) else (ref30_Mail_b2 l_0a l_0n l_0c s_3 i_4 Q Kn1 h))) else (ref30_Mail_b2 l_0a l_0n l_0c s_3 i_4 Q Kn1 h))) else (((s_3.size + (⟨#[46, 13, 10]⟩ : ByteArray).size : Nat) : Int) ≤ IntKind.max .i64 ∧ Q (.string (s_3 ++ (⟨#[46, 13, 10]⟩ : ByteArray))) h)
def ref30_Mail_v (l_0a : Option Addr) (l_0n l_0c : Nat) (Q : QT) (h : Heap) : Prop :=
 LoopV (fun (s : ByteArray × Int) h Kn => ref30_Mail_l1 l_0a l_0n l_0c Q s.1 s.2 h Kn) ((⟨#[]⟩ : ByteArray), 0) h
set_option maxRecDepth 100000 in
theorem ref30_Mail_s (l_0a : Option Addr) (l_0n l_0c : Nat) {Q : QT} {h : Heap} (hk : ref30_Mail_v l_0a l_0n l_0c Q h) : CallT Tryd.prog fn_ref30_Mail #[.slice l_0a l_0n l_0c] h Q :=
 callU follows Tryd.func21 (Tryd.call21 _) rfl rfl [] [(8, fun e h => dL (e 0) fun l_0a l_0n l_0c => dS (e 3) fun s_3 => dI .i64 (e 4) fun i_4 => LoopV (fun (s : ByteArray × Int) h Kn => ref30_Mail_l1 l_0a l_0n l_0c Q s.1 s.2 h Kn) (s_3, i_4) h)]
 trivial
 ⟨⟨by kernel_rfl, fun e h he hk => by
 have F := Ag.nil (e := e)
 have ⟨l_0a, l_0n, l_0c, F, hk⟩ := eL F hk
 have ⟨s_3, F, hk⟩ := eS F hk
 have ⟨i_4, F, hk⟩ := eI F hk
 exact loopU (s0 := (s_3, i_4)) follows (fun _ h => by cases h) he F (fun s => [(4, .int .i64 s.2), (3, .string s.1)]) (by kernel_rfl) (F.take 2) hk (fun Kn1 e h => dS (e 3) fun s_3 => dI .i64 (e 4) fun i_4 => Kn1 (s_3, i_4) h) (fun Kn1 e h hk => by
  have F := Ag.nil (e := e)
  have ⟨s_3, F, hk⟩ := eS F hk
  have ⟨i_4, F, hk⟩ := eI F hk
  exact ⟨(s_3, i_4), F, hk⟩)
  (fun Kn1 => [(16, fun e h => dL (e 0) fun l_0a l_0n l_0c => dS (e 3) fun s_3 => dI .i64 (e 4) fun i_4 => ref30_Mail_b2 l_0a l_0n l_0c s_3 i_4 Q Kn1 h)]) (fun Kn1 => [])
  (fun Kn1 => ⟨fun e h _ hk => by
 have F := Ag.nil (e := e)
 have ⟨l_0a, l_0n, l_0c, F, hk⟩ := eL F hk
 have ⟨s_3, F, hk⟩ := eS F hk
 have ⟨i_4, F, hk⟩ := eI F hk
 exact cutU F (by as_aux_lemma => kernel_rfl) hk, trivial⟩)
  (fun Kn1 => trivial) (fun e s h Kn1 => by as_aux_lemma => kernel_rfl)⟩, trivial⟩ (by as_aux_lemma => kernel_rfl) hk
/-! ### intrusion/lines.New -/
def lines_New_v (max_0 : Int) (Q : QT) (h : Heap) : Prop :=
 CallT Tryd.prog fn_lines_bound #[.int .i64 max_0] h fun v h1 => ∃ t4 : Int, v = .int .i64 t4 ∧ alV h1 (.cells #[.int .i64 t4, .slice none 0 0, .int .i64 0, .bool false] T_lines_Splitter) fun t6 h2 => Q (.pointer (some t6)) h2
set_option maxRecDepth 100000 in
theorem lines_New_s (max_0 : Int) {Q : QT} {h : Heap} (hk : lines_New_v max_0 Q h) : CallT Tryd.prog fn_lines_New #[.int .i64 max_0] h Q :=
 callU follows Tryd.func22 (Tryd.call22 _) rfl rfl [] []
 trivial
 trivial (by as_aux_lemma => kernel_rfl) hk
/-! ### intrusion/intrusionref25.New -/
def ref25_New_b2 (max_0 : Int) (Q : QT) (h : Heap) : Prop :=
 alV h (.cells #[.int .i64 max_0, .string (⟨#[]⟩ : ByteArray)] T_intrusionref25_Splitter) fun t9 h1 => Q (.pointer (some t9)) h1
def ref25_New_b1 (max_0 : Int) (Q : QT) (h : Heap) : Prop :=
 if (decide (max_0 > 512)) = true then (ref25_New_b2 512 Q h) else (ref25_New_b2 max_0 Q h)
def ref25_New_v (max_0 : Int) (Q : QT) (h : Heap) : Prop :=
 if (decide (max_0 < 1)) = true then (ref25_New_b1 1 Q h) else (ref25_New_b1 max_0 Q h)
set_option maxRecDepth 100000 in
theorem ref25_New_s (max_0 : Int) {Q : QT} {h : Heap} (hk : ref25_New_v max_0 Q h) : CallT Tryd.prog fn_ref25_New #[.int .i64 max_0] h Q :=
 callU follows Tryd.func23 (Tryd.call23 _) rfl rfl [(8, fun e h => dI .i64 (e 0) fun max_0 => ref25_New_b1 max_0 Q h), (12, fun e h => dI .i64 (e 0) fun max_0 => ref25_New_b2 max_0 Q h)] []
 ⟨fun e h _ hk => by
 have F := Ag.nil (e := e)
 have ⟨max_0, F, hk⟩ := eI F hk
 exact cutU F (by as_aux_lemma => kernel_rfl) hk, fun e h _ hk => by
 have F := Ag.nil (e := e)
 have ⟨max_0, F, hk⟩ := eI F hk
 exact cutU F (by as_aux_lemma => kernel_rfl) hk, trivial⟩
 trivial (by as_aux_lemma => kernel_rfl) hk
/-! ### (*intrusion/lines.Splitter).Feed -/
def lines_Splitter_Feed_b2 (p_2 s_3 out_5 : Addr) (Q : QT) (h : Heap) : Prop :=
 ldP h p_2 fun t12 => ldS h s_3 fun t13 => CallT Tryd.prog fn_lines_Splitter_append #[.pointer t12, .string t13] h fun v h5 => v = .tuple #[] ∧ ldL h5 out_5 fun t15a t15n t15c => Q (.slice t15a t15n t15c) h5
def lines_Splitter_Feed_l1 (p_2 s_3 out_5 step_6_0 step_6_1 step_6_2 : Addr) (Q : QT) (h : Heap) (Kn1 : Unit → Heap → Prop) : Prop :=
 CallT Tryd.prog fn_lines_Splitter_Feed_1 #[.pointer (some step_6_0), .pointer (some step_6_1), .pointer (some step_6_2)] h fun v h4 => ∃ t11 : Bool, v = .bool t11 ∧ if t11 = true then (Kn1 () h4) else (lines_Splitter_Feed_b2 p_2 s_3 out_5 Q h4)
def lines_Splitter_Feed_v (p_0 : Option Addr) (s_1 : ByteArray) (Q : QT) (h : Heap) : Prop :=
 alV h (.cells #[.pointer p_0] T_p_lines_Splitter) fun t2 h1 => alV h1 (.cells #[.string s_1] T_string) fun t3 h2 => ldP h2 t2 fun t7 => if (Option.isNone t7) = true then (Q (.slice none 0 0) h2) else (alV h2 (.cells #[.slice none 0 0] T_sl_api_Line) fun t5 h3 => LoopV (fun (s : Unit) h Kn => lines_Splitter_Feed_l1 t2 t3 t5 t3 t2 t5 Q h Kn) () h3)
set_option maxRecDepth 100000 in
theorem lines_Splitter_Feed_s (p_0 : Option Addr) (s_1 : ByteArray) {Q : QT} {h : Heap} (hk : lines_Splitter_Feed_v p_0 s_1 Q h) : CallT Tryd.prog fn_lines_Splitter_Feed #[.pointer p_0, .string s_1] h Q :=
 callU follows Tryd.func24 (Tryd.call24 _) rfl rfl [(14, fun e h => dA (e 2) fun p_2 => dA (e 3) fun s_3 => dA (e 5) fun out_5 => lines_Splitter_Feed_b2 p_2 s_3 out_5 Q h)] [(12, fun e h => dA (e 2) fun p_2 => dA (e 3) fun s_3 => dA (e 5) fun out_5 => dF 38 (e 6) fun l6_1 => dC l6_1 fun v6_2 l6_2 => dA v6_2 fun step_6_0 => dC l6_2 fun v6_3 l6_3 => dA v6_3 fun step_6_1 => dC l6_3 fun v6_4 l6_4 => dA v6_4 fun step_6_2 => dE l6_4 (LoopV (fun (s : Unit) h Kn => lines_Splitter_Feed_l1 p_2 s_3 out_5 step_6_0 step_6_1 step_6_2 Q h Kn) () h))]
 ⟨fun e h _ hk => by
 have F := Ag.nil (e := e)
 have ⟨p_2, F, hk⟩ := eA F hk
 have ⟨s_3, F, hk⟩ := eA F hk
 have ⟨out_5, F, hk⟩ := eA F hk
 exact cutU F (by as_aux_lemma => kernel_rfl) hk, trivial⟩
 ⟨⟨by kernel_rfl, fun e h he hk => by
 have F := Ag.nil (e := e)
 have ⟨p_2, F, hk⟩ := eA F hk
 have ⟨s_3, F, hk⟩ := eA F hk
 have ⟨out_5, F, hk⟩ := eA F hk
 obtain ⟨l6_1, F, hk2⟩ := eF F hk; clear hk; have hk := hk2; clear hk2
 obtain ⟨v6_2, l6_2, q, hk2⟩ := dC_elim hk
 clear hk; subst q; have hk := hk2; clear hk2
 obtain ⟨step_6_0, q, hk2⟩ := dA_elim hk
 clear hk; subst q; have hk := hk2; clear hk2
 obtain ⟨v6_3, l6_3, q, hk2⟩ := dC_elim hk
 clear hk; subst q; have hk := hk2; clear hk2
 obtain ⟨step_6_1, q, hk2⟩ := dA_elim hk
 clear hk; subst q; have hk := hk2; clear hk2
 obtain ⟨v6_4, l6_4, q, hk2⟩ := dC_elim hk
 clear hk; subst q; have hk := hk2; clear hk2
 obtain ⟨step_6_2, q, hk2⟩ := dA_elim hk
 clear hk; subst q; have hk := hk2; clear hk2
 obtain ⟨q, hk2⟩ := dE_elim hk
 clear hk; subst q; have hk := hk2; clear hk2
 exact loopU (s0 := ()) follows (fun _ h => by cases h) he F (fun s => []) (by kernel_rfl) (F.take 0) hk (fun Kn1 e h => Kn1 () h) (fun Kn1 e h hk => by
  have F := Ag.nil (e := e)
  exact ⟨(), F, hk⟩)
  (fun Kn1 => []) (fun Kn1 => [])
  (fun Kn1 => trivial)
  (fun Kn1 => trivial) (fun e s h Kn1 => by as_aux_lemma => kernel_rfl)⟩, trivial⟩ (by as_aux_lemma => kernel_rfl) hk
/-! ### (*intrusion/smtp.Session).Feed$1 -/
def smtp_Session_Feed_1_v (kind_0 d_1 : Int) (name_2 text_3 : ByteArray) (t4 : Addr) (Q : QT) (h : Heap) : Prop :=
 ldL h t4 fun t9a t9n t9c => alV h (.cells #[.int .i64 kind_0, .int .i64 d_1, .string name_2, .string text_3] T_api_SmtpEvent) fun t15 h1 => bltV Tryd.prog .append #[T_sl_api_SmtpEvent, T_sl_api_SmtpEvent] T_sl_api_SmtpEvent #[false, false] #[.slice t9a t9n t9c, .slice (some t15) 1 1] h1 fun v h2 => ∃ t16a : Option Addr, ∃ t16n : Nat, ∃ t16c : Nat, v = .slice t16a t16n t16c ∧ st1 h2 t4 (.slice t16a t16n t16c) fun h3 => Q (.tuple #[]) h3
set_option maxRecDepth 100000 in
theorem smtp_Session_Feed_1_s (kind_0 d_1 : Int) (name_2 text_3 : ByteArray) (t4 : Addr) {Q : QT} {h : Heap} (hk : smtp_Session_Feed_1_v kind_0 d_1 name_2 text_3 t4 Q h) : CallT Tryd.prog fn_smtp_Session_Feed_1 #[.int .i64 kind_0, .int .i64 d_1, .string name_2, .string text_3, .pointer (some t4)] h Q :=
 callU follows Tryd.func25 (Tryd.call25 _) rfl rfl [] []
 trivial
 trivial (by as_aux_lemma => kernel_rfl) hk
/-! ### (*intrusion/smtp.Session).readable -/
def smtp_Session_readable_v (p_0 : Option Addr) (dir_1 : Int) (Q : QT) (h : Heap) : Prop :=
 nn p_0 fun t8 => idxA dir_1 3 (ldP h (Addr.add t8 ((dir_1).toNat * 1)) fun t11 => nn t11 fun t13 => ldL h (Addr.add t13 1) fun t15a t15n t15c => if (((t15n : Nat) : Int) == 0) = true then (Q (.bool false) h) else (nn t11 fun t20 => ldB h (Addr.add t20 2) fun t22 => if t22 = true then (Q (.bool false) h) else (nn p_0 fun t26 => ldB h (Addr.add t26 5) fun t28 => if t28 = true then (Q (.bool false) h) else (if (dir_1 == 1) = true then (nn p_0 fun t33 => ldL h (Addr.add t33 3) fun t35a t35n t35c => if (((t35n : Nat) : Int) == 0) = true then (Q (.bool true) h) else (nn p_0 fun t40 => ldL h (Addr.add t40 3) fun t42a t42n t42c => nn p_0 fun t44 => ldL h (Addr.add t44 3) fun t46a t46n t46c => idxA (wrap .i64 (((t46n : Nat) : Int) - 1)) t42n (nn t42a fun t49 => ldV h (Addr.add t49 (((wrap .i64 (((t46n : Nat) : Int) - 1))).toNat * 1)) fun t50 => CallI Tryd.prog t50 "intrusion/smtp.open" #[] h fun v h1 => ∃ t51 : Bool, v = .bool t51 ∧ Q (.bool (!t51)) h1))) else (nn p_0 fun t55 => ldL h (Addr.add t55 8) fun t57a t57n t57c => if (decide (((t57n : Nat) : Int) > 0)) = true then (Q (.bool true) h) else (nn p_0 fun t62 => ldB h (Addr.add t62 4) fun t64 => if (!t64) = true then (Q (.bool true) h) else (nn p_0 fun t69 => ldL h (Addr.add t69 3) fun t71a t71n t71c => Q (.bool (decide (((t71n : Nat) : Int) > 0))) h)))))))
set_option maxRecDepth 100000 in
theorem smtp_Session_readable_s (p_0 : Option Addr) (dir_1 : Int) {Q : QT} {h : Heap} (hk : smtp_Session_readable_v p_0 dir_1 Q h) : CallT Tryd.prog fn_smtp_Session_readable #[.pointer p_0, .int .i64 dir_1] h Q :=
 callU follows Tryd.func26 (Tryd.call26 _) rfl rfl [] []
 trivial
 trivial (by as_aux_lemma => kernel_rfl) hk
/-! ### (*intrusion/smtp.Session).client -/
def smtp_Session_client_b2 (p_0 : Option Addr) (add_2 : Value) (verb_7 text_8 : ByteArray) (Q : QT) (h : Heap) : Prop :=
 CallT Tryd.prog fn_strings_ToUpper #[.string verb_7] h fun v h9 => ∃ t69 : ByteArray, v = .string t69 ∧ CallV Tryd.prog add_2 #[.int .i64 1, .int .i64 1, .string t69, .string text_8] h9 fun v h10 => v = .tuple #[] ∧ nn p_0 fun t76 => ldL h10 (Addr.add t76 3) fun t78a t78n t78c => alV h10 (.cells #[Value.iface 97 (.agg #[.string t69])] T_smtp_item) fun t82 h11 => bltV Tryd.prog .append #[T_sl_smtp_item, T_sl_smtp_item] T_sl_smtp_item #[false, false] #[.slice t78a t78n t78c, .slice (some t82) 1 1] h11 fun v h12 => ∃ t83a : Option Addr, ∃ t83n : Nat, ∃ t83c : Nat, v = .slice t83a t83n t83c ∧ nn p_0 fun t84 => st1 h12 (Addr.add t84 3) (.slice t83a t83n t83c) fun h13 => Q (.bool true) h13
def smtp_Session_client_l1 (p_0 : Option Addr) (add_2 : Value) (verb_7 text_8 : ByteArray) (t53 : Int) (Q : QT) (t54 : Int) (h : Heap) (Kn1 : Int → Heap → Prop) : Prop :=
 if (decide (t54 < t53)) = true then (idxS verb_7 t54 fun t59 => if (decide ((wrap .u8 (BitVec.toNat (BitVec.ofInt (IntKind.bits .u8) t59 ||| BitVec.ofInt (IntKind.bits .u8) 32) : Int)) < 97)) = true then (Q (.bool false) h) else (if (decide ((wrap .u8 (BitVec.toNat (BitVec.ofInt (IntKind.bits .u8) t59 ||| BitVec.ofInt (IntKind.bits .u8) 32) : Int)) > 122)) = true then (Q (.bool false) h) else (Kn1 (wrap .i64 (t54 + 1)) h))) else (smtp_Session_client_b2 p_0 add_2 verb_7 text_8 Q h)
def smtp_Session_client_v (p_0 : Option Addr) (s_1 : ByteArray) (add_2 : Value) (Q : QT) (h : Heap) : Prop :=
 nn p_0 fun t13 => ldB h (Addr.add t13 6) fun t15 => if t15 = true then (if (s_1.toList == (⟨#[46]⟩ : ByteArray).toList) = true then (CallV Tryd.prog add_2 #[.int .i64 4, .int .i64 1, .string (⟨#[]⟩ : ByteArray), .string (⟨#[]⟩ : ByteArray)] h fun v h1 => v = .tuple #[] ∧ nn p_0 fun t26 => st1 h1 (Addr.add t26 6) (.bool false) fun h2 => nn p_0 fun t30 => ldL h2 (Addr.add t30 3) fun t32a t32n t32c => alV h2 (.cells #[Value.iface 91 (.agg #[])] T_smtp_item) fun t35 h3 => bltV Tryd.prog .append #[T_sl_smtp_item, T_sl_smtp_item] T_sl_smtp_item #[false, false] #[.slice t32a t32n t32c, .slice (some t35) 1 1] h3 fun v h4 => ∃ t36a : Option Addr, ∃ t36n : Nat, ∃ t36c : Nat, v = .slice t36a t36n t36c ∧ nn p_0 fun t37 => st1 h4 (Addr.add t37 3) (.slice t36a t36n t36c) fun h5 => Q (.bool true) h5) else (CallT Tryd.prog fn_strings_TrimPrefix #[.string s_1, .string (⟨#[46]⟩ : ByteArray)] h fun v h6 => ∃ t18 : ByteArray, v = .string t18 ∧ CallV Tryd.prog add_2 #[.int .i64 3, .int .i64 1, .string (⟨#[]⟩ : ByteArray), .string t18] h6 fun v h7 => v = .tuple #[] ∧ Q (.bool true) h7)) else (CallT Tryd.prog fn_strings_Cut #[.string s_1, .string (⟨#[32]⟩ : ByteArray)] h fun v h8 => ∃ t41_0 : ByteArray, ∃ t41_1 : ByteArray, ∃ t41_2 : Bool, v = .tuple #[.string t41_0, .string t41_1, .bool t41_2] ∧ if (t41_0.toList == (⟨#[]⟩ : ByteArray).toList) = true then (Q (.bool false) h8) else (if (decide (((t41_0.size : Nat) : Int) > 16)) = true then (Q (.bool false) h8) else (LoopV (fun (s : Int) h Kn => smtp_Session_client_l1 p_0 add_2 t41_0 t41_1 ((t41_0.size : Nat) : Int) Q s h Kn) 0 h8)))
set_option maxRecDepth 100000 in
theorem smtp_Session_client_s (p_0 : Option Addr) (s_1 : ByteArray) (add_2 : Value) {Q : QT} {h : Heap} (hk : smtp_Session_client_v p_0 s_1 add_2 Q h) : CallT Tryd.prog fn_smtp_Session_client #[.pointer p_0, .string s_1, add_2] h Q :=
 callU follows Tryd.func27 (Tryd.call27 _) rfl rfl [(38, fun e h => dP (e 0) fun p_0 => dV (e 2) fun add_2 => dS (e 7) fun verb_7 => dS (e 8) fun text_8 => smtp_Session_client_b2 p_0 add_2 verb_7 text_8 Q h)] [(26, fun e h => dP (e 0) fun p_0 => dV (e 2) fun add_2 => dS (e 7) fun verb_7 => dS (e 8) fun text_8 => dI .i64 (e 53) fun t53 => dI .i64 (e 54) fun t54 => LoopV (fun (s : Int) h Kn => smtp_Session_client_l1 p_0 add_2 verb_7 text_8 t53 Q s h Kn) t54 h)]
 ⟨fun e h _ hk => by
 have F := Ag.nil (e := e)
 have ⟨p_0, F, hk⟩ := eP F hk
 have ⟨add_2, F, hk⟩ := eV F hk
 have ⟨verb_7, F, hk⟩ := eS F hk
 have ⟨text_8, F, hk⟩ := eS F hk
 exact cutU F (by as_aux_lemma => kernel_rfl) hk, trivial⟩
 ⟨⟨by kernel_rfl, fun e h he hk => by
 have F := Ag.nil (e := e)
 have ⟨p_0, F, hk⟩ := eP F hk
 have ⟨add_2, F, hk⟩ := eV F hk
 have ⟨verb_7, F, hk⟩ := eS F hk
 have ⟨text_8, F, hk⟩ := eS F hk
 have ⟨t53, F, hk⟩ := eI F hk
 have ⟨t54, F, hk⟩ := eI F hk
 exact loopU (s0 := t54) follows (fun _ h => by cases h) he F (fun s => [(54, .int .i64 s)]) (by kernel_rfl) (F.take 1) hk (fun Kn1 e h => dI .i64 (e 54) fun t54 => Kn1 t54 h) (fun Kn1 e h hk => by
  have F := Ag.nil (e := e)
  have ⟨t54, F, hk⟩ := eI F hk
  exact ⟨t54, F, hk⟩)
  (fun Kn1 => []) (fun Kn1 => [])
  (fun Kn1 => trivial)
  (fun Kn1 => trivial) (fun e s h Kn1 => by as_aux_lemma => kernel_rfl)⟩, trivial⟩ (by as_aux_lemma => kernel_rfl) hk
/-! ### (*intrusion/smtp.Session).server -/
def smtp_Session_server_b4 (p_0 : Option Addr) (add_2 : Value) (number_8 rest_9 : ByteArray) (more_10 : Bool) (Q : QT) (h : Heap) : Prop :=
 nn p_0 fun t69 => st1 h (Addr.add t69 7) (.string number_8) fun h1 => nn p_0 fun t73 => ldL h1 (Addr.add t73 8) fun t75a t75n t75c => sliceStr rest_9 (some (if ((rest_9.size : Nat) : Int) < (1 : Int) then ((rest_9.size : Nat) : Int) else (1 : Int))) none fun t80 => alV h1 (.cells #[.string t80] T_string) fun t81 h2 => (ldL h2 (Addr.add t73 8) fun t975a t975n t975c => (.slice t975a t975n t975c : Value) = .slice t75a t75n t75c) ∧ bltV Tryd.prog .append #[T_sl_string, T_sl_string] T_sl_string #[false, false] #[.slice t75a t75n t75c, .slice (some t81) 1 1] h2 fun v h3 => ∃ t82a : Option Addr, ∃ t82n : Nat, ∃ t82c : Nat, v = .slice t82a t82n t82c ∧ nn p_0 fun t83 => st1 h3 (Addr.add t83 8) (.slice t82a t82n t82c) fun h4 => if more_10 = true then (Q (.bool true) h4) else (nn p_0 fun t89 => ldL h4 (Addr.add t89 8) fun t91a t91n t91c => CallT Tryd.prog fn_strings_Join #[.slice t91a t91n t91c, .string (⟨#[32]⟩ : ByteArray)] h4 fun v h5 => ∃ t92 : ByteArray, v = .string t92 ∧ CallV Tryd.prog add_2 #[.int .i64 2, .int .i64 2, .string number_8, .string t92] h5 fun v h6 => v = .tuple #[] ∧ nn p_0 fun t95 => st1 h6 (Addr.add t95 8) (.slice none 0 0) fun h7 => nn p_0 fun t98 => ldB h7 (Addr.add t98 4) fun t100 => if (!t100) = true then (nn p_0 fun t103 => st1 h7 (Addr.add t103 4) (.bool true) fun h8 => Q (.bool true) h8) else (nn p_0 fun t106 => ldL h7 (Addr.add t106 3) fun t108a t108n t108c => if (decide (((t108n : Nat) : Int) > 0)) = true then (nn p_0 fun t113 => ldL h7 (Addr.add t113 3) fun t115a t115n t115c => idxA (0 : Int) t115n (nn t115a fun t116 => ldV h7 (Addr.add t116 (((0 : Int)).toNat * 1)) fun t117 => CallT Tryd.prog fn_smtp_Session_answer #[.pointer p_0, t117, .string number_8] h7 fun v h9 => v = .tuple #[] ∧ nn p_0 fun t122 => ldL h9 (Addr.add t122 3) fun t124a t124n t124c => sliceSl 1 t124a t124n t124c (some (1 : Int)) none none fun t125a t125n t125c => nn p_0 fun t126 => st1 h9 (Addr.add t126 3) (.slice t125a t125n t125c) fun h10 => Q (.bool true) h10)) else (Q (.bool true) h7)))
def smtp_Session_server_b3 (p_0 : Option Addr) (add_2 : Value) (number_8 rest_9 : ByteArray) (Q : QT) (h : Heap) : Prop :=
 if (!(rest_9.toList == (⟨#[]⟩ : ByteArray).toList)) = true then (idxS rest_9 (0 : Int) fun t64 => smtp_Session_server_b4 p_0 add_2 number_8 rest_9 (t64 == 45) Q h) else (smtp_Session_server_b4 p_0 add_2 number_8 rest_9 false Q h)
def smtp_Session_server_b2 (p_0 : Option Addr) (s_1 : ByteArray) (add_2 : Value) (Q : QT) (h : Heap) : Prop :=
 sliceStr s_1 none (some (3 : Int)) fun t29 => sliceStr s_1 (some (3 : Int)) none fun t31 => if (!(t31.toList == (⟨#[]⟩ : ByteArray).toList)) = true then (idxS t31 (0 : Int) fun t36 => if (t36 != 32) = true then (idxS t31 (0 : Int) fun t41 => if (t41 != 45) = true then (Q (.bool false) h) else (nn p_0 fun t46 => ldL h (Addr.add t46 8) fun t48a t48n t48c => if (decide (((t48n : Nat) : Int) > 0)) = true then (nn p_0 fun t54 => ldS h (Addr.add t54 7) fun t56 => if (!(t29.toList == t56.toList)) = true then (Q (.bool false) h) else (smtp_Session_server_b3 p_0 add_2 t29 t31 Q h)) else (smtp_Session_server_b3 p_0 add_2 t29 t31 Q h))) else (nn p_0 fun t46 => ldL h (Addr.add t46 8) fun t48a t48n t48c => if (decide (((t48n : Nat) : Int) > 0)) = true then (nn p_0 fun t54 => ldS h (Addr.add t54 7) fun t56 => if (!(t29.toList == t56.toList)) = true then (Q (.bool false) h) else (smtp_Session_server_b3 p_0 add_2 t29 t31 Q h)) else (smtp_Session_server_b3 p_0 add_2 t29 t31 Q h))) else (nn p_0 fun t46 => ldL h (Addr.add t46 8) fun t48a t48n t48c => if (decide (((t48n : Nat) : Int) > 0)) = true then (nn p_0 fun t54 => ldS h (Addr.add t54 7) fun t56 => if (!(t29.toList == t56.toList)) = true then (Q (.bool false) h) else (smtp_Session_server_b3 p_0 add_2 t29 t31 Q h)) else (smtp_Session_server_b3 p_0 add_2 t29 t31 Q h))
def smtp_Session_server_l1 (p_0 : Option Addr) (s_1 : ByteArray) (add_2 : Value) (Q : QT) (t14 : Int) (h : Heap) (Kn1 : Int → Heap → Prop) : Prop :=
 if (decide (t14 < 3)) = true then (idxS s_1 t14 fun t19 => if (decide (t19 < 48)) = true then (Q (.bool false) h) else (idxS s_1 t14 fun t24 => if (decide (t24 > 57)) = true then (Q (.bool false) h) else (Kn1 (wrap .i64 (t14 + 1)) h))) else (smtp_Session_server_b2 p_0 s_1 add_2 Q h)
def smtp_Session_server_v (p_0 : Option Addr) (s_1 : ByteArray) (add_2 : Value) (Q : QT) (h : Heap) : Prop :=
 if (decide (((s_1.size : Nat) : Int) < 3)) = true then (Q (.bool false) h) else (LoopV (fun (s : Int) h Kn => smtp_Session_server_l1 p_0 s_1 add_2 Q s h Kn) 0 h)
set_option maxRecDepth 100000 in
theorem smtp_Session_server_s (p_0 : Option Addr) (s_1 : ByteArray) (add_2 : Value) {Q : QT} {h : Heap} (hk : smtp_Session_server_v p_0 s_1 add_2 Q h) : CallT Tryd.prog fn_smtp_Session_server #[.pointer p_0, .string s_1, add_2] h Q :=
 callU follows Tryd.func28 (Tryd.call28 _) rfl rfl [(20, fun e h => dP (e 0) fun p_0 => dS (e 1) fun s_1 => dV (e 2) fun add_2 => smtp_Session_server_b2 p_0 s_1 add_2 Q h), (26, fun e h => dP (e 0) fun p_0 => dV (e 2) fun add_2 => dS (e 8) fun number_8 => dS (e 9) fun rest_9 => smtp_Session_server_b3 p_0 add_2 number_8 rest_9 Q h), (28, fun e h => dP (e 0) fun p_0 => dV (e 2) fun add_2 => dS (e 8) fun number_8 => dS (e 9) fun rest_9 => dB (e 10) fun more_10 => smtp_Session_server_b4 p_0 add_2 number_8 rest_9 more_10 Q h)] [(10, fun e h => dP (e 0) fun p_0 => dS (e 1) fun s_1 => dV (e 2) fun add_2 => dI .i64 (e 14) fun t14 => LoopV (fun (s : Int) h Kn => smtp_Session_server_l1 p_0 s_1 add_2 Q s h Kn) t14 h)]
 ⟨fun e h _ hk => by
 have F := Ag.nil (e := e)
 have ⟨p_0, F, hk⟩ := eP F hk
 have ⟨s_1, F, hk⟩ := eS F hk
 have ⟨add_2, F, hk⟩ := eV F hk
 exact cutU F (by as_aux_lemma => kernel_rfl) hk, fun e h _ hk => by
 have F := Ag.nil (e := e)
 have ⟨p_0, F, hk⟩ := eP F hk
 have ⟨add_2, F, hk⟩ := eV F hk
 have ⟨number_8, F, hk⟩ := eS F hk
 have ⟨rest_9, F, hk⟩ := eS F hk
 exact cutU F (by as_aux_lemma => kernel_rfl) hk, fun e h _ hk => by
 have F := Ag.nil (e := e)
 have ⟨p_0, F, hk⟩ := eP F hk
 have ⟨add_2, F, hk⟩ := eV F hk
 have ⟨number_8, F, hk⟩ := eS F hk
 have ⟨rest_9, F, hk⟩ := eS F hk
 have ⟨more_10, F, hk⟩ := eB F hk
 exact cutU F (by as_aux_lemma => kernel_rfl) hk, trivial⟩
 ⟨⟨by kernel_rfl, fun e h he hk => by
 have F := Ag.nil (e := e)
 have ⟨p_0, F, hk⟩ := eP F hk
 have ⟨s_1, F, hk⟩ := eS F hk
 have ⟨add_2, F, hk⟩ := eV F hk
 have ⟨t14, F, hk⟩ := eI F hk
 exact loopU (s0 := t14) follows (fun _ h => by cases h) he F (fun s => [(14, .int .i64 s)]) (by kernel_rfl) (F.take 1) hk (fun Kn1 e h => dI .i64 (e 14) fun t14 => Kn1 t14 h) (fun Kn1 e h hk => by
  have F := Ag.nil (e := e)
  have ⟨t14, F, hk⟩ := eI F hk
  exact ⟨t14, F, hk⟩)
  (fun Kn1 => []) (fun Kn1 => [])
  (fun Kn1 => trivial)
  (fun Kn1 => trivial) (fun e s h Kn1 => by as_aux_lemma => kernel_rfl)⟩, trivial⟩ (by as_aux_lemma => kernel_rfl) hk
/-! ### (*intrusion/intrusionref25.Splitter).Feed -/
def ref25_Splitter_Feed_b2 (p_0 out_5a : Option Addr) (out_5n out_5c : Nat) (all_6 : ByteArray) (from_7 : Int) (Q : QT) (h : Heap) : Prop :=
 sliceStr all_6 (some from_7) none fun t45 => nn p_0 fun t46 => st1 h (Addr.add t46 1) (.string t45) fun h5 => Q (.slice out_5a out_5n out_5c) h5
def ref25_Splitter_Feed_l1 (p_0 : Option Addr) (all_6 : ByteArray) (Q : QT) (out_5a : Option Addr) (out_5n out_5c : Nat) (from_7 i_8 : Int) (h : Heap) (Kn1 : (Option Addr) × Nat × Nat × Int × Int → Heap → Prop) : Prop :=
 if (decide (i_8 < ((all_6.size : Nat) : Int))) = true then (idxS all_6 i_8 fun t28 => if (t28 == 10) = true then (sliceStr all_6 (some from_7) (some i_8) fun t35 => CallT Tryd.prog fn_ref25_bare #[.string t35] h fun v h1 => ∃ t36 : ByteArray, v = .string t36 ∧ CallT Tryd.prog fn_ref25_Splitter_line #[.pointer p_0, .string t36] h1 fun v h2 => ∃ t37_0 : ByteArray, ∃ t37_1 : Bool, v = .agg #[.string t37_0, .bool t37_1] ∧ alV h2 (.cells #[.string t37_0, .bool t37_1] T_api_Line) fun t38 h3 => bltV Tryd.prog .append #[T_sl_api_Line, T_sl_api_Line] T_sl_api_Line #[false, false] #[.slice out_5a out_5n out_5c, .slice (some t38) 1 1] h3 fun v h4 => ∃ t39a : Option Addr, ∃ t39n : Nat, ∃ t39c : Nat, v = .slice t39a t39n t39c ∧ Kn1 (t39a, t39n, t39c, wrap .i64 (i_8 + 1), wrap .i64 (i_8 + 1)) h4) else (Kn1 (out_5a, out_5n, out_5c, from_7, wrap .i64 (i_8 + 1)) h)) else (ref25_Splitter_Feed_b2 p_0 out_5a out_5n out_5c all_6 from_7 Q h)
def ref25_Splitter_Feed_v (p_0 : Option Addr) (s_1 : ByteArray) (Q : QT) (h : Heap) : Prop :=
 nn p_0 fun t10 => ldS h (Addr.add t10 1) fun t12 => ((t12.size + s_1.size : Nat) : Int) ≤ IntKind.max .i64 ∧ nn p_0 fun t16 => ldS h (Addr.add t16 1) fun t18 => LoopV (fun (s : (Option Addr) × Nat × Nat × Int × Int) h Kn => ref25_Splitter_Feed_l1 p_0 (t12 ++ s_1) Q s.1 s.2.1 s.2.2.1 s.2.2.2.1 s.2.2.2.2 h Kn) (none, 0, 0, 0, ((t18.size : Nat) : Int)) h
set_option maxRecDepth 100000 in
theorem ref25_Splitter_Feed_s (p_0 : Option Addr) (s_1 : ByteArray) {Q : QT} {h : Heap} (hk : ref25_Splitter_Feed_v p_0 s_1 Q h) : CallT Tryd.prog fn_ref25_Splitter_Feed #[.pointer p_0, .string s_1] h Q :=
 callU follows Tryd.func29 (Tryd.call29 _) rfl rfl [(22, fun e h => dP (e 0) fun p_0 => dL (e 5) fun out_5a out_5n out_5c => dS (e 6) fun all_6 => dI .i64 (e 7) fun from_7 => ref25_Splitter_Feed_b2 p_0 out_5a out_5n out_5c all_6 from_7 Q h)] [(12, fun e h => dP (e 0) fun p_0 => dS (e 6) fun all_6 => dL (e 5) fun out_5a out_5n out_5c => dI .i64 (e 7) fun from_7 => dI .i64 (e 8) fun i_8 => LoopV (fun (s : (Option Addr) × Nat × Nat × Int × Int) h Kn => ref25_Splitter_Feed_l1 p_0 all_6 Q s.1 s.2.1 s.2.2.1 s.2.2.2.1 s.2.2.2.2 h Kn) (out_5a, out_5n, out_5c, from_7, i_8) h)]
 ⟨fun e h _ hk => by
 have F := Ag.nil (e := e)
 have ⟨p_0, F, hk⟩ := eP F hk
 have ⟨out_5a, out_5n, out_5c, F, hk⟩ := eL F hk
 have ⟨all_6, F, hk⟩ := eS F hk
 have ⟨from_7, F, hk⟩ := eI F hk
 exact cutU F (by as_aux_lemma => kernel_rfl) hk, trivial⟩
 ⟨⟨by kernel_rfl, fun e h he hk => by
 have F := Ag.nil (e := e)
 have ⟨p_0, F, hk⟩ := eP F hk
 have ⟨all_6, F, hk⟩ := eS F hk
 have ⟨out_5a, out_5n, out_5c, F, hk⟩ := eL F hk
 have ⟨from_7, F, hk⟩ := eI F hk
 have ⟨i_8, F, hk⟩ := eI F hk
 exact loopU (s0 := (out_5a, out_5n, out_5c, from_7, i_8)) follows (fun _ h => by cases h) he F (fun s => [(8, .int .i64 s.2.2.2.2), (7, .int .i64 s.2.2.2.1), (5, .slice s.1 s.2.1 s.2.2.1)]) (by kernel_rfl) (F.take 3) hk (fun Kn1 e h => dL (e 5) fun out_5a out_5n out_5c => dI .i64 (e 7) fun from_7 => dI .i64 (e 8) fun i_8 => Kn1 (out_5a, out_5n, out_5c, from_7, i_8) h) (fun Kn1 e h hk => by
  have F := Ag.nil (e := e)
  have ⟨out_5a, out_5n, out_5c, F, hk⟩ := eL F hk
  have ⟨from_7, F, hk⟩ := eI F hk
  have ⟨i_8, F, hk⟩ := eI F hk
  exact ⟨(out_5a, out_5n, out_5c, from_7, i_8), F, hk⟩)
  (fun Kn1 => []) (fun Kn1 => [])
  (fun Kn1 => trivial)
  (fun Kn1 => trivial) (fun e s h Kn1 => by as_aux_lemma => kernel_rfl)⟩, trivial⟩ (by as_aux_lemma => kernel_rfl) hk
/-! ### (*intrusion/intrusionref30.Session).can -/
def ref30_Session_can_v (p_0 : Option Addr) (dir_1 : Int) (Q : QT) (h : Heap) : Prop :=
 nn p_0 fun t7 => ldB h (Addr.add t7 15) fun t9 => if t9 = true then (Q (.bool false) h) else (nn p_0 fun t13 => idxA dir_1 3 (ldB h (Addr.add (Addr.add t13 6) ((dir_1).toNat * 1)) fun t16 => if t16 = true then (Q (.bool false) h) else (nn p_0 fun t21 => idxA dir_1 3 (ldL h (Addr.add (Addr.add t21 3) ((dir_1).toNat * 1)) fun t24a t24n t24c => if (((t24n : Nat) : Int) == 0) = true then (Q (.bool false) h) else (nn p_0 fun t29 => ldI h (Addr.add t29 10) .i64 fun t31 => CallT Tryd.prog fn_ref30_Session_answered #[.pointer p_0] h fun v h1 => ∃ t33 : Int, v = .int .i64 t33 ∧ (ldI h1 (Addr.add t29 10) .i64 fun t931 => (.int .i64 t931 : Value) = .int .i64 t31) ∧ if (dir_1 == 1) = true then (if (!(decide (t31 > t33))) = true then (Q (.bool true) h1) else (nn p_0 fun t41 => ldS h1 (Addr.add t41 11) fun t43 => if (!(t43.toList == (⟨#[68, 65, 84, 65]⟩ : ByteArray).toList)) = true then (nn p_0 fun t47 => ldS h1 (Addr.add t47 11) fun t49 => Q (.bool (!(t49.toList == (⟨#[83, 84, 65, 82, 84, 84, 76, 83]⟩ : ByteArray).toList))) h1) else (Q (.bool false) h1))) else (nn p_0 fun t54 => ldS h1 (Addr.add t54 13) fun t56 => if (!(t56.toList == (⟨#[]⟩ : ByteArray).toList)) = true then (Q (.bool true) h1) else (nn p_0 fun t60 => ldI h1 (Addr.add t60 9) .i64 fun t62 => if (t62 == 0) = true then (Q (.bool true) h1) else (Q (.bool (decide (t31 > t33))) h1))))))))
set_option maxRecDepth 100000 in
theorem ref30_Session_can_s (p_0 : Option Addr) (dir_1 : Int) {Q : QT} {h : Heap} (hk : ref30_Session_can_v p_0 dir_1 Q h) : CallT Tryd.prog fn_ref30_Session_can #[.pointer p_0, .int .i64 dir_1] h Q :=
 callU follows Tryd.func30 (Tryd.call30 _) rfl rfl [] []
 trivial
 trivial (by as_aux_lemma => kernel_rfl) hk
/-! ### (*intrusion/intrusionref30.Session).read -/
def ref30_Session_read_v (p_0 : Option Addr) (dir_1 : Int) (Q : QT) (h : Heap) : Prop :=
 nn p_0 fun t8 => idxA dir_1 3 (ldL h (Addr.add (Addr.add t8 3) ((dir_1).toNat * 1)) fun t11a t11n t11c => idxA (0 : Int) t11n (nn t11a fun t12 => ldS h (Addr.add t12 (((0 : Int)).toNat * 2)) fun t13_0 => ldB h (Addr.add (Addr.add t12 (((0 : Int)).toNat * 2)) 1) fun t13_1 => alV h (.cells #[.string (⟨#[]⟩ : ByteArray), .bool false] T_api_Line) fun t5 h1 => stN h1 t5 [.string t13_0, .bool t13_1] 0 fun h2 => nn p_0 fun t18 => idxA dir_1 3 (ldL h2 (Addr.add (Addr.add t18 3) ((dir_1).toNat * 1)) fun t21a t21n t21c => sliceSl 2 t21a t21n t21c (some (1 : Int)) none none fun t22a t22n t22c => nn p_0 fun t23 => idxA dir_1 3 (st1 h2 (Addr.add (Addr.add t23 3) ((dir_1).toNat * 1)) (.slice t22a t22n t22c) fun h3 => ldB h3 (Addr.add t5 1) fun t27 => if t27 = true then (CallT Tryd.prog fn_ref30_Session_fail #[.pointer p_0, .int .i64 dir_1] h3 fun v h4 => ∃ t30a : Option Addr, ∃ t30n : Nat, ∃ t30c : Nat, v = .slice t30a t30n t30c ∧ Q (.slice t30a t30n t30c) h4) else (if (dir_1 == 1) = true then (ldS h3 t5 fun t34_0 => ldB h3 (Addr.add t5 1) fun t34_1 => CallT Tryd.prog fn_ref30_Session_client #[.pointer p_0, .agg #[.string t34_0, .bool t34_1]] h3 fun v h5 => ∃ t35a : Option Addr, ∃ t35n : Nat, ∃ t35c : Nat, v = .slice t35a t35n t35c ∧ Q (.slice t35a t35n t35c) h5) else (ldS h3 t5 fun t37_0 => ldB h3 (Addr.add t5 1) fun t37_1 => CallT Tryd.prog fn_ref30_Session_server #[.pointer p_0, .agg #[.string t37_0, .bool t37_1]] h3 fun v h6 => ∃ t38a : Option Addr, ∃ t38n : Nat, ∃ t38c : Nat, v = .slice t38a t38n t38c ∧ Q (.slice t38a t38n t38c) h6))))))
set_option maxRecDepth 100000 in
theorem ref30_Session_read_s (p_0 : Option Addr) (dir_1 : Int) {Q : QT} {h : Heap} (hk : ref30_Session_read_v p_0 dir_1 Q h) : CallT Tryd.prog fn_ref30_Session_read #[.pointer p_0, .int .i64 dir_1] h Q :=
 callU follows Tryd.func31 (Tryd.call31 _) rfl rfl [] []
 trivial
 trivial (by as_aux_lemma => kernel_rfl) hk
/-! ### (*intrusion/intrusionref30.Session).waiting -/
def ref30_Session_waiting_l1 (p_0 : Option Addr) (dir_1 : Int) (Q : QT) (n_5 i_6 : Int) (h : Heap) (Kn1 : Int × Int → Heap → Prop) : Prop :=
 nn p_0 fun t10 => idxA dir_1 3 (ldL h (Addr.add (Addr.add t10 3) ((dir_1).toNat * 1)) fun t13a t13n t13c => if (decide (i_6 < ((t13n : Nat) : Int))) = true then (nn p_0 fun t21 => idxA dir_1 3 (ldL h (Addr.add (Addr.add t21 3) ((dir_1).toNat * 1)) fun t24a t24n t24c => idxA i_6 t24n (nn t24a fun t26 => ldS h (Addr.add t26 ((i_6).toNat * 2)) fun t28 => Kn1 (wrap .i64 (n_5 + (wrap .i64 (((t28.size : Nat) : Int) + 1))), wrap .i64 (i_6 + 1)) h))) else (Q (.int .i64 n_5) h))
def ref30_Session_waiting_v (p_0 : Option Addr) (dir_1 : Int) (Q : QT) (h : Heap) : Prop :=
 LoopV (fun (s : Int × Int) h Kn => ref30_Session_waiting_l1 p_0 dir_1 Q s.1 s.2 h Kn) (0, 0) h
set_option maxRecDepth 100000 in
theorem ref30_Session_waiting_s (p_0 : Option Addr) (dir_1 : Int) {Q : QT} {h : Heap} (hk : ref30_Session_waiting_v p_0 dir_1 Q h) : CallT Tryd.prog fn_ref30_Session_waiting #[.pointer p_0, .int .i64 dir_1] h Q :=
 callU follows Tryd.func32 (Tryd.call32 _) rfl rfl [] [(8, fun e h => dP (e 0) fun p_0 => dI .i64 (e 1) fun dir_1 => dI .i64 (e 5) fun n_5 => dI .i64 (e 6) fun i_6 => LoopV (fun (s : Int × Int) h Kn => ref30_Session_waiting_l1 p_0 dir_1 Q s.1 s.2 h Kn) (n_5, i_6) h)]
 trivial
 ⟨⟨by kernel_rfl, fun e h he hk => by
 have F := Ag.nil (e := e)
 have ⟨p_0, F, hk⟩ := eP F hk
 have ⟨dir_1, F, hk⟩ := eI F hk
 have ⟨n_5, F, hk⟩ := eI F hk
 have ⟨i_6, F, hk⟩ := eI F hk
 exact loopU (s0 := (n_5, i_6)) follows (fun _ h => by cases h) he F (fun s => [(6, .int .i64 s.2), (5, .int .i64 s.1)]) (by kernel_rfl) (F.take 2) hk (fun Kn1 e h => dI .i64 (e 5) fun n_5 => dI .i64 (e 6) fun i_6 => Kn1 (n_5, i_6) h) (fun Kn1 e h hk => by
  have F := Ag.nil (e := e)
  have ⟨n_5, F, hk⟩ := eI F hk
  have ⟨i_6, F, hk⟩ := eI F hk
  exact ⟨(n_5, i_6), F, hk⟩)
  (fun Kn1 => []) (fun Kn1 => [])
  (fun Kn1 => trivial)
  (fun Kn1 => trivial) (fun e s h Kn1 => by as_aux_lemma => kernel_rfl)⟩, trivial⟩ (by as_aux_lemma => kernel_rfl) hk
/-! ### (*intrusion/intrusionref30.Session).fail -/
def ref30_Session_fail_v (p_0 : Option Addr) (dir_1 : Int) (Q : QT) (h : Heap) : Prop :=
 nn p_0 fun t7 => idxA dir_1 3 (st1 h (Addr.add (Addr.add t7 6) ((dir_1).toNat * 1)) (.bool true) fun h1 => alV h1 (.cells #[.int .i64 5, .int .i64 dir_1, .string (⟨#[]⟩ : ByteArray), .string (⟨#[]⟩ : ByteArray)] T_api_SmtpEvent) fun t12 h2 => Q (.slice (some t12) 1 1) h2)
set_option maxRecDepth 100000 in
theorem ref30_Session_fail_s (p_0 : Option Addr) (dir_1 : Int) {Q : QT} {h : Heap} (hk : ref30_Session_fail_v p_0 dir_1 Q h) : CallT Tryd.prog fn_ref30_Session_fail #[.pointer p_0, .int .i64 dir_1] h Q :=
 callU follows Tryd.func33 (Tryd.call33 _) rfl rfl [] []
 trivial
 trivial (by as_aux_lemma => kernel_rfl) hk
/-! ### strings.HasPrefix -/
def strings_HasPrefix_v (s_0 prefix_1 : ByteArray) (Q : QT) (h : Heap) : Prop :=
 CallT Tryd.prog fn_internal_stringslite_HasPrefix #[.string s_0, .string prefix_1] h fun v h1 => ∃ t7 : Bool, v = .bool t7 ∧ Q (.bool t7) h1
set_option maxRecDepth 100000 in
theorem strings_HasPrefix_s (s_0 prefix_1 : ByteArray) {Q : QT} {h : Heap} (hk : strings_HasPrefix_v s_0 prefix_1 Q h) : CallT Tryd.prog fn_strings_HasPrefix #[.string s_0, .string prefix_1] h Q :=
 callU follows Tryd.func34 (Tryd.call34 _) rfl rfl [] []
 trivial
 trivial (by as_aux_lemma => kernel_rfl) hk
/-! ### (*strings.Builder).WriteString -/
def strings_Builder_WriteString_v (b_0 : Option Addr) (s_1 : ByteArray) (Q : QT) (h : Heap) : Prop :=
 CallT Tryd.prog fn_strings_Builder_copyCheck #[.pointer b_0] h fun v h1 => v = .tuple #[] ∧ nn b_0 fun t10 => ldL h1 (Addr.add t10 1) fun t12a t12n t12c => bltV Tryd.prog .append #[T_sl_uint8, T_string] T_sl_uint8 #[false, false] #[.slice t12a t12n t12c, .string s_1] h1 fun v h2 => ∃ t14a : Option Addr, ∃ t14n : Nat, ∃ t14c : Nat, v = .slice t14a t14n t14c ∧ nn b_0 fun t15 => st1 h2 (Addr.add t15 1) (.slice t14a t14n t14c) fun h3 => Q (.tuple #[.int .i64 ((s_1.size : Nat) : Int), Value.nilIface]) h3
set_option maxRecDepth 100000 in
theorem strings_Builder_WriteString_s (b_0 : Option Addr) (s_1 : ByteArray) {Q : QT} {h : Heap} (hk : strings_Builder_WriteString_v b_0 s_1 Q h) : CallT Tryd.prog fn_strings_Builder_WriteString #[.pointer b_0, .string s_1] h Q :=
 callU follows Tryd.func35 (Tryd.call35 _) rfl rfl [] []
 trivial
 trivial (by as_aux_lemma => kernel_rfl) hk
/-! ### (*strings.Builder).String -/
def strings_Builder_String_v (b_0 : Option Addr) (Q : QT) (h : Heap) : Prop :=
 nn b_0 fun t4 => ldL h (Addr.add t4 1) fun t6a t6n t6c => nn b_0 fun t9 => ldL h (Addr.add t9 1) fun t11a t11n t11c => bltV Tryd.prog .unsafeSliceData #[T_sl_uint8] T_p_uint8 #[false] #[.slice t6a t6n t6c] h fun v h1 => ∃ t7 : Option Addr, v = .pointer t7 ∧ (ldL h1 (Addr.add t9 1) fun t911a t911n t911c => (.slice t911a t911n t911c : Value) = .slice t11a t11n t11c) ∧ bltV Tryd.prog .unsafeString #[T_p_uint8, T_int] T_string #[false, false] #[.pointer t7, .int .i64 ((t11n : Nat) : Int)] h1 fun v h2 => ∃ t13 : ByteArray, v = .string t13 ∧ Q (.string t13) h2
set_option maxRecDepth 100000 in
theorem strings_Builder_String_s (b_0 : Option Addr) {Q : QT} {h : Heap} (hk : strings_Builder_String_v b_0 Q h) : CallT Tryd.prog fn_strings_Builder_String #[.pointer b_0] h Q :=
 callU follows Tryd.func36 (Tryd.call36 _) rfl rfl [] []
 trivial
 trivial (by as_aux_lemma => kernel_rfl) hk
/-! ### intrusion/lines.bound -/
def lines_bound_v (n_0 : Int) (Q : QT) (h : Heap) : Prop :=
 Q (.int .i64 (if (512 : Int) < (if (1 : Int) > n_0 then (1 : Int) else n_0) then (512 : Int) else (if (1 : Int) > n_0 then (1 : Int) else n_0))) h
set_option maxRecDepth 100000 in
theorem lines_bound_s (n_0 : Int) {Q : QT} {h : Heap} (hk : lines_bound_v n_0 Q h) : CallT Tryd.prog fn_lines_bound #[.int .i64 n_0] h Q :=
 callU follows Tryd.func37 (Tryd.call37 _) rfl rfl [] []
 trivial
 trivial (by as_aux_lemma => kernel_rfl) hk
/-! ### (*intrusion/lines.Splitter).Feed$1 -/
def lines_Splitter_Feed_1_v (t0 t1 t2 : Addr) (Q : QT) (h : Heap) : Prop :=
 ldS h t0 fun t5 => CallT Tryd.prog fn_strings_IndexByte #[.string t5, .int .u8 10] h fun v h1 => ∃ t6 : Int, v = .int .i64 t6 ∧ if (decide (t6 < 0)) = true then (Q (.bool false) h1) else (ldP h1 t1 fun t9 => ldS h1 t0 fun t10 => sliceStr t10 none (some t6) fun t12 => CallT Tryd.prog fn_lines_Splitter_append #[.pointer t9, .string t12] h1 fun v h2 => v = .tuple #[] ∧ ldL h2 t2 fun t14a t14n t14c => ldP h2 t1 fun t15 => ldP h2 t1 fun t16 => CallT Tryd.prog fn_lines_Splitter_length #[.pointer t16] h2 fun v h3 => ∃ t17 : Int, v = .int .i64 t17 ∧ (ldL h3 t2 fun t914a t914n t914c => (.slice t914a t914n t914c : Value) = .slice t14a t14n t14c) ∧ (ldP h3 t1 fun t915 => (.pointer t915 : Value) = .pointer t15) ∧ CallT Tryd.prog fn_lines_Splitter_line #[.pointer t15, .int .i64 t17] h3 fun v h4 => ∃ t18_0 : ByteArray, ∃ t18_1 : Bool, v = .agg #[.string t18_0, .bool t18_1] ∧ (ldL h4 t2 fun t914a t914n t914c => (.slice t914a t914n t914c : Value) = .slice t14a t14n t14c) ∧ alV h4 (.cells #[.string t18_0, .bool t18_1] T_api_Line) fun t19 h5 => (ldL h5 t2 fun t914a t914n t914c => (.slice t914a t914n t914c : Value) = .slice t14a t14n t14c) ∧ bltV Tryd.prog .append #[T_sl_api_Line, T_sl_api_Line] T_sl_api_Line #[false, false] #[.slice t14a t14n t14c, .slice (some t19) 1 1] h5 fun v h6 => ∃ t20a : Option Addr, ∃ t20n : Nat, ∃ t20c : Nat, v = .slice t20a t20n t20c ∧ st1 h6 t2 (.slice t20a t20n t20c) fun h7 => ldS h7 t0 fun t21 => sliceStr t21 (some (wrap .i64 (t6 + 1))) none fun t24 => st1 h7 t0 (.string t24) fun h8 => Q (.bool true) h8)
set_option maxRecDepth 100000 in
theorem lines_Splitter_Feed_1_s (t0 t1 t2 : Addr) {Q : QT} {h : Heap} (hk : lines_Splitter_Feed_1_v t0 t1 t2 Q h) : CallT Tryd.prog fn_lines_Splitter_Feed_1 #[.pointer (some t0), .pointer (some t1), .pointer (some t2)] h Q :=
 callU follows Tryd.func38 (Tryd.call38 _) rfl rfl [] []
 trivial
 trivial (by as_aux_lemma => kernel_rfl) hk
/-! ### strings.IndexByte -/
def strings_IndexByte_v (s_0 : ByteArray) (c_1 : Int) (Q : QT) (h : Heap) : Prop :=
 CallT Tryd.prog fn_internal_stringslite_IndexByte #[.string s_0, .int .u8 c_1] h fun v h1 => ∃ t7 : Int, v = .int .i64 t7 ∧ Q (.int .i64 t7) h1
set_option maxRecDepth 100000 in
theorem strings_IndexByte_s (s_0 : ByteArray) (c_1 : Int) {Q : QT} {h : Heap} (hk : strings_IndexByte_v s_0 c_1 Q h) : CallT Tryd.prog fn_strings_IndexByte #[.string s_0, .int .u8 c_1] h Q :=
 callU follows Tryd.func39 (Tryd.call39 _) rfl rfl [] []
 trivial
 trivial (by as_aux_lemma => kernel_rfl) hk
/-! ### (*intrusion/lines.Splitter).append -/
def lines_Splitter_append_v (p_0 : Option Addr) (s_1 : ByteArray) (Q : QT) (h : Heap) : Prop :=
 if (s_1.toList == (⟨#[]⟩ : ByteArray).toList) = true then (Q (.tuple #[]) h) else (nn p_0 fun t8 => ldI h (Addr.add t8 2) .i64 fun t10 => nn p_0 fun t14 => st1 h (Addr.add t14 2) (.int .i64 (wrap .i64 (t10 + ((s_1.size : Nat) : Int)))) fun h1 => idxS s_1 (wrap .i64 (((s_1.size : Nat) : Int) - 1)) fun t21 => nn p_0 fun t23 => st1 h1 (Addr.add t23 3) (.bool (t21 == 13)) fun h2 => nn p_0 fun t26 => ldI h2 t26 .i64 fun t28 => nn p_0 fun t31 => ldL h2 (Addr.add t31 1) fun t33a t33n t33c => if (decide ((wrap .i64 ((wrap .i64 (t28 + 1)) - ((t33n : Nat) : Int))) > 0)) = true then (nn p_0 fun t40 => ldL h2 (Addr.add t40 1) fun t42a t42n t42c => sliceStr s_1 none (some (if ((s_1.size : Nat) : Int) < (wrap .i64 ((wrap .i64 (t28 + 1)) - ((t33n : Nat) : Int))) then ((s_1.size : Nat) : Int) else (wrap .i64 ((wrap .i64 (t28 + 1)) - ((t33n : Nat) : Int))))) fun t48 => bltV Tryd.prog .append #[T_sl_uint8, T_string] T_sl_uint8 #[false, false] #[.slice t42a t42n t42c, .string t48] h2 fun v h3 => ∃ t49a : Option Addr, ∃ t49n : Nat, ∃ t49c : Nat, v = .slice t49a t49n t49c ∧ nn p_0 fun t50 => st1 h3 (Addr.add t50 1) (.slice t49a t49n t49c) fun h4 => Q (.tuple #[]) h4) else (Q (.tuple #[]) h2))
set_option maxRecDepth 100000 in
theorem lines_Splitter_append_s (p_0 : Option Addr) (s_1 : ByteArray) {Q : QT} {h : Heap} (hk : lines_Splitter_append_v p_0 s_1 Q h) : CallT Tryd.prog fn_lines_Splitter_append #[.pointer p_0, .string s_1] h Q :=
 callU follows Tryd.func40 (Tryd.call40 _) rfl rfl [] []
 trivial
 trivial (by as_aux_lemma => kernel_rfl) hk
-- not printed: (*intrusion/lines.Splitter).line
/-! ### (*intrusion/lines.Splitter).length -/
def lines_Splitter_length_v (p_0 : Option Addr) (Q : QT) (h : Heap) : Prop :=
 nn p_0 fun t4 => ldB h (Addr.add t4 3) fun t6 => if t6 = true then (nn p_0 fun t8 => ldI h (Addr.add t8 2) .i64 fun t10 => Q (.int .i64 (wrap .i64 (t10 - 1))) h) else (nn p_0 fun t13 => ldI h (Addr.add t13 2) .i64 fun t15 => Q (.int .i64 t15) h)
set_option maxRecDepth 100000 in
theorem lines_Splitter_length_s (p_0 : Option Addr) {Q : QT} {h : Heap} (hk : lines_Splitter_length_v p_0 Q h) : CallT Tryd.prog fn_lines_Splitter_length #[.pointer p_0] h Q :=
 callU follows Tryd.func42 (Tryd.call42 _) rfl rfl [] []
 trivial
 trivial (by as_aux_lemma => kernel_rfl) hk
/-! ### strings.TrimPrefix -/
def strings_TrimPrefix_v (s_0 prefix_1 : ByteArray) (Q : QT) (h : Heap) : Prop :=
 CallT Tryd.prog fn_internal_stringslite_TrimPrefix #[.string s_0, .string prefix_1] h fun v h1 => ∃ t7 : ByteArray, v = .string t7 ∧ Q (.string t7) h1
set_option maxRecDepth 100000 in
theorem strings_TrimPrefix_s (s_0 prefix_1 : ByteArray) {Q : QT} {h : Heap} (hk : strings_TrimPrefix_v s_0 prefix_1 Q h) : CallT Tryd.prog fn_strings_TrimPrefix #[.string s_0, .string prefix_1] h Q :=
 callU follows Tryd.func43 (Tryd.call43 _) rfl rfl [] []
 trivial
 trivial (by as_aux_lemma => kernel_rfl) hk
/-! ### strings.Cut -/
def strings_Cut_v (s_0 sep_1 : ByteArray) (Q : QT) (h : Heap) : Prop :=
 CallT Tryd.prog fn_internal_stringslite_Cut #[.string s_0, .string sep_1] h fun v h1 => ∃ t9_0 : ByteArray, ∃ t9_1 : ByteArray, ∃ t9_2 : Bool, v = .tuple #[.string t9_0, .string t9_1, .bool t9_2] ∧ Q (.tuple #[.string t9_0, .string t9_1, .bool t9_2]) h1
set_option maxRecDepth 100000 in
theorem strings_Cut_s (s_0 sep_1 : ByteArray) {Q : QT} {h : Heap} (hk : strings_Cut_v s_0 sep_1 Q h) : CallT Tryd.prog fn_strings_Cut #[.string s_0, .string sep_1] h Q :=
 callU follows Tryd.func44 (Tryd.call44 _) rfl rfl [] []
 trivial
 trivial (by as_aux_lemma => kernel_rfl) hk
/-! ### strings.ToUpper -/
def strings_ToUpper_b4 (s_0 : ByteArray) (b_7 : Addr) (i_9 c_10 : Int) (Q : QT) (Kn3 : Int × Int → Heap → Prop) (h : Heap) : Prop :=
 CallT Tryd.prog fn_strings_Builder_WriteByte #[.pointer (some b_7), .int .u8 c_10] h fun v h4 => ∃ t64 : Value, v = t64 ∧ Kn3 (wrap .i64 (i_9 + 1), wrap .i64 (i_9 + 1)) h4
def strings_ToUpper_b7 (b_7 : Addr) (Q : QT) (h : Heap) : Prop :=
 CallT Tryd.prog fn_strings_Builder_String #[.pointer (some b_7)] h fun v h7 => ∃ t75 : ByteArray, v = .string t75 ∧ Q (.string t75) h7
def strings_ToUpper_b5 (s_0 : ByteArray) (b_7 : Addr) (pos_8 : Int) (Q : QT) (h : Heap) : Prop :=
 if (decide (pos_8 < ((s_0.size : Nat) : Int))) = true then (sliceStr s_0 (some pos_8) none fun t73 => CallT Tryd.prog fn_strings_Builder_WriteString #[.pointer (some b_7), .string t73] h fun v h5 => ∃ t74_0 : Int, ∃ t74_1 : Value, v = .tuple #[.int .i64 t74_0, t74_1] ∧ strings_ToUpper_b7 b_7 Q h5) else (strings_ToUpper_b7 b_7 Q h)
def strings_ToUpper_l3 (s_0 : ByteArray) (b_7 : Addr) (Q : QT) (pos_8 i_9 : Int) (h : Heap) (Kn3 : Int × Int → Heap → Prop) : Prop :=
 if (decide (i_9 < ((s_0.size : Nat) : Int))) = true then (idxS s_0 i_9 fun t46 => if (decide (97 ≤ t46)) = true then (if (decide (t46 ≤ 122)) = true then (if (decide (pos_8 < i_9)) = true then (sliceStr s_0 (some pos_8) (some i_9) fun t61 => CallT Tryd.prog fn_strings_Builder_WriteString #[.pointer (some b_7), .string t61] h fun v h3 => ∃ t62_0 : Int, ∃ t62_1 : Value, v = .tuple #[.int .i64 t62_0, t62_1] ∧ strings_ToUpper_b4 s_0 b_7 i_9 (wrap .u8 (t46 - 32)) Q Kn3 h3) else (strings_ToUpper_b4 s_0 b_7 i_9 (wrap .u8 (t46 - 32)) Q Kn3 h)) else (Kn3 (pos_8, wrap .i64 (i_9 + 1)) h)) else (Kn3 (pos_8, wrap .i64 (i_9 + 1)) h)) else (strings_ToUpper_b5 s_0 b_7 pos_8 Q h)
def strings_ToUpper_b6 (s_0 : ByteArray) (Q : QT) (h : Heap) : Prop :=
 CallT Tryd.prog fn_strings_Map #[.func (.func 63) #[] #[], .string s_0] h fun v h6 => ∃ t77 : ByteArray, v = .string t77 ∧ Q (.string t77) h6
def strings_ToUpper_b2 (s_0 : ByteArray) (isASCII_3 hasLower_4 : Bool) (Q : QT) (h : Heap) : Prop :=
 if isASCII_3 = true then (if (!hasLower_4) = true then (Q (.string s_0) h) else (alV h (.cells #[.pointer none, .slice none 0 0] T_strings_Builder) fun t7 h1 => CallT Tryd.prog fn_strings_Builder_Grow #[.pointer (some t7), .int .i64 ((s_0.size : Nat) : Int)] h1 fun v h2 => v = .tuple #[] ∧ LoopV (fun (s : Int × Int) h Kn => strings_ToUpper_l3 s_0 t7 Q s.1 s.2 h Kn) (0, 0) h2)) else (strings_ToUpper_b6 s_0 Q h)
def strings_ToUpper_l1 (s_0 : ByteArray) (Q : QT) (isASCII_3 hasLower_4 : Bool) (i_5 : Int) (h : Heap) (Kn1 : Bool × Bool × Int → Heap → Prop) : Prop :=
 if (decide (i_5 < ((s_0.size : Nat) : Int))) = true then (idxS s_0 i_5 fun t19 => if (decide (t19 ≥ 128)) = true then (strings_ToUpper_b2 s_0 false hasLower_4 Q h) else (if hasLower_4 = true then (Kn1 (isASCII_3, true, wrap .i64 (i_5 + 1)) h) else (if (decide (97 ≤ t19)) = true then (Kn1 (isASCII_3, decide (t19 ≤ 122), wrap .i64 (i_5 + 1)) h) else (Kn1 (isASCII_3, false, wrap .i64 (i_5 + 1)) h)))) else (strings_ToUpper_b2 s_0 isASCII_3 hasLower_4 Q h)
def strings_ToUpper_v (s_0 : ByteArray) (Q : QT) (h : Heap) : Prop :=
 LoopV (fun (s : Bool × Bool × Int) h Kn => strings_ToUpper_l1 s_0 Q s.1 s.2.1 s.2.2 h Kn) (true, false, 0) h
set_option maxRecDepth 100000 in
theorem strings_ToUpper_s (s_0 : ByteArray) {Q : QT} {h : Heap} (hk : strings_ToUpper_v s_0 Q h) : CallT Tryd.prog fn_strings_ToUpper #[.string s_0] h Q :=
 callU follows Tryd.func45 (Tryd.call45 _) rfl rfl [(20, fun e h => dS (e 0) fun s_0 => dB (e 3) fun isASCII_3 => dB (e 4) fun hasLower_4 => strings_ToUpper_b2 s_0 isASCII_3 hasLower_4 Q h), (52, fun e h => dS (e 0) fun s_0 => dA (e 7) fun b_7 => dI .i64 (e 8) fun pos_8 => strings_ToUpper_b5 s_0 b_7 pos_8 Q h), (58, fun e h => dS (e 0) fun s_0 => strings_ToUpper_b6 s_0 Q h), (56, fun e h => dA (e 7) fun b_7 => strings_ToUpper_b7 b_7 Q h)] [(8, fun e h => dS (e 0) fun s_0 => dB (e 3) fun isASCII_3 => dB (e 4) fun hasLower_4 => dI .i64 (e 5) fun i_5 => LoopV (fun (s : Bool × Bool × Int) h Kn => strings_ToUpper_l1 s_0 Q s.1 s.2.1 s.2.2 h Kn) (isASCII_3, hasLower_4, i_5) h), (34, fun e h => dS (e 0) fun s_0 => dA (e 7) fun b_7 => dI .i64 (e 8) fun pos_8 => dI .i64 (e 9) fun i_9 => LoopV (fun (s : Int × Int) h Kn => strings_ToUpper_l3 s_0 b_7 Q s.1 s.2 h Kn) (pos_8, i_9) h)]
 ⟨fun e h _ hk => by
 have F := Ag.nil (e := e)
 have ⟨s_0, F, hk⟩ := eS F hk
 have ⟨isASCII_3, F, hk⟩ := eB F hk
 have ⟨hasLower_4, F, hk⟩ := eB F hk
 exact cutU F (by as_aux_lemma => kernel_rfl) hk, fun e h _ hk => by
 have F := Ag.nil (e := e)
 have ⟨s_0, F, hk⟩ := eS F hk
 have ⟨b_7, F, hk⟩ := eA F hk
 have ⟨pos_8, F, hk⟩ := eI F hk
 exact cutU F (by as_aux_lemma => kernel_rfl) hk, fun e h _ hk => by
 have F := Ag.nil (e := e)
 have ⟨s_0, F, hk⟩ := eS F hk
 exact cutU F (by as_aux_lemma => kernel_rfl) hk, fun e h _ hk => by
 have F := Ag.nil (e := e)
 have ⟨b_7, F, hk⟩ := eA F hk
 exact cutU F (by as_aux_lemma => kernel_rfl) hk, trivial⟩
 ⟨⟨by kernel_rfl, fun e h he hk => by
 have F := Ag.nil (e := e)
 have ⟨s_0, F, hk⟩ := eS F hk
 have ⟨isASCII_3, F, hk⟩ := eB F hk
 have ⟨hasLower_4, F, hk⟩ := eB F hk
 have ⟨i_5, F, hk⟩ := eI F hk
 exact loopU (s0 := (isASCII_3, hasLower_4, i_5)) follows (fun _ h => by cases h) he F (fun s => [(5, .int .i64 s.2.2), (4, .bool s.2.1), (3, .bool s.1)]) (by kernel_rfl) (F.take 3) hk (fun Kn1 e h => dB (e 3) fun isASCII_3 => dB (e 4) fun hasLower_4 => dI .i64 (e 5) fun i_5 => Kn1 (isASCII_3, hasLower_4, i_5) h) (fun Kn1 e h hk => by
  have F := Ag.nil (e := e)
  have ⟨isASCII_3, F, hk⟩ := eB F hk
  have ⟨hasLower_4, F, hk⟩ := eB F hk
  have ⟨i_5, F, hk⟩ := eI F hk
  exact ⟨(isASCII_3, hasLower_4, i_5), F, hk⟩)
  (fun Kn1 => []) (fun Kn1 => [])
  (fun Kn1 => trivial)
  (fun Kn1 => trivial) (fun e s h Kn1 => by as_aux_lemma => kernel_rfl)⟩, ⟨by kernel_rfl, fun e h he hk => by
 have F := Ag.nil (e := e)
 have ⟨s_0, F, hk⟩ := eS F hk
 have ⟨b_7, F, hk⟩ := eA F hk
 have ⟨pos_8, F, hk⟩ := eI F hk
 have ⟨i_9, F, hk⟩ := eI F hk
 exact loopU (s0 := (pos_8, i_9)) follows (fun _ h => by cases h) he F (fun s => [(9, .int .i64 s.2), (8, .int .i64 s.1)]) (by kernel_rfl) (F.take 2) hk (fun Kn3 e h => dI .i64 (e 8) fun pos_8 => dI .i64 (e 9) fun i_9 => Kn3 (pos_8, i_9) h) (fun Kn3 e h hk => by
  have F := Ag.nil (e := e)
  have ⟨pos_8, F, hk⟩ := eI F hk
  have ⟨i_9, F, hk⟩ := eI F hk
  exact ⟨(pos_8, i_9), F, hk⟩)
  (fun Kn3 => [(48, fun e h => dS (e 0) fun s_0 => dA (e 7) fun b_7 => dI .i64 (e 9) fun i_9 => dI .u8 (e 10) fun c_10 => strings_ToUpper_b4 s_0 b_7 i_9 c_10 Q Kn3 h)]) (fun Kn3 => [])
  (fun Kn3 => ⟨fun e h _ hk => by
 have F := Ag.nil (e := e)
 have ⟨s_0, F, hk⟩ := eS F hk
 have ⟨b_7, F, hk⟩ := eA F hk
 have ⟨i_9, F, hk⟩ := eI F hk
 have ⟨c_10, F, hk⟩ := eI F hk
 exact cutU F (by as_aux_lemma => kernel_rfl) hk, trivial⟩)
  (fun Kn3 => trivial) (fun e s h Kn3 => by as_aux_lemma => kernel_rfl)⟩, trivial⟩ (by as_aux_lemma => kernel_rfl) hk
/-! ### strings.Join -/
def strings_Join_b4 (elems_0a : Option Addr) (elems_0n elems_0c : Nat) (sep_1 : ByteArray) (n_5 : Int) (elem_7 : ByteArray) (t39a : Option Addr) (t39n t39c : Nat) (t40 t41 : Int) (Q : QT) (Kn3 : Int × Int → Heap → Prop) (h : Heap) : Prop :=
 Kn3 (wrap .i64 (n_5 + ((elem_7.size : Nat) : Int)), wrap .i64 (t41 + 1)) h
def strings_Join_b7 (b_8 : Addr) (Q : QT) (h : Heap) : Prop :=
 CallT Tryd.prog fn_strings_Builder_String #[.pointer (some b_8)] h fun v h6 => ∃ t74 : ByteArray, v = .string t74 ∧ Q (.string t74) h6
def strings_Join_l6 (sep_1 : ByteArray) (b_8 : Addr) (t63a : Option Addr) (t63n t63c : Nat) (t64 : Int) (Q : QT) (t65 : Int) (h : Heap) (Kn6 : Int → Heap → Prop) : Prop :=
 if (decide (t65 < t64)) = true then (idxA t65 t63n (nn t63a fun t67 => ldS h (Addr.add t67 ((t65).toNat * 1)) fun t68 => CallT Tryd.prog fn_strings_Builder_WriteString #[.pointer (some b_8), .string sep_1] h fun v h4 => ∃ t70_0 : Int, ∃ t70_1 : Value, v = .tuple #[.int .i64 t70_0, t70_1] ∧ CallT Tryd.prog fn_strings_Builder_WriteString #[.pointer (some b_8), .string t68] h4 fun v h5 => ∃ t72_0 : Int, ∃ t72_1 : Value, v = .tuple #[.int .i64 t72_0, t72_1] ∧ Kn6 (wrap .i64 (t65 + 1)) h5)) else (strings_Join_b7 b_8 Q h)
def strings_Join_b5 (elems_0a : Option Addr) (elems_0n elems_0c : Nat) (sep_1 : ByteArray) (n_5 : Int) (Q : QT) (h : Heap) : Prop :=
 alV h (.cells #[.pointer none, .slice none 0 0] T_strings_Builder) fun t8 h1 => CallT Tryd.prog fn_strings_Builder_Grow #[.pointer (some t8), .int .i64 n_5] h1 fun v h2 => v = .tuple #[] ∧ idxA (0 : Int) elems_0n (nn elems_0a fun t59 => ldS h2 (Addr.add t59 (((0 : Int)).toNat * 1)) fun t60 => CallT Tryd.prog fn_strings_Builder_WriteString #[.pointer (some t8), .string t60] h2 fun v h3 => ∃ t61_0 : Int, ∃ t61_1 : Value, v = .tuple #[.int .i64 t61_0, t61_1] ∧ sliceSl 1 elems_0a elems_0n elems_0c (some (1 : Int)) none none fun t63a t63n t63c => LoopV (fun (s : Int) h Kn => strings_Join_l6 sep_1 t8 t63a t63n t63c ((t63n : Nat) : Int) Q s h Kn) 0 h3)
def strings_Join_l3 (elems_0a : Option Addr) (elems_0n elems_0c : Nat) (sep_1 : ByteArray) (t39a : Option Addr) (t39n t39c : Nat) (t40 : Int) (Q : QT) (n_5 t41 : Int) (h : Heap) (Kn3 : Int × Int → Heap → Prop) : Prop :=
 if (decide (t41 < t40)) = true then (idxA t41 t39n (nn t39a fun t43 => ldS h (Addr.add t43 ((t41).toNat * 1)) fun t44 => if (decide (((t44.size : Nat) : Int) > (wrap .i64 (9223372036854775807 - n_5)))) = true then (False) else (strings_Join_b4 elems_0a elems_0n elems_0c sep_1 n_5 t44 t39a t39n t39c t40 t41 Q Kn3 h))) else (strings_Join_b5 elems_0a elems_0n elems_0c sep_1 n_5 Q h)
def strings_Join_b2 (elems_0a : Option Addr) (elems_0n elems_0c : Nat) (sep_1 : ByteArray) (n_5 : Int) (Q : QT) (h : Heap) : Prop :=
 LoopV (fun (s : Int × Int) h Kn => strings_Join_l3 elems_0a elems_0n elems_0c sep_1 elems_0a elems_0n elems_0c ((elems_0n : Nat) : Int) Q s.1 s.2 h Kn) (n_5, 0) h
def strings_Join_b1 (elems_0a : Option Addr) (elems_0n elems_0c : Nat) (sep_1 : ByteArray) (n_5 : Int) (Q : QT) (h : Heap) : Prop :=
 strings_Join_b2 elems_0a elems_0n elems_0c sep_1 (wrap .i64 (n_5 + (wrap .i64 (((sep_1.size : Nat) : Int) * (wrap .i64 (((elems_0n : Nat) : Int) - 1)))))) Q h
def strings_Join_v (elems_0a : Option Addr) (elems_0n elems_0c : Nat) (sep_1 : ByteArray) (Q : QT) (h : Heap) : Prop :=
 if (((elems_0n : Nat) : Int) == 0) = true then (Q (.string (⟨#[]⟩ : ByteArray)) h) else (if (((elems_0n : Nat) : Int) == 1) = true then (idxA (0 : Int) elems_0n (nn elems_0a fun t18 => ldS h (Addr.add t18 (((0 : Int)).toNat * 1)) fun t19 => Q (.string t19) h)) else (if (decide (((sep_1.size : Nat) : Int) > 0)) = true then ((wrap .i64 (((elems_0n : Nat) : Int) - 1)) ≠ 0 ∧ if (decide (((sep_1.size : Nat) : Int) ≥ (wrap .i64 (Int.tdiv 9223372036854775807 (wrap .i64 (((elems_0n : Nat) : Int) - 1)))))) = true then (False) else (strings_Join_b1 elems_0a elems_0n elems_0c sep_1 0 Q h)) else (strings_Join_b2 elems_0a elems_0n elems_0c sep_1 0 Q h)))
set_option maxRecDepth 100000 in
theorem strings_Join_s (elems_0a : Option Addr) (elems_0n elems_0c : Nat) (sep_1 : ByteArray) {Q : QT} {h : Heap} (hk : strings_Join_v elems_0a elems_0n elems_0c sep_1 Q h) : CallT Tryd.prog fn_strings_Join #[.slice elems_0a elems_0n elems_0c, .string sep_1] h Q :=
 callU follows Tryd.func46 (Tryd.call46 _) rfl rfl [(22, fun e h => dL (e 0) fun elems_0a elems_0n elems_0c => dS (e 1) fun sep_1 => dI .i64 (e 5) fun n_5 => strings_Join_b1 elems_0a elems_0n elems_0c sep_1 n_5 Q h), (24, fun e h => dL (e 0) fun elems_0a elems_0n elems_0c => dS (e 1) fun sep_1 => dI .i64 (e 5) fun n_5 => strings_Join_b2 elems_0a elems_0n elems_0c sep_1 n_5 Q h), (38, fun e h => dL (e 0) fun elems_0a elems_0n elems_0c => dS (e 1) fun sep_1 => dI .i64 (e 5) fun n_5 => strings_Join_b5 elems_0a elems_0n elems_0c sep_1 n_5 Q h), (56, fun e h => dA (e 8) fun b_8 => strings_Join_b7 b_8 Q h)] [(26, fun e h => dL (e 0) fun elems_0a elems_0n elems_0c => dS (e 1) fun sep_1 => dL (e 39) fun t39a t39n t39c => dI .i64 (e 40) fun t40 => dI .i64 (e 5) fun n_5 => dI .i64 (e 41) fun t41 => LoopV (fun (s : Int × Int) h Kn => strings_Join_l3 elems_0a elems_0n elems_0c sep_1 t39a t39n t39c t40 Q s.1 s.2 h Kn) (n_5, t41) h), (46, fun e h => dS (e 1) fun sep_1 => dA (e 8) fun b_8 => dL (e 63) fun t63a t63n t63c => dI .i64 (e 64) fun t64 => dI .i64 (e 65) fun t65 => LoopV (fun (s : Int) h Kn => strings_Join_l6 sep_1 b_8 t63a t63n t63c t64 Q s h Kn) t65 h)]
 ⟨fun e h _ hk => by
 have F := Ag.nil (e := e)
 have ⟨elems_0a, elems_0n, elems_0c, F, hk⟩ := eL F hk
 have ⟨sep_1, F, hk⟩ := eS F hk
 have ⟨n_5, F, hk⟩ := eI F hk
 exact cutU F (by as_aux_lemma => kernel_rfl) hk, fun e h _ hk => by
 have F := Ag.nil (e := e)
 have ⟨elems_0a, elems_0n, elems_0c, F, hk⟩ := eL F hk
 have ⟨sep_1, F, hk⟩ := eS F hk
 have ⟨n_5, F, hk⟩ := eI F hk
 exact cutU F (by as_aux_lemma => kernel_rfl) hk, fun e h _ hk => by
 have F := Ag.nil (e := e)
 have ⟨elems_0a, elems_0n, elems_0c, F, hk⟩ := eL F hk
 have ⟨sep_1, F, hk⟩ := eS F hk
 have ⟨n_5, F, hk⟩ := eI F hk
 exact cutU F (by as_aux_lemma => kernel_rfl) hk, fun e h _ hk => by
 have F := Ag.nil (e := e)
 have ⟨b_8, F, hk⟩ := eA F hk
 exact cutU F (by as_aux_lemma => kernel_rfl) hk, trivial⟩
 ⟨⟨by kernel_rfl, fun e h he hk => by
 have F := Ag.nil (e := e)
 have ⟨elems_0a, elems_0n, elems_0c, F, hk⟩ := eL F hk
 have ⟨sep_1, F, hk⟩ := eS F hk
 have ⟨t39a, t39n, t39c, F, hk⟩ := eL F hk
 have ⟨t40, F, hk⟩ := eI F hk
 have ⟨n_5, F, hk⟩ := eI F hk
 have ⟨t41, F, hk⟩ := eI F hk
 exact loopU (s0 := (n_5, t41)) follows (fun _ h => by cases h) he F (fun s => [(41, .int .i64 s.2), (5, .int .i64 s.1)]) (by kernel_rfl) (F.take 2) hk (fun Kn3 e h => dI .i64 (e 5) fun n_5 => dI .i64 (e 41) fun t41 => Kn3 (n_5, t41) h) (fun Kn3 e h hk => by
  have F := Ag.nil (e := e)
  have ⟨n_5, F, hk⟩ := eI F hk
  have ⟨t41, F, hk⟩ := eI F hk
  exact ⟨(n_5, t41), F, hk⟩)
  (fun Kn3 => [(34, fun e h => dL (e 0) fun elems_0a elems_0n elems_0c => dS (e 1) fun sep_1 => dI .i64 (e 5) fun n_5 => dS (e 7) fun elem_7 => dL (e 39) fun t39a t39n t39c => dI .i64 (e 40) fun t40 => dI .i64 (e 41) fun t41 => strings_Join_b4 elems_0a elems_0n elems_0c sep_1 n_5 elem_7 t39a t39n t39c t40 t41 Q Kn3 h)]) (fun Kn3 => [])
  (fun Kn3 => ⟨fun e h _ hk => by
 have F := Ag.nil (e := e)
 have ⟨elems_0a, elems_0n, elems_0c, F, hk⟩ := eL F hk
 have ⟨sep_1, F, hk⟩ := eS F hk
 have ⟨n_5, F, hk⟩ := eI F hk
 have ⟨elem_7, F, hk⟩ := eS F hk
 have ⟨t39a, t39n, t39c, F, hk⟩ := eL F hk
 have ⟨t40, F, hk⟩ := eI F hk
 have ⟨t41, F, hk⟩ := eI F hk
 exact cutU F (by as_aux_lemma => kernel_rfl) hk, trivial⟩)
  (fun Kn3 => trivial) (fun e s h Kn3 => by as_aux_lemma => kernel_rfl)⟩, ⟨by kernel_rfl, fun e h he hk => by
 have F := Ag.nil (e := e)
 have ⟨sep_1, F, hk⟩ := eS F hk
 have ⟨b_8, F, hk⟩ := eA F hk
 have ⟨t63a, t63n, t63c, F, hk⟩ := eL F hk
 have ⟨t64, F, hk⟩ := eI F hk
 have ⟨t65, F, hk⟩ := eI F hk
 exact loopU (s0 := t65) follows (fun _ h => by cases h) he F (fun s => [(65, .int .i64 s)]) (by kernel_rfl) (F.take 1) hk (fun Kn6 e h => dI .i64 (e 65) fun t65 => Kn6 t65 h) (fun Kn6 e h hk => by
  have F := Ag.nil (e := e)
  have ⟨t65, F, hk⟩ := eI F hk
  exact ⟨t65, F, hk⟩)
  (fun Kn6 => []) (fun Kn6 => [])
  (fun Kn6 => trivial)
  (fun Kn6 => trivial) (fun e s h Kn6 => by as_aux_lemma => kernel_rfl)⟩, trivial⟩ (by as_aux_lemma => kernel_rfl) hk
/-! ### (*intrusion/smtp.Session).answer -/
def smtp_Session_answer_b1 (p_0 : Option Addr) (number_2 : ByteArray) (c_6 : Addr) (Q : QT) (h : Heap) : Prop :=
 nn p_0 fun t30 => ldB h (Addr.add t30 5) fun t32 => if t32 = true then (nn p_0 fun t42 => st1 h (Addr.add t42 5) (.bool true) fun h10 => Q (.tuple #[]) h10) else (ldS h c_6 fun t35 => if (t35.toList == (⟨#[83, 84, 65, 82, 84, 84, 76, 83]⟩ : ByteArray).toList) = true then (nn p_0 fun t42 => st1 h (Addr.add t42 5) (.bool (number_2.toList == (⟨#[50, 50, 48]⟩ : ByteArray).toList)) fun h11 => Q (.tuple #[]) h11) else (nn p_0 fun t42 => st1 h (Addr.add t42 5) (.bool false) fun h12 => Q (.tuple #[]) h12))
def smtp_Session_answer_v (p_0 : Option Addr) (x_1 : Value) (number_2 : ByteArray) (Q : QT) (h : Heap) : Prop :=
 taV Tryd.prog x_1 T_smtp_item T_smtp_command true h fun v h1 => ∃ t9_0_0 : ByteArray, ∃ t9_1 : Bool, v = .tuple #[.agg #[.string t9_0_0], .bool t9_1] ∧ if t9_1 = true then (alV h1 (.cells #[.string (⟨#[]⟩ : ByteArray)] T_smtp_command) fun t6 h2 => stN h2 t6 [.string t9_0_0] 0 fun h3 => nn p_0 fun t14 => ldB h3 (Addr.add t14 6) fun t16 => if t16 = true then (nn p_0 fun t26 => st1 h3 (Addr.add t26 6) (.bool true) fun h4 => smtp_Session_answer_b1 p_0 number_2 t6 Q h4) else (ldS h3 t6 fun t19 => if (t19.toList == (⟨#[68, 65, 84, 65]⟩ : ByteArray).toList) = true then (nn p_0 fun t26 => st1 h3 (Addr.add t26 6) (.bool (number_2.toList == (⟨#[51, 53, 52]⟩ : ByteArray).toList)) fun h5 => smtp_Session_answer_b1 p_0 number_2 t6 Q h5) else (nn p_0 fun t26 => st1 h3 (Addr.add t26 6) (.bool false) fun h6 => smtp_Session_answer_b1 p_0 number_2 t6 Q h6))) else (taV Tryd.prog x_1 T_smtp_item T_smtp_mail true h1 fun v h7 => ∃ t44_1 : Bool, v = .tuple #[.agg #[], .bool t44_1] ∧ if t44_1 = true then (alV h7 (.cells #[] T_smtp_mail) fun t7 h8 => stN h8 t7 [] 0 fun h9 => Q (.tuple #[]) h9) else (Q (.tuple #[]) h7))
set_option maxRecDepth 100000 in
theorem smtp_Session_answer_s (p_0 : Option Addr) (x_1 : Value) (number_2 : ByteArray) {Q : QT} {h : Heap} (hk : smtp_Session_answer_v p_0 x_1 number_2 Q h) : CallT Tryd.prog fn_smtp_Session_answer #[.pointer p_0, x_1, .string number_2] h Q :=
 callU follows Tryd.func47 (Tryd.call47 _) rfl rfl [(10, fun e h => dP (e 0) fun p_0 => dS (e 2) fun number_2 => dA (e 6) fun c_6 => smtp_Session_answer_b1 p_0 number_2 c_6 Q h)] []
 ⟨fun e h _ hk => by
 have F := Ag.nil (e := e)
 have ⟨p_0, F, hk⟩ := eP F hk
 have ⟨number_2, F, hk⟩ := eS F hk
 have ⟨c_6, F, hk⟩ := eA F hk
 exact cutU F (by as_aux_lemma => kernel_rfl) hk, trivial⟩
 trivial (by as_aux_lemma => kernel_rfl) hk
/-! ### (*intrusion/intrusionref25.Splitter).line -/
def ref25_Splitter_line_v (p_0 : Option Addr) (s_1 : ByteArray) (Q : QT) (h : Heap) : Prop :=
 alV h (.cells #[.string (⟨#[]⟩ : ByteArray), .bool false] T_api_Line) fun t4 h1 => nn p_0 fun t8 => ldI h1 t8 .i64 fun t10 => if (decide (((s_1.size : Nat) : Int) > t10)) = true then (nn p_0 fun t14 => ldI h1 t14 .i64 fun t16 => sliceStr s_1 none (some t16) fun t17 => stN h1 t4 [.string t17, .bool true] 0 fun h2 => ldS h2 t4 fun r0_0 => ldB h2 (Addr.add t4 1) fun r0_1 => Q (.agg #[.string r0_0, .bool r0_1]) h2) else (stN h1 t4 [.string s_1, .bool false] 0 fun h3 => ldS h3 t4 fun r0_0 => ldB h3 (Addr.add t4 1) fun r0_1 => Q (.agg #[.string r0_0, .bool r0_1]) h3)
set_option maxRecDepth 100000 in
theorem ref25_Splitter_line_s (p_0 : Option Addr) (s_1 : ByteArray) {Q : QT} {h : Heap} (hk : ref25_Splitter_line_v p_0 s_1 Q h) : CallT Tryd.prog fn_ref25_Splitter_line #[.pointer p_0, .string s_1] h Q :=
 callU follows Tryd.func48 (Tryd.call48 _) rfl rfl [] []
 trivial
 trivial (by as_aux_lemma => kernel_rfl) hk
/-! ### intrusion/intrusionref25.bare -/
def ref25_bare_v (s_0 : ByteArray) (Q : QT) (h : Heap) : Prop :=
 if (!(s_0.toList == (⟨#[]⟩ : ByteArray).toList)) = true then (idxS s_0 (wrap .i64 (((s_0.size : Nat) : Int) - 1)) fun t10 => if (t10 == 13) = true then (sliceStr s_0 none (some (wrap .i64 (((s_0.size : Nat) : Int) - 1))) fun t17 => Q (.string t17) h) else (Q (.string s_0) h)) else (Q (.string s_0) h)
set_option maxRecDepth 100000 in
theorem ref25_bare_s (s_0 : ByteArray) {Q : QT} {h : Heap} (hk : ref25_bare_v s_0 Q h) : CallT Tryd.prog fn_ref25_bare #[.string s_0] h Q :=
 callU follows Tryd.func49 (Tryd.call49 _) rfl rfl [] []
 trivial
 trivial (by as_aux_lemma => kernel_rfl) hk
/-! ### (*intrusion/intrusionref30.Session).answered -/
def ref30_Session_answered_v (p_0 : Option Addr) (Q : QT) (h : Heap) : Prop :=
 nn p_0 fun t4 => ldI h (Addr.add t4 9) .i64 fun t6 => Q (.int .i64 (if (wrap .i64 (t6 - 1)) > (0 : Int) then (wrap .i64 (t6 - 1)) else (0 : Int))) h
set_option maxRecDepth 100000 in
theorem ref30_Session_answered_s (p_0 : Option Addr) {Q : QT} {h : Heap} (hk : ref30_Session_answered_v p_0 Q h) : CallT Tryd.prog fn_ref30_Session_answered #[.pointer p_0] h Q :=
 callU follows Tryd.func50 (Tryd.call50 _) rfl rfl [] []
 trivial
 trivial (by as_aux_lemma => kernel_rfl) hk
/-! ### (*intrusion/intrusionref30.Session).client -/
def ref30_Session_client_b1 (s_5 : ByteArray) (Q : QT) (h : Heap) : Prop :=
 alV h (.cells #[.int .i64 3, .int .i64 1, .string (⟨#[]⟩ : ByteArray), .string s_5] T_api_SmtpEvent) fun t43 h11 => Q (.slice (some t43) 1 1) h11
def ref30_Session_client_v (p_0 : Option Addr) (l_1_0 : ByteArray) (l_1_1 : Bool) (Q : QT) (h : Heap) : Prop :=
 alV h (.cells #[.string l_1_0, .bool l_1_1] T_api_Line) fun t3 h1 => ldS h1 t3 fun t10 => nn p_0 fun t12 => ldB h1 (Addr.add t12 12) fun t14 => if t14 = true then (if (t10.toList == (⟨#[46]⟩ : ByteArray).toList) = true then (nn p_0 fun t18 => st1 h1 (Addr.add t18 12) (.bool false) fun h2 => nn p_0 fun t21 => ldI h2 (Addr.add t21 10) .i64 fun t23 => nn p_0 fun t25 => st1 h2 (Addr.add t25 10) (.int .i64 (wrap .i64 (t23 + 1))) fun h3 => nn p_0 fun t28 => st1 h3 (Addr.add t28 11) (.string (⟨#[]⟩ : ByteArray)) fun h4 => alV h4 (.cells #[.int .i64 4, .int .i64 1, .string (⟨#[]⟩ : ByteArray), .string (⟨#[]⟩ : ByteArray)] T_api_SmtpEvent) fun t31 h5 => Q (.slice (some t31) 1 1) h5) else (if (!(t10.toList == (⟨#[]⟩ : ByteArray).toList)) = true then (idxS t10 (0 : Int) fun t36 => if (t36 == 46) = true then (sliceStr t10 (some (1 : Int)) none fun t40 => ref30_Session_client_b1 t40 Q h1) else (ref30_Session_client_b1 t10 Q h1)) else (ref30_Session_client_b1 t10 Q h1))) else (CallT Tryd.prog fn_ref30_Command #[.string t10] h1 fun v h6 => ∃ t46_0 : ByteArray, ∃ t46_1 : ByteArray, ∃ t46_2 : Bool, v = .tuple #[.string t46_0, .string t46_1, .bool t46_2] ∧ if (!t46_2) = true then (CallT Tryd.prog fn_ref30_Session_fail #[.pointer p_0, .int .i64 1] h6 fun v h7 => ∃ t53a : Option Addr, ∃ t53n : Nat, ∃ t53c : Nat, v = .slice t53a t53n t53c ∧ Q (.slice t53a t53n t53c) h7) else (nn p_0 fun t55 => ldI h6 (Addr.add t55 10) .i64 fun t57 => nn p_0 fun t59 => st1 h6 (Addr.add t59 10) (.int .i64 (wrap .i64 (t57 + 1))) fun h8 => nn p_0 fun t63 => st1 h8 (Addr.add t63 11) (.string t46_0) fun h9 => alV h9 (.cells #[.int .i64 1, .int .i64 1, .string t46_0, .string t46_1] T_api_SmtpEvent) fun t68 h10 => Q (.slice (some t68) 1 1) h10))
set_option maxRecDepth 100000 in
theorem ref30_Session_client_s (p_0 : Option Addr) (l_1_0 : ByteArray) (l_1_1 : Bool) {Q : QT} {h : Heap} (hk : ref30_Session_client_v p_0 l_1_0 l_1_1 Q h) : CallT Tryd.prog fn_ref30_Session_client #[.pointer p_0, .agg #[.string l_1_0, .bool l_1_1]] h Q :=
 callU follows Tryd.func51 (Tryd.call51 _) rfl rfl [(22, fun e h => dS (e 5) fun s_5 => ref30_Session_client_b1 s_5 Q h)] []
 ⟨fun e h _ hk => by
 have F := Ag.nil (e := e)
 have ⟨s_5, F, hk⟩ := eS F hk
 exact cutU F (by as_aux_lemma => kernel_rfl) hk, trivial⟩
 trivial (by as_aux_lemma => kernel_rfl) hk
/-! ### (*intrusion/intrusionref30.Session).server -/
def ref30_Session_server_b3 (number_5 text_6 : ByteArray) (Q : QT) (h : Heap) : Prop :=
 alV h (.cells #[.int .i64 2, .int .i64 2, .string number_5, .string text_6] T_api_SmtpEvent) fun t111 h13 => Q (.slice (some t111) 1 1) h13
def ref30_Session_server_b2 (p_0 : Option Addr) (number_5 text_6 : ByteArray) (Q : QT) (h : Heap) : Prop :=
 nn p_0 fun t97 => ldS h (Addr.add t97 11) fun t99 => if (t99.toList == (⟨#[83, 84, 65, 82, 84, 84, 76, 83]⟩ : ByteArray).toList) = true then (if (number_5.toList == (⟨#[50, 50, 48]⟩ : ByteArray).toList) = true then (nn p_0 fun t106 => st1 h (Addr.add t106 15) (.bool true) fun h12 => ref30_Session_server_b3 number_5 text_6 Q h12) else (ref30_Session_server_b3 number_5 text_6 Q h)) else (ref30_Session_server_b3 number_5 text_6 Q h)
def ref30_Session_server_b1 (p_0 : Option Addr) (number_5 text_6 : ByteArray) (more_7 : Bool) (Q : QT) (h : Heap) : Prop :=
 nn p_0 fun t50 => st1 h (Addr.add t50 13) (.string number_5) fun h5 => nn p_0 fun t54 => st1 h5 (Addr.add t54 14) (.string text_6) fun h6 => if more_7 = true then (Q (.slice none 0 0) h6) else (nn p_0 fun t58 => st1 h6 (Addr.add t58 13) (.string (⟨#[]⟩ : ByteArray)) fun h7 => nn p_0 fun t61 => st1 h7 (Addr.add t61 14) (.string (⟨#[]⟩ : ByteArray)) fun h8 => nn p_0 fun t64 => ldI h8 (Addr.add t64 9) .i64 fun t66 => nn p_0 fun t68 => st1 h8 (Addr.add t68 9) (.int .i64 (wrap .i64 (t66 + 1))) fun h9 => nn p_0 fun t71 => ldI h9 (Addr.add t71 9) .i64 fun t73 => if (decide (t73 > 1)) = true then (nn p_0 fun t79 => ldI h9 (Addr.add t79 10) .i64 fun t81 => CallT Tryd.prog fn_ref30_Session_answered #[.pointer p_0] h9 fun v h10 => ∃ t77 : Int, v = .int .i64 t77 ∧ (ldI h10 (Addr.add t79 10) .i64 fun t981 => (.int .i64 t981 : Value) = .int .i64 t81) ∧ if (t77 == t81) = true then (nn p_0 fun t85 => ldS h10 (Addr.add t85 11) fun t87 => if (t87.toList == (⟨#[68, 65, 84, 65]⟩ : ByteArray).toList) = true then (if (number_5.toList == (⟨#[51, 53, 52]⟩ : ByteArray).toList) = true then (nn p_0 fun t94 => st1 h10 (Addr.add t94 12) (.bool true) fun h11 => ref30_Session_server_b2 p_0 number_5 text_6 Q h11) else (ref30_Session_server_b2 p_0 number_5 text_6 Q h10)) else (ref30_Session_server_b2 p_0 number_5 text_6 Q h10)) else (ref30_Session_server_b3 number_5 text_6 Q h10)) else (ref30_Session_server_b3 number_5 text_6 Q h9))
def ref30_Session_server_b4 (p_0 : Option Addr) (number_5 text_6 : ByteArray) (more_7 : Bool) (Q : QT) (h : Heap) : Prop :=
 nn p_0 fun t37 => ldS h (Addr.add t37 13) fun t39 => if (!(t39.toList == (⟨#[]⟩ : ByteArray).toList)) = true then (nn p_0 fun t42 => ldS h (Addr.add t42 14) fun t44 => ((t44.size + (⟨#[32]⟩ : ByteArray).size : Nat) : Int) ≤ IntKind.max .i64 ∧ (((t44 ++ (⟨#[32]⟩ : ByteArray)).size + text_6.size : Nat) : Int) ≤ IntKind.max .i64 ∧ ref30_Session_server_b1 p_0 number_5 ((t44 ++ (⟨#[32]⟩ : ByteArray)) ++ text_6) more_7 Q h) else (ref30_Session_server_b1 p_0 number_5 text_6 more_7 Q h)
def ref30_Session_server_v (p_0 : Option Addr) (l_1_0 : ByteArray) (l_1_1 : Bool) (Q : QT) (h : Heap) : Prop :=
 alV h (.cells #[.string l_1_0, .bool l_1_1] T_api_Line) fun t3 h1 => ldS h1 t3 fun t11 => CallT Tryd.prog fn_ref30_Reply #[.string t11] h1 fun v h2 => ∃ t12_0 : ByteArray, ∃ t12_1 : ByteArray, ∃ t12_2 : Bool, ∃ t12_3 : Bool, v = .tuple #[.string t12_0, .string t12_1, .bool t12_2, .bool t12_3] ∧ if (!t12_3) = true then (CallT Tryd.prog fn_ref30_Session_fail #[.pointer p_0, .int .i64 2] h2 fun v h3 => ∃ t35a : Option Addr, ∃ t35n : Nat, ∃ t35c : Nat, v = .slice t35a t35n t35c ∧ Q (.slice t35a t35n t35c) h3) else (nn p_0 fun t21 => ldS h2 (Addr.add t21 13) fun t23 => if (!(t23.toList == (⟨#[]⟩ : ByteArray).toList)) = true then (nn p_0 fun t27 => ldS h2 (Addr.add t27 13) fun t29 => if (!(t29.toList == t12_0.toList)) = true then (CallT Tryd.prog fn_ref30_Session_fail #[.pointer p_0, .int .i64 2] h2 fun v h4 => ∃ t35a : Option Addr, ∃ t35n : Nat, ∃ t35c : Nat, v = .slice t35a t35n t35c ∧ Q (.slice t35a t35n t35c) h4) else (ref30_Session_server_b4 p_0 t12_0 t12_1 t12_2 Q h2)) else (ref30_Session_server_b4 p_0 t12_0 t12_1 t12_2 Q h2))
set_option maxRecDepth 100000 in
theorem ref30_Session_server_s (p_0 : Option Addr) (l_1_0 : ByteArray) (l_1_1 : Bool) {Q : QT} {h : Heap} (hk : ref30_Session_server_v p_0 l_1_0 l_1_1 Q h) : CallT Tryd.prog fn_ref30_Session_server #[.pointer p_0, .agg #[.string l_1_0, .bool l_1_1]] h Q :=
 callU follows Tryd.func52 (Tryd.call52 _) rfl rfl [(10, fun e h => dP (e 0) fun p_0 => dS (e 5) fun number_5 => dS (e 6) fun text_6 => dB (e 7) fun more_7 => ref30_Session_server_b4 p_0 number_5 text_6 more_7 Q h), (14, fun e h => dP (e 0) fun p_0 => dS (e 5) fun number_5 => dS (e 6) fun text_6 => dB (e 7) fun more_7 => ref30_Session_server_b1 p_0 number_5 text_6 more_7 Q h), (34, fun e h => dP (e 0) fun p_0 => dS (e 5) fun number_5 => dS (e 6) fun text_6 => ref30_Session_server_b2 p_0 number_5 text_6 Q h), (38, fun e h => dS (e 5) fun number_5 => dS (e 6) fun text_6 => ref30_Session_server_b3 number_5 text_6 Q h)] []
 ⟨fun e h _ hk => by
 have F := Ag.nil (e := e)
 have ⟨p_0, F, hk⟩ := eP F hk
 have ⟨number_5, F, hk⟩ := eS F hk
 have ⟨text_6, F, hk⟩ := eS F hk
 have ⟨more_7, F, hk⟩ := eB F hk
 exact cutU F (by as_aux_lemma => kernel_rfl) hk, fun e h _ hk => by
 have F := Ag.nil (e := e)
 have ⟨p_0, F, hk⟩ := eP F hk
 have ⟨number_5, F, hk⟩ := eS F hk
 have ⟨text_6, F, hk⟩ := eS F hk
 have ⟨more_7, F, hk⟩ := eB F hk
 exact cutU F (by as_aux_lemma => kernel_rfl) hk, fun e h _ hk => by
 have F := Ag.nil (e := e)
 have ⟨p_0, F, hk⟩ := eP F hk
 have ⟨number_5, F, hk⟩ := eS F hk
 have ⟨text_6, F, hk⟩ := eS F hk
 exact cutU F (by as_aux_lemma => kernel_rfl) hk, fun e h _ hk => by
 have F := Ag.nil (e := e)
 have ⟨number_5, F, hk⟩ := eS F hk
 have ⟨text_6, F, hk⟩ := eS F hk
 exact cutU F (by as_aux_lemma => kernel_rfl) hk, trivial⟩
 trivial (by as_aux_lemma => kernel_rfl) hk
/-! ### internal/stringslite.HasPrefix -/
def internal_stringslite_HasPrefix_v (s_0 prefix_1 : ByteArray) (Q : QT) (h : Heap) : Prop :=
 if (decide (((s_0.size : Nat) : Int) ≥ ((prefix_1.size : Nat) : Int))) = true then (sliceStr s_0 none (some ((prefix_1.size : Nat) : Int)) fun t14 => Q (.bool (t14.toList == prefix_1.toList)) h) else (Q (.bool false) h)
set_option maxRecDepth 100000 in
theorem internal_stringslite_HasPrefix_s (s_0 prefix_1 : ByteArray) {Q : QT} {h : Heap} (hk : internal_stringslite_HasPrefix_v s_0 prefix_1 Q h) : CallT Tryd.prog fn_internal_stringslite_HasPrefix #[.string s_0, .string prefix_1] h Q :=
 callU follows Tryd.func53 (Tryd.call53 _) rfl rfl [] []
 trivial
 trivial (by as_aux_lemma => kernel_rfl) hk
/-! ### (*strings.Builder).copyCheck -/
def strings_Builder_copyCheck_v (b_0 : Option Addr) (Q : QT) (h : Heap) : Prop :=
 nn b_0 fun t3 => ldP h t3 fun t5 => if (Option.isNone t5) = true then (convV Tryd.prog T_p_strings_Builder T_unsafe_Pointer (.pointer b_0) h fun v h1 => ∃ t9 : Value, v = t9 ∧ CallT Tryd.prog fn_internal_abi_NoEscape #[t9] h1 fun v h2 => ∃ t10 : Value, v = t10 ∧ convV Tryd.prog T_unsafe_Pointer T_p_strings_Builder t10 h2 fun v h3 => ∃ t11 : Option Addr, v = .pointer t11 ∧ nn b_0 fun t12 => st1 h3 t12 (.pointer t11) fun h4 => Q (.tuple #[]) h4) else (nn b_0 fun t15 => ldP h t15 fun t17 => ptrQ t17 b_0 fun q5 => if (!q5) = true then (False) else (Q (.tuple #[]) h))
set_option maxRecDepth 100000 in
theorem strings_Builder_copyCheck_s (b_0 : Option Addr) {Q : QT} {h : Heap} (hk : strings_Builder_copyCheck_v b_0 Q h) : CallT Tryd.prog fn_strings_Builder_copyCheck #[.pointer b_0] h Q :=
 callU follows Tryd.func54 (Tryd.call54 _) rfl rfl [] []
 trivial
 trivial (by as_aux_lemma => kernel_rfl) hk
/-! ### internal/stringslite.IndexByte -/
def internal_stringslite_IndexByte_v (s_0 : ByteArray) (c_1 : Int) (Q : QT) (h : Heap) : Prop :=
 CallT Tryd.prog fn_internal_bytealg_IndexByteString #[.string s_0, .int .u8 c_1] h fun v h1 => ∃ t7 : Int, v = .int .i64 t7 ∧ Q (.int .i64 t7) h1
set_option maxRecDepth 100000 in
theorem internal_stringslite_IndexByte_s (s_0 : ByteArray) (c_1 : Int) {Q : QT} {h : Heap} (hk : internal_stringslite_IndexByte_v s_0 c_1 Q h) : CallT Tryd.prog fn_internal_stringslite_IndexByte #[.string s_0, .int .u8 c_1] h Q :=
 callU follows Tryd.func55 (Tryd.call55 _) rfl rfl [] []
 trivial
 trivial (by as_aux_lemma => kernel_rfl) hk
/-! ### (*intrusion/lines.Splitter).forget -/
def lines_Splitter_forget_v (p_0 : Option Addr) (Q : QT) (h : Heap) : Prop :=
 nn p_0 fun t6 => ldL h (Addr.add t6 1) fun t8a t8n t8c => sliceSl 1 t8a t8n t8c none (some (0 : Int)) none fun t9a t9n t9c => nn p_0 fun t10 => st1 h (Addr.add t10 1) (.slice t9a t9n t9c) fun h1 => nn p_0 fun t12 => st1 h1 (Addr.add t12 2) (.int .i64 0) fun h2 => nn p_0 fun t14 => st1 h2 (Addr.add t14 3) (.bool false) fun h3 => Q (.tuple #[]) h3
set_option maxRecDepth 100000 in
theorem lines_Splitter_forget_s (p_0 : Option Addr) {Q : QT} {h : Heap} (hk : lines_Splitter_forget_v p_0 Q h) : CallT Tryd.prog fn_lines_Splitter_forget #[.pointer p_0] h Q :=
 callU follows Tryd.func56 (Tryd.call56 _) rfl rfl [] []
 trivial
 trivial (by as_aux_lemma => kernel_rfl) hk
/-! ### (*intrusion/lines.Splitter).first -/
def lines_Splitter_first_v (p_0 : Option Addr) (n_1 most_2 : Int) (Q : QT) (h : Heap) : Prop :=
 nn p_0 fun t10 => ldL h (Addr.add t10 1) fun t12a t12n t12c => nn p_0 fun t16 => ldL h (Addr.add t16 1) fun t18a t18n t18c => sliceSl 1 t18a t18n t18c none (some (if ((t12n : Nat) : Int) < (if most_2 < n_1 then most_2 else n_1) then ((t12n : Nat) : Int) else (if most_2 < n_1 then most_2 else n_1))) (some (if ((t12n : Nat) : Int) < (if most_2 < n_1 then most_2 else n_1) then ((t12n : Nat) : Int) else (if most_2 < n_1 then most_2 else n_1))) fun t21a t21n t21c => convV Tryd.prog T_sl_uint8 T_string (.slice t21a t21n t21c) h fun v h1 => ∃ t22 : ByteArray, v = .string t22 ∧ Q (.string t22) h1
set_option maxRecDepth 100000 in
theorem lines_Splitter_first_s (p_0 : Option Addr) (n_1 most_2 : Int) {Q : QT} {h : Heap} (hk : lines_Splitter_first_v p_0 n_1 most_2 Q h) : CallT Tryd.prog fn_lines_Splitter_first #[.pointer p_0, .int .i64 n_1, .int .i64 most_2] h Q :=
 callU follows Tryd.func57 (Tryd.call57 _) rfl rfl [] []
 trivial
 trivial (by as_aux_lemma => kernel_rfl) hk
/-! ### internal/stringslite.TrimPrefix -/
def internal_stringslite_TrimPrefix_v (s_0 prefix_1 : ByteArray) (Q : QT) (h : Heap) : Prop :=
 CallT Tryd.prog fn_internal_stringslite_HasPrefix #[.string s_0, .string prefix_1] h fun v h1 => ∃ t7 : Bool, v = .bool t7 ∧ if t7 = true then (sliceStr s_0 (some ((prefix_1.size : Nat) : Int)) none fun t11 => Q (.string t11) h1) else (Q (.string s_0) h1)
set_option maxRecDepth 100000 in
theorem internal_stringslite_TrimPrefix_s (s_0 prefix_1 : ByteArray) {Q : QT} {h : Heap} (hk : internal_stringslite_TrimPrefix_v s_0 prefix_1 Q h) : CallT Tryd.prog fn_internal_stringslite_TrimPrefix #[.string s_0, .string prefix_1] h Q :=
 callU follows Tryd.func58 (Tryd.call58 _) rfl rfl [] []
 trivial
 trivial (by as_aux_lemma => kernel_rfl) hk
/-! ### internal/stringslite.Cut -/
def internal_stringslite_Cut_v (s_0 sep_1 : ByteArray) (Q : QT) (h : Heap) : Prop :=
 CallT Tryd.prog fn_internal_stringslite_Index #[.string s_0, .string sep_1] h fun v h1 => ∃ t10 : Int, v = .int .i64 t10 ∧ if (decide (t10 ≥ 0)) = true then (sliceStr s_0 none (some t10) fun t15 => sliceStr s_0 (some (wrap .i64 (t10 + ((sep_1.size : Nat) : Int)))) none fun t21 => Q (.tuple #[.string t15, .string t21, .bool true]) h1) else (Q (.tuple #[.string s_0, .string (⟨#[]⟩ : ByteArray), .bool false]) h1)
set_option maxRecDepth 100000 in
theorem internal_stringslite_Cut_s (s_0 sep_1 : ByteArray) {Q : QT} {h : Heap} (hk : internal_stringslite_Cut_v s_0 sep_1 Q h) : CallT Tryd.prog fn_internal_stringslite_Cut #[.string s_0, .string sep_1] h Q :=
 callU follows Tryd.func59 (Tryd.call59 _) rfl rfl [] []
 trivial
 trivial (by as_aux_lemma => kernel_rfl) hk
/-! ### (*strings.Builder).Grow -/
def strings_Builder_Grow_b1 (b_0 : Option Addr) (n_1 : Int) (Q : QT) (h : Heap) : Prop :=
 nn b_0 fun t10 => ldL h (Addr.add t10 1) fun t12a t12n t12c => nn b_0 fun t15 => ldL h (Addr.add t15 1) fun t17a t17n t17c => if (decide ((wrap .i64 (((t12c : Nat) : Int) - ((t17n : Nat) : Int))) < n_1)) = true then (CallT Tryd.prog fn_strings_Builder_grow #[.pointer b_0, .int .i64 n_1] h fun v h2 => v = .tuple #[] ∧ Q (.tuple #[]) h2) else (Q (.tuple #[]) h)
def strings_Builder_Grow_v (b_0 : Option Addr) (n_1 : Int) (Q : QT) (h : Heap) : Prop :=
 CallT Tryd.prog fn_strings_Builder_copyCheck #[.pointer b_0] h fun v h1 => v = .tuple #[] ∧ if (decide (n_1 < 0)) = true then (False) else (strings_Builder_Grow_b1 b_0 n_1 Q h1)
set_option maxRecDepth 100000 in
theorem strings_Builder_Grow_s (b_0 : Option Addr) (n_1 : Int) {Q : QT} {h : Heap} (hk : strings_Builder_Grow_v b_0 n_1 Q h) : CallT Tryd.prog fn_strings_Builder_Grow #[.pointer b_0, .int .i64 n_1] h Q :=
 callU follows Tryd.func60 (Tryd.call60 _) rfl rfl [(8, fun e h => dP (e 0) fun b_0 => dI .i64 (e 1) fun n_1 => strings_Builder_Grow_b1 b_0 n_1 Q h)] []
 ⟨fun e h _ hk => by
 have F := Ag.nil (e := e)
 have ⟨b_0, F, hk⟩ := eP F hk
 have ⟨n_1, F, hk⟩ := eI F hk
 exact cutU F (by as_aux_lemma => kernel_rfl) hk, trivial⟩
 trivial (by as_aux_lemma => kernel_rfl) hk
/-! ### (*strings.Builder).WriteByte -/
def strings_Builder_WriteByte_v (b_0 : Option Addr) (c_1 : Int) (Q : QT) (h : Heap) : Prop :=
 CallT Tryd.prog fn_strings_Builder_copyCheck #[.pointer b_0] h fun v h1 => v = .tuple #[] ∧ nn b_0 fun t9 => ldL h1 (Addr.add t9 1) fun t11a t11n t11c => alV h1 (.cells #[.int .u8 c_1] T_uint8) fun t13 h2 => bltV Tryd.prog .append #[T_sl_uint8, T_sl_uint8] T_sl_uint8 #[false, false] #[.slice t11a t11n t11c, .slice (some t13) 1 1] h2 fun v h3 => ∃ t14a : Option Addr, ∃ t14n : Nat, ∃ t14c : Nat, v = .slice t14a t14n t14c ∧ nn b_0 fun t15 => st1 h3 (Addr.add t15 1) (.slice t14a t14n t14c) fun h4 => Q Value.nilIface h4
set_option maxRecDepth 100000 in
theorem strings_Builder_WriteByte_s (b_0 : Option Addr) (c_1 : Int) {Q : QT} {h : Heap} (hk : strings_Builder_WriteByte_v b_0 c_1 Q h) : CallT Tryd.prog fn_strings_Builder_WriteByte #[.pointer b_0, .int .u8 c_1] h Q :=
 callU follows Tryd.func61 (Tryd.call61 _) rfl rfl [] []
 trivial
 trivial (by as_aux_lemma => kernel_rfl) hk
/-! ### intrusion/intrusionref30.Command -/
def ref30_Command_b2 (s_0 : ByteArray) (b_5a : Option Addr) (b_5n b_5c : Nat) (i_6 c_7 : Int) (Q : QT) (Kn1 : (Option Addr) × Nat × Nat × Int → Heap → Prop) (h : Heap) : Prop :=
 if (decide (c_7 < 65)) = true then (Q (.tuple #[.string (⟨#[]⟩ : ByteArray), .string (⟨#[]⟩ : ByteArray), .bool false]) h) else (if (decide (c_7 > 90)) = true then (Q (.tuple #[.string (⟨#[]⟩ : ByteArray), .string (⟨#[]⟩ : ByteArray), .bool false]) h) else (alV h (.cells #[.int .u8 c_7] T_uint8) fun t37 h1 => bltV Tryd.prog .append #[T_sl_uint8, T_sl_uint8] T_sl_uint8 #[false, false] #[.slice b_5a b_5n b_5c, .slice (some t37) 1 1] h1 fun v h2 => ∃ t38a : Option Addr, ∃ t38n : Nat, ∃ t38c : Nat, v = .slice t38a t38n t38c ∧ Kn1 (t38a, t38n, t38c, wrap .i64 (i_6 + 1)) h2))
def ref30_Command_b3 (s_0 : ByteArray) (b_5a : Option Addr) (b_5n b_5c : Nat) (i_6 : Int) (Q : QT) (h : Heap) : Prop :=
 if (decide (((b_5n : Nat) : Int) < 1)) = true then (Q (.tuple #[.string (⟨#[]⟩ : ByteArray), .string (⟨#[]⟩ : ByteArray), .bool false]) h) else (if (decide (((b_5n : Nat) : Int) > 16)) = true then (Q (.tuple #[.string (⟨#[]⟩ : ByteArray), .string (⟨#[]⟩ : ByteArray), .bool false]) h) else (if (decide (i_6 < ((s_0.size : Nat) : Int))) = true then (sliceStr s_0 (some (wrap .i64 (i_6 + 1))) none fun t58 => convV Tryd.prog T_sl_uint8 T_string (.slice b_5a b_5n b_5c) h fun v h3 => ∃ t54 : ByteArray, v = .string t54 ∧ Q (.tuple #[.string t54, .string t58, .bool true]) h3) else (convV Tryd.prog T_sl_uint8 T_string (.slice b_5a b_5n b_5c) h fun v h4 => ∃ t60 : ByteArray, v = .string t60 ∧ Q (.tuple #[.string t60, .string (⟨#[]⟩ : ByteArray), .bool true]) h4)))
def ref30_Command_l1 (s_0 : ByteArray) (Q : QT) (b_5a : Option Addr) (b_5n b_5c : Nat) (i_6 : Int) (h : Heap) (Kn1 : (Option Addr) × Nat × Nat × Int → Heap → Prop) : Prop :=
 if (decide (i_6 < ((s_0.size : Nat) : Int))) = true then (idxS s_0 i_6 fun t15 => if (t15 != 32) = true then (idxS s_0 i_6 fun t20 => if (decide (t20 ≥ 97)) = true then (if (decide (t20 ≤ 122)) = true then (ref30_Command_b2 s_0 b_5a b_5n b_5c i_6 (wrap .u8 (t20 - 32)) Q Kn1 h) else (ref30_Command_b2 s_0 b_5a b_5n b_5c i_6 t20 Q Kn1 h)) else (ref30_Command_b2 s_0 b_5a b_5n b_5c i_6 t20 Q Kn1 h)) else (ref30_Command_b3 s_0 b_5a b_5n b_5c i_6 Q h)) else (ref30_Command_b3 s_0 b_5a b_5n b_5c i_6 Q h)
def ref30_Command_v (s_0 : ByteArray) (Q : QT) (h : Heap) : Prop :=
 LoopV (fun (s : (Option Addr) × Nat × Nat × Int) h Kn => ref30_Command_l1 s_0 Q s.1 s.2.1 s.2.2.1 s.2.2.2 h Kn) (none, 0, 0, 0) h
set_option maxRecDepth 100000 in
theorem ref30_Command_s (s_0 : ByteArray) {Q : QT} {h : Heap} (hk : ref30_Command_v s_0 Q h) : CallT Tryd.prog fn_ref30_Command #[.string s_0] h Q :=
 callU follows Tryd.func64 (Tryd.call64 _) rfl rfl [(24, fun e h => dS (e 0) fun s_0 => dL (e 5) fun b_5a b_5n b_5c => dI .i64 (e 6) fun i_6 => ref30_Command_b3 s_0 b_5a b_5n b_5c i_6 Q h)] [(8, fun e h => dS (e 0) fun s_0 => dL (e 5) fun b_5a b_5n b_5c => dI .i64 (e 6) fun i_6 => LoopV (fun (s : (Option Addr) × Nat × Nat × Int) h Kn => ref30_Command_l1 s_0 Q s.1 s.2.1 s.2.2.1 s.2.2.2 h Kn) (b_5a, b_5n, b_5c, i_6) h)]
 ⟨fun e h _ hk => by
 have F := Ag.nil (e := e)
 have ⟨s_0, F, hk⟩ := eS F hk
 have ⟨b_5a, b_5n, b_5c, F, hk⟩ := eL F hk
 have ⟨i_6, F, hk⟩ := eI F hk
 exact cutU F (by as_aux_lemma => kernel_rfl) hk, trivial⟩
 ⟨⟨by kernel_rfl, fun e h he hk => by
 have F := Ag.nil (e := e)
 have ⟨s_0, F, hk⟩ := eS F hk
 have ⟨b_5a, b_5n, b_5c, F, hk⟩ := eL F hk
 have ⟨i_6, F, hk⟩ := eI F hk
 exact loopU (s0 := (b_5a, b_5n, b_5c, i_6)) follows (fun _ h => by cases h) he F (fun s => [(6, .int .i64 s.2.2.2), (5, .slice s.1 s.2.1 s.2.2.1)]) (by kernel_rfl) (F.take 2) hk (fun Kn1 e h => dL (e 5) fun b_5a b_5n b_5c => dI .i64 (e 6) fun i_6 => Kn1 (b_5a, b_5n, b_5c, i_6) h) (fun Kn1 e h hk => by
  have F := Ag.nil (e := e)
  have ⟨b_5a, b_5n, b_5c, F, hk⟩ := eL F hk
  have ⟨i_6, F, hk⟩ := eI F hk
  exact ⟨(b_5a, b_5n, b_5c, i_6), F, hk⟩)
  (fun Kn1 => [(16, fun e h => dS (e 0) fun s_0 => dL (e 5) fun b_5a b_5n b_5c => dI .i64 (e 6) fun i_6 => dI .u8 (e 7) fun c_7 => ref30_Command_b2 s_0 b_5a b_5n b_5c i_6 c_7 Q Kn1 h)]) (fun Kn1 => [])
  (fun Kn1 => ⟨fun e h _ hk => by
 have F := Ag.nil (e := e)
 have ⟨s_0, F, hk⟩ := eS F hk
 have ⟨b_5a, b_5n, b_5c, F, hk⟩ := eL F hk
 have ⟨i_6, F, hk⟩ := eI F hk
 have ⟨c_7, F, hk⟩ := eI F hk
 exact cutU F (by as_aux_lemma => kernel_rfl) hk, trivial⟩)
  (fun Kn1 => trivial) (fun e s h Kn1 => by as_aux_lemma => kernel_rfl)⟩, trivial⟩ (by as_aux_lemma => kernel_rfl) hk
/-! ### intrusion/intrusionref30.Reply -/
def ref30_Reply_b1 (s_0 : ByteArray) (Q : QT) (h : Heap) : Prop :=
 if (((s_0.size : Nat) : Int) == 3) = true then (Q (.tuple #[.string s_0, .string (⟨#[]⟩ : ByteArray), .bool false, .bool true]) h) else (sliceStr s_0 none (some (3 : Int)) fun t35 => sliceStr s_0 (some (4 : Int)) none fun t37 => idxS s_0 (3 : Int) fun t39 => Q (.tuple #[.string t35, .string t37, .bool (t39 == 45), .bool true]) h)
def ref30_Reply_v (s_0 : ByteArray) (Q : QT) (h : Heap) : Prop :=
 if (decide (((s_0.size : Nat) : Int) < 3)) = true then (Q (.tuple #[.string (⟨#[]⟩ : ByteArray), .string (⟨#[]⟩ : ByteArray), .bool false, .bool false]) h) else (sliceStr s_0 none (some (3 : Int)) fun t11 => CallT Tryd.prog fn_ref30_digits #[.string t11] h fun v h1 => ∃ t12 : Bool, v = .bool t12 ∧ if (!t12) = true then (Q (.tuple #[.string (⟨#[]⟩ : ByteArray), .string (⟨#[]⟩ : ByteArray), .bool false, .bool false]) h1) else (if (decide (((s_0.size : Nat) : Int) > 3)) = true then (idxS s_0 (3 : Int) fun t21 => if (t21 != 32) = true then (idxS s_0 (3 : Int) fun t26 => if (t26 != 45) = true then (Q (.tuple #[.string (⟨#[]⟩ : ByteArray), .string (⟨#[]⟩ : ByteArray), .bool false, .bool false]) h1) else (ref30_Reply_b1 s_0 Q h1)) else (ref30_Reply_b1 s_0 Q h1)) else (ref30_Reply_b1 s_0 Q h1)))
set_option maxRecDepth 100000 in
theorem ref30_Reply_s (s_0 : ByteArray) {Q : QT} {h : Heap} (hk : ref30_Reply_v s_0 Q h) : CallT Tryd.prog fn_ref30_Reply #[.string s_0] h Q :=
 callU follows Tryd.func65 (Tryd.call65 _) rfl rfl [(8, fun e h => dS (e 0) fun s_0 => ref30_Reply_b1 s_0 Q h)] []
 ⟨fun e h _ hk => by
 have F := Ag.nil (e := e)
 have ⟨s_0, F, hk⟩ := eS F hk
 exact cutU F (by as_aux_lemma => kernel_rfl) hk, trivial⟩
 trivial (by as_aux_lemma => kernel_rfl) hk
/-! ### (*strings.Builder).grow -/
def strings_Builder_grow_v (b_0 : Option Addr) (n_1 : Int) (Q : QT) (h : Heap) : Prop :=
 nn b_0 fun t6 => ldL h (Addr.add t6 1) fun t8a t8n t8c => nn b_0 fun t15 => ldL h (Addr.add t15 1) fun t17a t17n t17c => CallT Tryd.prog fn_internal_bytealg_MakeNoZero #[.int .i64 (wrap .i64 ((wrap .i64 (2 * ((t8c : Nat) : Int))) + n_1))] h fun v h1 => ∃ t13a : Option Addr, ∃ t13n : Nat, ∃ t13c : Nat, v = .slice t13a t13n t13c ∧ (ldL h1 (Addr.add t15 1) fun t917a t917n t917c => (.slice t917a t917n t917c : Value) = .slice t17a t17n t17c) ∧ sliceSl 1 t13a t13n t13c none (some ((t17n : Nat) : Int)) none fun t19a t19n t19c => nn b_0 fun t22 => ldL h1 (Addr.add t22 1) fun t24a t24n t24c => bltV Tryd.prog .copy #[T_sl_uint8, T_sl_uint8] T_int #[false, false] #[.slice t19a t19n t19c, .slice t24a t24n t24c] h1 fun v h2 => ∃ t25 : Int, v = .int .i64 t25 ∧ nn b_0 fun t28 => st1 h2 (Addr.add t28 1) (.slice t19a t19n t19c) fun h3 => Q (.tuple #[]) h3
set_option maxRecDepth 100000 in
theorem strings_Builder_grow_s (b_0 : Option Addr) (n_1 : Int) {Q : QT} {h : Heap} (hk : strings_Builder_grow_v b_0 n_1 Q h) : CallT Tryd.prog fn_strings_Builder_grow #[.pointer b_0, .int .i64 n_1] h Q :=
 callU follows Tryd.func69 (Tryd.call69 _) rfl rfl [] []
 trivial
 trivial (by as_aux_lemma => kernel_rfl) hk
/-! ### (*strings.Builder).Cap -/
def strings_Builder_Cap_v (b_0 : Option Addr) (Q : QT) (h : Heap) : Prop :=
 nn b_0 fun t4 => ldL h (Addr.add t4 1) fun t6a t6n t6c => Q (.int .i64 ((t6c : Nat) : Int)) h
set_option maxRecDepth 100000 in
theorem strings_Builder_Cap_s (b_0 : Option Addr) {Q : QT} {h : Heap} (hk : strings_Builder_Cap_v b_0 Q h) : CallT Tryd.prog fn_strings_Builder_Cap #[.pointer b_0] h Q :=
 callU follows Tryd.func73 (Tryd.call73 _) rfl rfl [] []
 trivial
 trivial (by as_aux_lemma => kernel_rfl) hk
/-! ### intrusion/intrusionref30.digits -/
def ref30_digits_l1 (s_0 : ByteArray) (Q : QT) (i_3 : Int) (h : Heap) (Kn1 : Int → Heap → Prop) : Prop :=
 if (decide (i_3 < ((s_0.size : Nat) : Int))) = true then (idxS s_0 i_3 fun t12 => if (decide (t12 < 48)) = true then (Q (.bool false) h) else (idxS s_0 i_3 fun t17 => if (decide (t17 > 57)) = true then (Q (.bool false) h) else (Kn1 (wrap .i64 (i_3 + 1)) h))) else (Q (.bool true) h)
def ref30_digits_v (s_0 : ByteArray) (Q : QT) (h : Heap) : Prop :=
 LoopV (fun (s : Int) h Kn => ref30_digits_l1 s_0 Q s h Kn) 0 h
set_option maxRecDepth 100000 in
theorem ref30_digits_s (s_0 : ByteArray) {Q : QT} {h : Heap} (hk : ref30_digits_v s_0 Q h) : CallT Tryd.prog fn_ref30_digits #[.string s_0] h Q :=
 callU follows Tryd.func75 (Tryd.call75 _) rfl rfl [] [(6, fun e h => dS (e 0) fun s_0 => dI .i64 (e 3) fun i_3 => LoopV (fun (s : Int) h Kn => ref30_digits_l1 s_0 Q s h Kn) i_3 h)]
 trivial
 ⟨⟨by kernel_rfl, fun e h he hk => by
 have F := Ag.nil (e := e)
 have ⟨s_0, F, hk⟩ := eS F hk
 have ⟨i_3, F, hk⟩ := eI F hk
 exact loopU (s0 := i_3) follows (fun _ h => by cases h) he F (fun s => [(3, .int .i64 s)]) (by kernel_rfl) (F.take 1) hk (fun Kn1 e h => dI .i64 (e 3) fun i_3 => Kn1 i_3 h) (fun Kn1 e h hk => by
  have F := Ag.nil (e := e)
  have ⟨i_3, F, hk⟩ := eI F hk
  exact ⟨i_3, F, hk⟩)
  (fun Kn1 => []) (fun Kn1 => [])
  (fun Kn1 => trivial)
  (fun Kn1 => trivial) (fun e s h Kn1 => by as_aux_lemma => kernel_rfl)⟩, trivial⟩ (by as_aux_lemma => kernel_rfl) hk
/-! ### (intrusion/smtp.mail).open -/
def smtp_mail_open_v (Q : QT) (h : Heap) : Prop :=
 alV h (.cells #[] T_smtp_mail) fun t1 h1 => Q (.bool false) h1
set_option maxRecDepth 100000 in
theorem smtp_mail_open_s {Q : QT} {h : Heap} (hk : smtp_mail_open_v Q h) : CallT Tryd.prog fn_smtp_mail_open #[.agg #[]] h Q :=
 callU follows Tryd.func104 (Tryd.call104 _) rfl rfl [] []
 trivial
 trivial (by as_aux_lemma => kernel_rfl) hk
/-! ### (intrusion/smtp.command).open -/
def smtp_command_open_v (c_0_0 : ByteArray) (Q : QT) (h : Heap) : Prop :=
 alV h (.cells #[.string c_0_0] T_smtp_command) fun t1 h1 => ldS h1 t1 fun t4 => if (t4.toList == (⟨#[68, 65, 84, 65]⟩ : ByteArray).toList) = true then (Q (.bool true) h1) else (ldS h1 t1 fun t8 => Q (.bool (t8.toList == (⟨#[83, 84, 65, 82, 84, 84, 76, 83]⟩ : ByteArray).toList)) h1)
set_option maxRecDepth 100000 in
theorem smtp_command_open_s (c_0_0 : ByteArray) {Q : QT} {h : Heap} (hk : smtp_command_open_v c_0_0 Q h) : CallT Tryd.prog fn_smtp_command_open #[.agg #[.string c_0_0]] h Q :=
 callU follows Tryd.func105 (Tryd.call105 _) rfl rfl [] []
 trivial
 trivial (by as_aux_lemma => kernel_rfl) hk
end Go.Proofs.YtdpimhlppflidaaDoor
