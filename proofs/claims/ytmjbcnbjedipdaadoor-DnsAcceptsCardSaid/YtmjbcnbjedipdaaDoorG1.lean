/-
  Printed by wip/tool/gen2.py: verification conditions, and the proof that each suffices.
-/
import Derived.Test.YtmjbcnbjedipdaaDoorProg
import Derived.Test.YtmjbcnbjedipdaaDoorVcTree
namespace Go.Proofs.YtmjbcnbjedipdaaDoor
set_option linter.unusedSimpArgs false
set_option linter.unusedVariables false
set_option maxRecDepth 20000
open Go IntKind
abbrev fn_main_main : FuncId := 0
abbrev fn_gosem_cut : FuncId := 1
abbrev fn_gosem_cut_init : FuncId := 2
abbrev fn_law29_DnsNames : FuncId := 3
abbrev fn_law29_DnsDecodes : FuncId := 4
abbrev fn_law29_DnsEncodes : FuncId := 5
abbrev fn_law29_DnsRoundTrip : FuncId := 6
abbrev fn_law29_DnsAccepts : FuncId := 7
abbrev fn_law29_DnsStreams : FuncId := 8
abbrev fn_law29_DnsPieces : FuncId := 9
abbrev fn_law29_awake : FuncId := 10
abbrev fn_dns_IsName : FuncId := 11
abbrev fn_ref29_IsName : FuncId := 12
abbrev fn_dns_Decode : FuncId := 13
abbrev fn_ref29_Decode : FuncId := 14
abbrev fn_law29_same : FuncId := 15
abbrev fn_law29_large : FuncId := 16
abbrev fn_dns_Encode : FuncId := 17
abbrev fn_ref29_Encode : FuncId := 18
abbrev fn_dns_EncodeShort : FuncId := 19
abbrev fn_ref29_EncodeShort : FuncId := 20
abbrev fn_law29_small : FuncId := 21
abbrev fn_dns_NewStream : FuncId := 22
abbrev fn_ref29_NewStream : FuncId := 23
abbrev fn_dns_Stream_Feed : FuncId := 24
abbrev fn_ref29_Stream_Feed : FuncId := 25
abbrev fn_field_Put : FuncId := 26
abbrev fn_strings_Split : FuncId := 27
abbrev fn_dns_allowed : FuncId := 28
abbrev fn_ref29_labels : FuncId := 29
abbrev fn_ref29_letter : FuncId := 30
abbrev fn_dns_reader_number : FuncId := 31
abbrev fn_dns_reader_name : FuncId := 32
abbrev fn_dns_reader_class : FuncId := 33
abbrev fn_dns_reader_data : FuncId := 34
abbrev fn_ref29_number : FuncId := 35
abbrev fn_ref29_question : FuncId := 36
abbrev fn_ref29_record : FuncId := 37
abbrev fn_dns_encode : FuncId := 38
abbrev fn_ref29_encode : FuncId := 39
abbrev fn_law29_lower : FuncId := 40
abbrev fn_field_valid : FuncId := 41
abbrev fn_strings_genSplit : FuncId := 42
abbrev fn_dns_small : FuncId := 43
abbrev fn_dns_reader_next : FuncId := 44
abbrev fn_dns_reader_name_1 : FuncId := 45
abbrev fn_dns_reader_fail : FuncId := 46
abbrev fn_ref01_Get : FuncId := 47
abbrev fn_ref29_name : FuncId := 48
abbrev fn_ref29_named : FuncId := 49
abbrev fn_dns_check : FuncId := 50
abbrev fn_dns_writer_number : FuncId := 51
abbrev fn_dns_writer_name : FuncId := 52
abbrev fn_dns_lower : FuncId := 53
abbrev fn_dns_writer_data : FuncId := 54
abbrev fn_ref29_check : FuncId := 55
abbrev fn_ref01_Put : FuncId := 56
abbrev fn_ref29_writer_name : FuncId := 57
abbrev fn_strings_explode : FuncId := 58
abbrev fn_strings_Count : FuncId := 59
abbrev fn_strings_Index : FuncId := 60
abbrev fn_ref01_Value : FuncId := 61
abbrev fn_ref29_small : FuncId := 62
abbrev fn_dns_word : FuncId := 63
abbrev fn_dns_named : FuncId := 64
abbrev fn_strings_Cut : FuncId := 65
abbrev fn_ref29_word : FuncId := 66
abbrev fn_ref01_Power : FuncId := 67
abbrev fn_ref29_writer_find : FuncId := 68
abbrev fn_unicode_utf8_RuneCountInString : FuncId := 69
abbrev fn_unicode_utf8_DecodeRuneInString : FuncId := 70
abbrev fn_internal_bytealg_CountString : FuncId := 71
abbrev fn_internal_stringslite_Index : FuncId := 72
abbrev fn_ref26_Apply : FuncId := 73
abbrev fn_internal_stringslite_Cut : FuncId := 74
abbrev fn_unicode_utf8_decodeRuneInStringSlow : FuncId := 75
abbrev fn_internal_stringslite_IndexByte : FuncId := 76
abbrev fn_internal_bytealg_IndexString : FuncId := 77
abbrev fn_internal_bytealg_Cutover : FuncId := 78
abbrev fn_internal_bytealg_IndexRabinKarp_string : FuncId := 79
abbrev fn_ref26_lower : FuncId := 80
abbrev fn_ref26_strip : FuncId := 81
abbrev fn_ref26_percent : FuncId := 82
abbrev fn_ref26_base64 : FuncId := 83
abbrev fn_ref26_path : FuncId := 84
abbrev fn_ref26_hex : FuncId := 85
abbrev fn_internal_bytealg_IndexByteString : FuncId := 86
abbrev fn_internal_bytealg_hashStr_string : FuncId := 87
abbrev fn_ref26_digit : FuncId := 88
abbrev fn_ref26_segments : FuncId := 89
abbrev fn_runtime_boundsError_Error : FuncId := 90
abbrev fn_runtime_boundsError_RuntimeError : FuncId := 91
abbrev fn_runtime_errorString_Error : FuncId := 92
abbrev fn_runtime_errorString_RuntimeError : FuncId := 93
abbrev fn_runtime_plainError_Error : FuncId := 94
abbrev fn_runtime_plainError_RuntimeError : FuncId := 95
abbrev fn_runtime_errorAddressString_Error : FuncId := 96
abbrev fn_runtime_errorAddressString_RuntimeError : FuncId := 97
abbrev fn_runtime_TypeAssertionError_Error : FuncId := 98
abbrev fn_runtime_TypeAssertionError_RuntimeError : FuncId := 99
abbrev fn_runtime_PanicNilError_Error : FuncId := 100
abbrev fn_runtime_PanicNilError_RuntimeError : FuncId := 101
abbrev fn_internal_abi_Type_Align : FuncId := 102
abbrev fn_internal_runtime_maps_unhashableTypeError_Error : FuncId := 103
abbrev fn_internal_runtime_maps_unhashableTypeError_RuntimeError : FuncId := 104
abbrev fn_api_Errno_Error : FuncId := 105
abbrev fn_internal_abi_Kind_String : FuncId := 106
abbrev fn_var_s_door_gosem_cut_vars_holds_initialisers_alone_see_the_manifest_s_row_cutvarsword_look_11_test_files_too : FuncId := 107
abbrev fn_var_s_door_the_look_of_gosem_cut_vars_went_over_the_folder_that_the_caller_named_as_the_repository_s_root_look_11 : FuncId := 108
abbrev fn_var_s_door_unicode_utf8_acceptRanges_is_laid_by_its_own_initialiser_plain_data_look_11 : FuncId := 109
abbrev fn_var_s_door_unicode_utf8_first_is_laid_by_its_text_alone_pinned_1 : FuncId := 110
abbrev fn_gosem_cut_vars : FuncId := 111
abbrev T_t : TypeId := 0
abbrev T_func : TypeId := 1
abbrev T_int64 : TypeId := 2
abbrev T_int : TypeId := 3
abbrev T_bool : TypeId := 4
abbrev T_uint8 : TypeId := 5
abbrev T_abi_BoundsErrorCode : TypeId := 6
abbrev T_struct_x_int64_y_int_signed_bool_code_abi_BoundsErrorCode : TypeId := 7
abbrev T_runtime_boundsError : TypeId := 8
abbrev T_string : TypeId := 9
abbrev T_runtime_errorString : TypeId := 10
abbrev T_runtime_plainError : TypeId := 11
abbrev T_uintptr : TypeId := 12
abbrev T_struct_msg_string_addr_uintptr : TypeId := 13
abbrev T_runtime_errorAddressString : TypeId := 14
abbrev T_p_runtime_TypeAssertionError : TypeId := 15
abbrev T_p_runtime_PanicNilError : TypeId := 16
abbrev T_p_abi_Type : TypeId := 17
abbrev T_struct_typ_p_abi_Type : TypeId := 18
abbrev T_maps_unhashableTypeError : TypeId := 19
abbrev T_interface : TypeId := 20
abbrev T_int32 : TypeId := 21
abbrev T_func_bool : TypeId := 22
abbrev T_func_string_bool : TypeId := 23
abbrev T_sl_api_DnsQuestion : TypeId := 24
abbrev T_sl_api_DnsRecord : TypeId := 25
abbrev T_struct_Id_int_Flags_int_Questions_sl_api_DnsQuestion_Answe : TypeId := 26
abbrev T_api_Dns : TypeId := 27
abbrev T_api_Errno : TypeId := 28
abbrev T_api_Dns_api_Errno : TypeId := 29
abbrev T_func_string_api_Dns_api_Errno : TypeId := 30
abbrev T_func_api_Dns_api_Dns_bool : TypeId := 31
abbrev T_func_api_Dns_bool : TypeId := 32
abbrev T_string_api_Errno : TypeId := 33
abbrev T_func_api_Dns_string_api_Errno : TypeId := 34
abbrev T_func_api_Dns_api_Dns : TypeId := 35
abbrev T_sl_string : TypeId := 36
abbrev T_p_dns_Stream : TypeId := 37
abbrev T_func_p_dns_Stream : TypeId := 38
abbrev T_p_intrusionref29_Stream : TypeId := 39
abbrev T_func_p_intrusionref29_Stream : TypeId := 40
abbrev T_sl_string_api_Errno : TypeId := 41
abbrev T_func_string_sl_string_api_Errno : TypeId := 42
abbrev T_func_sl_string_bool : TypeId := 43
abbrev T_func_int_int_string : TypeId := 44
abbrev T_func_sl_string_int_bool : TypeId := 45
abbrev T_struct_Name_string_Type_int : TypeId := 46
abbrev T_api_DnsQuestion : TypeId := 47
abbrev T_struct_Name_string_Type_int_Ttl_int_Data_string : TypeId := 48
abbrev T_api_DnsRecord : TypeId := 49
abbrev T_func_string_string_sl_string : TypeId := 50
abbrev T_func_uint8_bool : TypeId := 51
abbrev T_func_string_sl_string : TypeId := 52
abbrev T_p_dns_reader : TypeId := 53
abbrev T_struct_s_string_at_int_e_api_Errno : TypeId := 54
abbrev T_dns_reader : TypeId := 55
abbrev T_func_int_int : TypeId := 56
abbrev T_func_string : TypeId := 57
abbrev T_func_string_int_int_int : TypeId := 58
abbrev T_api_DnsQuestion_int_api_Errno : TypeId := 59
abbrev T_func_string_int_api_DnsQuestion_int_api_Errno : TypeId := 60
abbrev T_api_DnsRecord_int_api_Errno : TypeId := 61
abbrev T_func_string_int_api_DnsRecord_int_api_Errno : TypeId := 62
abbrev T_func_api_Dns_map_string_int_string_api_Errno : TypeId := 63
abbrev T_func_api_Dns_bool_string_api_Errno : TypeId := 64
abbrev T_map_string_int : TypeId := 65
abbrev T_func_string_string : TypeId := 66
abbrev T_struct_rest_string_dead_bool : TypeId := 67
abbrev T_dns_Stream : TypeId := 68
abbrev T_struct_wait_string_bad_bool : TypeId := 69
abbrev T_intrusionref29_Stream : TypeId := 70
abbrev T_uint : TypeId := 71
abbrev T_func_int_bool : TypeId := 72
abbrev T_sl_uint8 : TypeId := 73
abbrev T_func_string_string_int_int_sl_string : TypeId := 74
abbrev T_func_uint8_uint8 : TypeId := 75
abbrev T_func_int : TypeId := 76
abbrev T_func_api_Errno : TypeId := 77
abbrev T_func_int_2 : TypeId := 78
abbrev T_int_api_Errno : TypeId := 79
abbrev T_func_string_int_int_int_api_Errno : TypeId := 80
abbrev T_string_int_api_Errno : TypeId := 81
abbrev T_func_string_int_string_int_api_Errno : TypeId := 82
abbrev T_func_api_Dns_api_Errno : TypeId := 83
abbrev T_p_dns_writer : TypeId := 84
abbrev T_struct_out_sl_uint8_seen_map_string_int : TypeId := 85
abbrev T_dns_writer : TypeId := 86
abbrev T_sl_int : TypeId := 87
abbrev T_func_int_int_2 : TypeId := 88
abbrev T_func_string_2 : TypeId := 89
abbrev T_func_int_string : TypeId := 90
abbrev T_p_intrusionref29_writer : TypeId := 91
abbrev T_sl_intrusionref29_place : TypeId := 92
abbrev T_struct_s_string_short_bool_seen_sl_intrusionref29_place : TypeId := 93
abbrev T_intrusionref29_writer : TypeId := 94
abbrev T_func_string_int_sl_string : TypeId := 95
abbrev T_func_string_string_int : TypeId := 96
abbrev T_func_string_int : TypeId := 97
abbrev T_func_int_string_bool : TypeId := 98
abbrev T_int_bool : TypeId := 99
abbrev T_string_string_bool : TypeId := 100
abbrev T_func_string_string_string_string_bool : TypeId := 101
abbrev T_struct_suffix_string_at_int : TypeId := 102
abbrev T_intrusionref29_place : TypeId := 103
abbrev T_int32_int : TypeId := 104
abbrev T_func_string_int32_int : TypeId := 105
abbrev T_func_string_uint8_int : TypeId := 106
abbrev T_func_int_string_string : TypeId := 107
abbrev T_256_uint8 : TypeId := 108
abbrev T_struct_lo_uint8_hi_uint8 : TypeId := 109
abbrev T_utf8_acceptRange : TypeId := 110
abbrev T_16_utf8_acceptRange : TypeId := 111
abbrev T_uint32 : TypeId := 112
abbrev T_uint32_uint32 : TypeId := 113
abbrev T_func_string_uint32_uint32 : TypeId := 114
abbrev T_func_uint8_int : TypeId := 115
abbrev T_struct__interface_p_abi_Type_concrete_p_abi_Type_asserted_ : TypeId := 116
abbrev T_runtime_TypeAssertionError : TypeId := 117
abbrev T_0_p_runtime_PanicNilError : TypeId := 118
abbrev T_struct___0_p_runtime_PanicNilError : TypeId := 119
abbrev T_runtime_PanicNilError : TypeId := 120
abbrev T_abi_TFlag : TypeId := 121
abbrev T_abi_Kind : TypeId := 122
abbrev T_func_unsafe_Pointer_unsafe_Pointer_bool : TypeId := 123
abbrev T_p_uint8 : TypeId := 124
abbrev T_abi_NameOff : TypeId := 125
abbrev T_abi_TypeOff : TypeId := 126
abbrev T_struct_Size__uintptr_PtrBytes_uintptr_Hash_uint32_TFlag_ab : TypeId := 127
abbrev T_abi_Type : TypeId := 128
abbrev T_unsafe_Pointer : TypeId := 129
theorem follows : Tryd.prog.follows .mixedOrders = true := by kernel_rfl
variable [Gh]
/-! ### intrusion/intrusionlaw29.DnsNames -/
def law29_DnsNames_v (s_0 : ByteArray) (Q : QT) (h : Heap) : Prop :=
 if (decide (((s_0.size : Nat) : Int) > 2000)) = true then (CallT Tryd.prog fn_law29_awake #[] h fun v h1 => ∃ t7 : Bool, v = .bool t7 ∧ if t7 = true then (Q (.bool true) h1) else (CallT Tryd.prog fn_dns_IsName #[.string s_0] h1 fun v h2 => ∃ t11 : Bool, v = .bool t11 ∧ CallT Tryd.prog fn_ref29_IsName #[.string s_0] h2 fun v h3 => ∃ t13 : Bool, v = .bool t13 ∧ if (t11 == t13) = true then (CallT Tryd.prog fn_law29_awake #[] h3 fun v h4 => ∃ t16 : Bool, v = .bool t16 ∧ Q (.bool t16) h4) else (Q (.bool false) h3))) else (CallT Tryd.prog fn_dns_IsName #[.string s_0] h fun v h5 => ∃ t11 : Bool, v = .bool t11 ∧ CallT Tryd.prog fn_ref29_IsName #[.string s_0] h5 fun v h6 => ∃ t13 : Bool, v = .bool t13 ∧ if (t11 == t13) = true then (CallT Tryd.prog fn_law29_awake #[] h6 fun v h7 => ∃ t16 : Bool, v = .bool t16 ∧ Q (.bool t16) h7) else (Q (.bool false) h6))
set_option maxRecDepth 100000 in
theorem law29_DnsNames_s (s_0 : ByteArray) {Q : QT} {h : Heap} (hk : law29_DnsNames_v s_0 Q h) : CallT Tryd.prog fn_law29_DnsNames #[.string s_0] h Q :=
 callU follows Tryd.func3 (Tryd.call3 _) rfl rfl [] []
 trivial
 trivial (by as_aux_lemma => kernel_rfl) hk
/-! ### intrusion/intrusionlaw29.DnsDecodes -/
def law29_DnsDecodes_v (s_0 : ByteArray) (Q : QT) (h : Heap) : Prop :=
 if (decide (((s_0.size : Nat) : Int) > 10000)) = true then (CallT Tryd.prog fn_law29_awake #[] h fun v h1 => ∃ t10 : Bool, v = .bool t10 ∧ Q (.bool t10) h1) else (CallT Tryd.prog fn_dns_Decode #[.string s_0] h fun v h2 => ∃ t13_0_0 : Int, ∃ t13_0_1 : Int, ∃ t13_0_2a : Option Addr, ∃ t13_0_2n : Nat, ∃ t13_0_2c : Nat, ∃ t13_0_3a : Option Addr, ∃ t13_0_3n : Nat, ∃ t13_0_3c : Nat, ∃ t13_1 : Int, v = .tuple #[.agg #[.int .i64 t13_0_0, .int .i64 t13_0_1, .slice t13_0_2a t13_0_2n t13_0_2c, .slice t13_0_3a t13_0_3n t13_0_3c], .int .i64 t13_1] ∧ alV h2 (.cells #[.int .i64 0, .int .i64 0, .slice none 0 0, .slice none 0 0] T_api_Dns) fun t3 h3 => stN h3 t3 [.int .i64 t13_0_0, .int .i64 t13_0_1, .slice t13_0_2a t13_0_2n t13_0_2c, .slice t13_0_3a t13_0_3n t13_0_3c] 0 fun h4 => CallT Tryd.prog fn_ref29_Decode #[.string s_0] h4 fun v h5 => ∃ t18_0_0 : Int, ∃ t18_0_1 : Int, ∃ t18_0_2a : Option Addr, ∃ t18_0_2n : Nat, ∃ t18_0_2c : Nat, ∃ t18_0_3a : Option Addr, ∃ t18_0_3n : Nat, ∃ t18_0_3c : Nat, ∃ t18_1 : Int, v = .tuple #[.agg #[.int .i64 t18_0_0, .int .i64 t18_0_1, .slice t18_0_2a t18_0_2n t18_0_2c, .slice t18_0_3a t18_0_3n t18_0_3c], .int .i64 t18_1] ∧ alV h5 (.cells #[.int .i64 0, .int .i64 0, .slice none 0 0, .slice none 0 0] T_api_Dns) fun t5 h6 => stN h6 t5 [.int .i64 t18_0_0, .int .i64 t18_0_1, .slice t18_0_2a t18_0_2n t18_0_2c, .slice t18_0_3a t18_0_3n t18_0_3c] 0 fun h7 => ldI h7 t3 .i64 fun t21_0 => ldI h7 (Addr.add t3 1) .i64 fun t21_1 => ldL h7 (Addr.add t3 2) fun t21_2a t21_2n t21_2c => ldL h7 (Addr.add t3 3) fun t21_3a t21_3n t21_3c => ldI h7 t5 .i64 fun t22_0 => ldI h7 (Addr.add t5 1) .i64 fun t22_1 => ldL h7 (Addr.add t5 2) fun t22_2a t22_2n t22_2c => ldL h7 (Addr.add t5 3) fun t22_3a t22_3n t22_3c => CallT Tryd.prog fn_law29_same #[.agg #[.int .i64 t21_0, .int .i64 t21_1, .slice t21_2a t21_2n t21_2c, .slice t21_3a t21_3n t21_3c], .agg #[.int .i64 t22_0, .int .i64 t22_1, .slice t22_2a t22_2n t22_2c, .slice t22_3a t22_3n t22_3c]] h7 fun v h8 => ∃ t23 : Bool, v = .bool t23 ∧ if t23 = true then (if (t13_1 == t18_1) = true then (CallT Tryd.prog fn_law29_awake #[] h8 fun v h9 => ∃ t30 : Bool, v = .bool t30 ∧ Q (.bool t30) h9) else (Q (.bool false) h8)) else (Q (.bool false) h8))
set_option maxRecDepth 100000 in
theorem law29_DnsDecodes_s (s_0 : ByteArray) {Q : QT} {h : Heap} (hk : law29_DnsDecodes_v s_0 Q h) : CallT Tryd.prog fn_law29_DnsDecodes #[.string s_0] h Q :=
 callU follows Tryd.func4 (Tryd.call4 _) rfl rfl [] []
 trivial
 trivial (by as_aux_lemma => kernel_rfl) hk
/-! ### intrusion/intrusionlaw29.DnsEncodes -/
def law29_DnsEncodes_v (d_0_0 d_0_1 : Int) (d_0_2a : Option Addr) (d_0_2n d_0_2c : Nat) (d_0_3a : Option Addr) (d_0_3n d_0_3c : Nat) (Q : QT) (h : Heap) : Prop :=
 alV h (.cells #[.int .i64 d_0_0, .int .i64 d_0_1, .slice d_0_2a d_0_2n d_0_2c, .slice d_0_3a d_0_3n d_0_3c] T_api_Dns) fun t1 h1 => ldI h1 t1 .i64 fun t11_0 => ldI h1 (Addr.add t1 1) .i64 fun t11_1 => ldL h1 (Addr.add t1 2) fun t11_2a t11_2n t11_2c => ldL h1 (Addr.add t1 3) fun t11_3a t11_3n t11_3c => CallT Tryd.prog fn_law29_large #[.agg #[.int .i64 t11_0, .int .i64 t11_1, .slice t11_2a t11_2n t11_2c, .slice t11_3a t11_3n t11_3c]] h1 fun v h2 => ∃ t12 : Bool, v = .bool t12 ∧ if t12 = true then (CallT Tryd.prog fn_law29_awake #[] h2 fun v h3 => ∃ t13 : Bool, v = .bool t13 ∧ Q (.bool t13) h3) else (ldI h2 t1 .i64 fun t15_0 => ldI h2 (Addr.add t1 1) .i64 fun t15_1 => ldL h2 (Addr.add t1 2) fun t15_2a t15_2n t15_2c => ldL h2 (Addr.add t1 3) fun t15_3a t15_3n t15_3c => CallT Tryd.prog fn_dns_Encode #[.agg #[.int .i64 t15_0, .int .i64 t15_1, .slice t15_2a t15_2n t15_2c, .slice t15_3a t15_3n t15_3c]] h2 fun v h4 => ∃ t16_0 : ByteArray, ∃ t16_1 : Int, v = .tuple #[.string t16_0, .int .i64 t16_1] ∧ ldI h4 t1 .i64 fun t20_0 => ldI h4 (Addr.add t1 1) .i64 fun t20_1 => ldL h4 (Addr.add t1 2) fun t20_2a t20_2n t20_2c => ldL h4 (Addr.add t1 3) fun t20_3a t20_3n t20_3c => CallT Tryd.prog fn_ref29_Encode #[.agg #[.int .i64 t20_0, .int .i64 t20_1, .slice t20_2a t20_2n t20_2c, .slice t20_3a t20_3n t20_3c]] h4 fun v h5 => ∃ t21_0 : ByteArray, ∃ t21_1 : Int, v = .tuple #[.string t21_0, .int .i64 t21_1] ∧ ldI h5 t1 .i64 fun t25_0 => ldI h5 (Addr.add t1 1) .i64 fun t25_1 => ldL h5 (Addr.add t1 2) fun t25_2a t25_2n t25_2c => ldL h5 (Addr.add t1 3) fun t25_3a t25_3n t25_3c => CallT Tryd.prog fn_dns_EncodeShort #[.agg #[.int .i64 t25_0, .int .i64 t25_1, .slice t25_2a t25_2n t25_2c, .slice t25_3a t25_3n t25_3c]] h5 fun v h6 => ∃ t26_0 : ByteArray, ∃ t26_1 : Int, v = .tuple #[.string t26_0, .int .i64 t26_1] ∧ ldI h6 t1 .i64 fun t30_0 => ldI h6 (Addr.add t1 1) .i64 fun t30_1 => ldL h6 (Addr.add t1 2) fun t30_2a t30_2n t30_2c => ldL h6 (Addr.add t1 3) fun t30_3a t30_3n t30_3c => CallT Tryd.prog fn_ref29_EncodeShort #[.agg #[.int .i64 t30_0, .int .i64 t30_1, .slice t30_2a t30_2n t30_2c, .slice t30_3a t30_3n t30_3c]] h6 fun v h7 => ∃ t31_0 : ByteArray, ∃ t31_1 : Int, v = .tuple #[.string t31_0, .int .i64 t31_1] ∧ if (t16_0.toList == t21_0.toList) = true then (if (t16_1 == t21_1) = true then (if (t26_0.toList == t31_0.toList) = true then (if (t26_1 == t31_1) = true then (CallT Tryd.prog fn_law29_awake #[] h7 fun v h8 => ∃ t53 : Bool, v = .bool t53 ∧ Q (.bool t53) h8) else (Q (.bool false) h7)) else (Q (.bool false) h7)) else (Q (.bool false) h7)) else (Q (.bool false) h7))
set_option maxRecDepth 100000 in
theorem law29_DnsEncodes_s (d_0_0 d_0_1 : Int) (d_0_2a : Option Addr) (d_0_2n d_0_2c : Nat) (d_0_3a : Option Addr) (d_0_3n d_0_3c : Nat) {Q : QT} {h : Heap} (hk : law29_DnsEncodes_v d_0_0 d_0_1 d_0_2a d_0_2n d_0_2c d_0_3a d_0_3n d_0_3c Q h) : CallT Tryd.prog fn_law29_DnsEncodes #[.agg #[.int .i64 d_0_0, .int .i64 d_0_1, .slice d_0_2a d_0_2n d_0_2c, .slice d_0_3a d_0_3n d_0_3c]] h Q :=
 callU follows Tryd.func5 (Tryd.call5 _) rfl rfl [] []
 trivial
 trivial (by as_aux_lemma => kernel_rfl) hk
/-! ### intrusion/intrusionlaw29.DnsRoundTrip -/
def law29_DnsRoundTrip_v (d_0_0 d_0_1 : Int) (d_0_2a : Option Addr) (d_0_2n d_0_2c : Nat) (d_0_3a : Option Addr) (d_0_3n d_0_3c : Nat) (Q : QT) (h : Heap) : Prop :=
 alV h (.cells #[.int .i64 d_0_0, .int .i64 d_0_1, .slice d_0_2a d_0_2n d_0_2c, .slice d_0_3a d_0_3n d_0_3c] T_api_Dns) fun t1 h1 => ldI h1 t1 .i64 fun t11_0 => ldI h1 (Addr.add t1 1) .i64 fun t11_1 => ldL h1 (Addr.add t1 2) fun t11_2a t11_2n t11_2c => ldL h1 (Addr.add t1 3) fun t11_3a t11_3n t11_3c => CallT Tryd.prog fn_law29_large #[.agg #[.int .i64 t11_0, .int .i64 t11_1, .slice t11_2a t11_2n t11_2c, .slice t11_3a t11_3n t11_3c]] h1 fun v h2 => ∃ t12 : Bool, v = .bool t12 ∧ if t12 = true then (CallT Tryd.prog fn_law29_awake #[] h2 fun v h3 => ∃ t13 : Bool, v = .bool t13 ∧ Q (.bool t13) h3) else (ldI h2 t1 .i64 fun t15_0 => ldI h2 (Addr.add t1 1) .i64 fun t15_1 => ldL h2 (Addr.add t1 2) fun t15_2a t15_2n t15_2c => ldL h2 (Addr.add t1 3) fun t15_3a t15_3n t15_3c => CallT Tryd.prog fn_dns_Encode #[.agg #[.int .i64 t15_0, .int .i64 t15_1, .slice t15_2a t15_2n t15_2c, .slice t15_3a t15_3n t15_3c]] h2 fun v h4 => ∃ t16_0 : ByteArray, ∃ t16_1 : Int, v = .tuple #[.string t16_0, .int .i64 t16_1] ∧ ldI h4 t1 .i64 fun t20_0 => ldI h4 (Addr.add t1 1) .i64 fun t20_1 => ldL h4 (Addr.add t1 2) fun t20_2a t20_2n t20_2c => ldL h4 (Addr.add t1 3) fun t20_3a t20_3n t20_3c => CallT Tryd.prog fn_dns_EncodeShort #[.agg #[.int .i64 t20_0, .int .i64 t20_1, .slice t20_2a t20_2n t20_2c, .slice t20_3a t20_3n t20_3c]] h4 fun v h5 => ∃ t21_0 : ByteArray, ∃ t21_1 : Int, v = .tuple #[.string t21_0, .int .i64 t21_1] ∧ if (t16_1 != 0) = true then (if (t16_0.toList == (⟨#[]⟩ : ByteArray).toList) = true then (if (t21_1 == t16_1) = true then (CallT Tryd.prog fn_law29_awake #[] h5 fun v h6 => ∃ t38 : Bool, v = .bool t38 ∧ Q (.bool t38) h6) else (if (t16_1 == 3) = true then (CallT Tryd.prog fn_law29_awake #[] h5 fun v h7 => ∃ t38 : Bool, v = .bool t38 ∧ Q (.bool t38) h7) else (Q (.bool false) h5))) else (Q (.bool false) h5)) else (CallT Tryd.prog fn_dns_Decode #[.string t16_0] h5 fun v h8 => ∃ t42_0_0 : Int, ∃ t42_0_1 : Int, ∃ t42_0_2a : Option Addr, ∃ t42_0_2n : Nat, ∃ t42_0_2c : Nat, ∃ t42_0_3a : Option Addr, ∃ t42_0_3n : Nat, ∃ t42_0_3c : Nat, ∃ t42_1 : Int, v = .tuple #[.agg #[.int .i64 t42_0_0, .int .i64 t42_0_1, .slice t42_0_2a t42_0_2n t42_0_2c, .slice t42_0_3a t42_0_3n t42_0_3c], .int .i64 t42_1] ∧ alV h8 (.cells #[.int .i64 0, .int .i64 0, .slice none 0 0, .slice none 0 0] T_api_Dns) fun t7 h9 => stN h9 t7 [.int .i64 t42_0_0, .int .i64 t42_0_1, .slice t42_0_2a t42_0_2n t42_0_2c, .slice t42_0_3a t42_0_3n t42_0_3c] 0 fun h10 => CallT Tryd.prog fn_dns_Decode #[.string t21_0] h10 fun v h11 => ∃ t47_0_0 : Int, ∃ t47_0_1 : Int, ∃ t47_0_2a : Option Addr, ∃ t47_0_2n : Nat, ∃ t47_0_2c : Nat, ∃ t47_0_3a : Option Addr, ∃ t47_0_3n : Nat, ∃ t47_0_3c : Nat, ∃ t47_1 : Int, v = .tuple #[.agg #[.int .i64 t47_0_0, .int .i64 t47_0_1, .slice t47_0_2a t47_0_2n t47_0_2c, .slice t47_0_3a t47_0_3n t47_0_3c], .int .i64 t47_1] ∧ alV h11 (.cells #[.int .i64 0, .int .i64 0, .slice none 0 0, .slice none 0 0] T_api_Dns) fun t9 h12 => stN h12 t9 [.int .i64 t47_0_0, .int .i64 t47_0_1, .slice t47_0_2a t47_0_2n t47_0_2c, .slice t47_0_3a t47_0_3n t47_0_3c] 0 fun h13 => if (t21_1 == 0) = true then (if (t42_1 == 0) = true then (if (t47_1 == 0) = true then (ldI h13 t7 .i64 fun t61_0 => ldI h13 (Addr.add t7 1) .i64 fun t61_1 => ldL h13 (Addr.add t7 2) fun t61_2a t61_2n t61_2c => ldL h13 (Addr.add t7 3) fun t61_3a t61_3n t61_3c => ldI h13 t1 .i64 fun t62_0 => ldI h13 (Addr.add t1 1) .i64 fun t62_1 => ldL h13 (Addr.add t1 2) fun t62_2a t62_2n t62_2c => ldL h13 (Addr.add t1 3) fun t62_3a t62_3n t62_3c => CallT Tryd.prog fn_law29_small #[.agg #[.int .i64 t62_0, .int .i64 t62_1, .slice t62_2a t62_2n t62_2c, .slice t62_3a t62_3n t62_3c]] h13 fun v h14 => ∃ t63_0 : Int, ∃ t63_1 : Int, ∃ t63_2a : Option Addr, ∃ t63_2n : Nat, ∃ t63_2c : Nat, ∃ t63_3a : Option Addr, ∃ t63_3n : Nat, ∃ t63_3c : Nat, v = .agg #[.int .i64 t63_0, .int .i64 t63_1, .slice t63_2a t63_2n t63_2c, .slice t63_3a t63_3n t63_3c] ∧ (ldI h14 t7 .i64 fun t961_0 => ldI h14 (Addr.add t7 1) .i64 fun t961_1 => ldL h14 (Addr.add t7 2) fun t961_2a t961_2n t961_2c => ldL h14 (Addr.add t7 3) fun t961_3a t961_3n t961_3c => (.agg #[.int .i64 t961_0, .int .i64 t961_1, .slice t961_2a t961_2n t961_2c, .slice t961_3a t961_3n t961_3c] : Value) = .agg #[.int .i64 t61_0, .int .i64 t61_1, .slice t61_2a t61_2n t61_2c, .slice t61_3a t61_3n t61_3c]) ∧ CallT Tryd.prog fn_law29_same #[.agg #[.int .i64 t61_0, .int .i64 t61_1, .slice t61_2a t61_2n t61_2c, .slice t61_3a t61_3n t61_3c], .agg #[.int .i64 t63_0, .int .i64 t63_1, .slice t63_2a t63_2n t63_2c, .slice t63_3a t63_3n t63_3c]] h14 fun v h15 => ∃ t64 : Bool, v = .bool t64 ∧ if t64 = true then (ldI h15 t9 .i64 fun t67_0 => ldI h15 (Addr.add t9 1) .i64 fun t67_1 => ldL h15 (Addr.add t9 2) fun t67_2a t67_2n t67_2c => ldL h15 (Addr.add t9 3) fun t67_3a t67_3n t67_3c => ldI h15 t1 .i64 fun t68_0 => ldI h15 (Addr.add t1 1) .i64 fun t68_1 => ldL h15 (Addr.add t1 2) fun t68_2a t68_2n t68_2c => ldL h15 (Addr.add t1 3) fun t68_3a t68_3n t68_3c => CallT Tryd.prog fn_law29_small #[.agg #[.int .i64 t68_0, .int .i64 t68_1, .slice t68_2a t68_2n t68_2c, .slice t68_3a t68_3n t68_3c]] h15 fun v h16 => ∃ t69_0 : Int, ∃ t69_1 : Int, ∃ t69_2a : Option Addr, ∃ t69_2n : Nat, ∃ t69_2c : Nat, ∃ t69_3a : Option Addr, ∃ t69_3n : Nat, ∃ t69_3c : Nat, v = .agg #[.int .i64 t69_0, .int .i64 t69_1, .slice t69_2a t69_2n t69_2c, .slice t69_3a t69_3n t69_3c] ∧ (ldI h16 t9 .i64 fun t967_0 => ldI h16 (Addr.add t9 1) .i64 fun t967_1 => ldL h16 (Addr.add t9 2) fun t967_2a t967_2n t967_2c => ldL h16 (Addr.add t9 3) fun t967_3a t967_3n t967_3c => (.agg #[.int .i64 t967_0, .int .i64 t967_1, .slice t967_2a t967_2n t967_2c, .slice t967_3a t967_3n t967_3c] : Value) = .agg #[.int .i64 t67_0, .int .i64 t67_1, .slice t67_2a t67_2n t67_2c, .slice t67_3a t67_3n t67_3c]) ∧ CallT Tryd.prog fn_law29_same #[.agg #[.int .i64 t67_0, .int .i64 t67_1, .slice t67_2a t67_2n t67_2c, .slice t67_3a t67_3n t67_3c], .agg #[.int .i64 t69_0, .int .i64 t69_1, .slice t69_2a t69_2n t69_2c, .slice t69_3a t69_3n t69_3c]] h16 fun v h17 => ∃ t70 : Bool, v = .bool t70 ∧ if t70 = true then (if (decide (((t21_0.size : Nat) : Int) ≤ ((t16_0.size : Nat) : Int))) = true then (CallT Tryd.prog fn_law29_awake #[] h17 fun v h18 => ∃ t80 : Bool, v = .bool t80 ∧ Q (.bool t80) h18) else (Q (.bool false) h17)) else (Q (.bool false) h17)) else (Q (.bool false) h15)) else (Q (.bool false) h13)) else (Q (.bool false) h13)) else (Q (.bool false) h13)))
set_option maxRecDepth 100000 in
theorem law29_DnsRoundTrip_s (d_0_0 d_0_1 : Int) (d_0_2a : Option Addr) (d_0_2n d_0_2c : Nat) (d_0_3a : Option Addr) (d_0_3n d_0_3c : Nat) {Q : QT} {h : Heap} (hk : law29_DnsRoundTrip_v d_0_0 d_0_1 d_0_2a d_0_2n d_0_2c d_0_3a d_0_3n d_0_3c Q h) : CallT Tryd.prog fn_law29_DnsRoundTrip #[.agg #[.int .i64 d_0_0, .int .i64 d_0_1, .slice d_0_2a d_0_2n d_0_2c, .slice d_0_3a d_0_3n d_0_3c]] h Q :=
 callU follows Tryd.func6 (Tryd.call6 _) rfl rfl [] []
 trivial
 trivial (by as_aux_lemma => kernel_rfl) hk
/-! ### intrusion/intrusionlaw29.DnsAccepts -/
def law29_DnsAccepts_v (s_0 : ByteArray) (Q : QT) (h : Heap) : Prop :=
 if (decide (((s_0.size : Nat) : Int) > 3000)) = true then (CallT Tryd.prog fn_law29_awake #[] h fun v h1 => ∃ t12 : Bool, v = .bool t12 ∧ Q (.bool t12) h1) else (CallT Tryd.prog fn_dns_Decode #[.string s_0] h fun v h2 => ∃ t15_0_0 : Int, ∃ t15_0_1 : Int, ∃ t15_0_2a : Option Addr, ∃ t15_0_2n : Nat, ∃ t15_0_2c : Nat, ∃ t15_0_3a : Option Addr, ∃ t15_0_3n : Nat, ∃ t15_0_3c : Nat, ∃ t15_1 : Int, v = .tuple #[.agg #[.int .i64 t15_0_0, .int .i64 t15_0_1, .slice t15_0_2a t15_0_2n t15_0_2c, .slice t15_0_3a t15_0_3n t15_0_3c], .int .i64 t15_1] ∧ alV h2 (.cells #[.int .i64 0, .int .i64 0, .slice none 0 0, .slice none 0 0] T_api_Dns) fun t3 h3 => stN h3 t3 [.int .i64 t15_0_0, .int .i64 t15_0_1, .slice t15_0_2a t15_0_2n t15_0_2c, .slice t15_0_3a t15_0_3n t15_0_3c] 0 fun h4 => if (t15_1 != 0) = true then (ldI h4 t3 .i64 fun t20_0 => ldI h4 (Addr.add t3 1) .i64 fun t20_1 => ldL h4 (Addr.add t3 2) fun t20_2a t20_2n t20_2c => ldL h4 (Addr.add t3 3) fun t20_3a t20_3n t20_3c => CallT Tryd.prog fn_law29_same #[.agg #[.int .i64 t20_0, .int .i64 t20_1, .slice t20_2a t20_2n t20_2c, .slice t20_3a t20_3n t20_3c], .agg #[.int .i64 0, .int .i64 0, .slice none 0 0, .slice none 0 0]] h4 fun v h5 => ∃ t22 : Bool, v = .bool t22 ∧ if t22 = true then (CallT Tryd.prog fn_law29_awake #[] h5 fun v h6 => ∃ t24 : Bool, v = .bool t24 ∧ Q (.bool t24) h6) else (Q (.bool false) h5)) else (ldI h4 t3 .i64 fun t27_0 => ldI h4 (Addr.add t3 1) .i64 fun t27_1 => ldL h4 (Addr.add t3 2) fun t27_2a t27_2n t27_2c => ldL h4 (Addr.add t3 3) fun t27_3a t27_3n t27_3c => CallT Tryd.prog fn_dns_EncodeShort #[.agg #[.int .i64 t27_0, .int .i64 t27_1, .slice t27_2a t27_2n t27_2c, .slice t27_3a t27_3n t27_3c]] h4 fun v h7 => ∃ t28_0 : ByteArray, ∃ t28_1 : Int, v = .tuple #[.string t28_0, .int .i64 t28_1] ∧ CallT Tryd.prog fn_dns_Decode #[.string t28_0] h7 fun v h8 => ∃ t33_0_0 : Int, ∃ t33_0_1 : Int, ∃ t33_0_2a : Option Addr, ∃ t33_0_2n : Nat, ∃ t33_0_2c : Nat, ∃ t33_0_3a : Option Addr, ∃ t33_0_3n : Nat, ∃ t33_0_3c : Nat, ∃ t33_1 : Int, v = .tuple #[.agg #[.int .i64 t33_0_0, .int .i64 t33_0_1, .slice t33_0_2a t33_0_2n t33_0_2c, .slice t33_0_3a t33_0_3n t33_0_3c], .int .i64 t33_1] ∧ alV h8 (.cells #[.int .i64 0, .int .i64 0, .slice none 0 0, .slice none 0 0] T_api_Dns) fun t7 h9 => stN h9 t7 [.int .i64 t33_0_0, .int .i64 t33_0_1, .slice t33_0_2a t33_0_2n t33_0_2c, .slice t33_0_3a t33_0_3n t33_0_3c] 0 fun h10 => if (t28_1 == 0) = true then (if (t33_1 == 0) = true then (ldI h10 t3 .i64 fun t43_0 => ldI h10 (Addr.add t3 1) .i64 fun t43_1 => ldL h10 (Addr.add t3 2) fun t43_2a t43_2n t43_2c => ldL h10 (Addr.add t3 3) fun t43_3a t43_3n t43_3c => ldI h10 t7 .i64 fun t44_0 => ldI h10 (Addr.add t7 1) .i64 fun t44_1 => ldL h10 (Addr.add t7 2) fun t44_2a t44_2n t44_2c => ldL h10 (Addr.add t7 3) fun t44_3a t44_3n t44_3c => CallT Tryd.prog fn_law29_same #[.agg #[.int .i64 t43_0, .int .i64 t43_1, .slice t43_2a t43_2n t43_2c, .slice t43_3a t43_3n t43_3c], .agg #[.int .i64 t44_0, .int .i64 t44_1, .slice t44_2a t44_2n t44_2c, .slice t44_3a t44_3n t44_3c]] h10 fun v h11 => ∃ t45 : Bool, v = .bool t45 ∧ if t45 = true then (ldI h11 t3 .i64 fun t48_0 => ldI h11 (Addr.add t3 1) .i64 fun t48_1 => ldL h11 (Addr.add t3 2) fun t48_2a t48_2n t48_2c => ldL h11 (Addr.add t3 3) fun t48_3a t48_3n t48_3c => ldI h11 t3 .i64 fun t49_0 => ldI h11 (Addr.add t3 1) .i64 fun t49_1 => ldL h11 (Addr.add t3 2) fun t49_2a t49_2n t49_2c => ldL h11 (Addr.add t3 3) fun t49_3a t49_3n t49_3c => CallT Tryd.prog fn_law29_small #[.agg #[.int .i64 t49_0, .int .i64 t49_1, .slice t49_2a t49_2n t49_2c, .slice t49_3a t49_3n t49_3c]] h11 fun v h12 => ∃ t50_0 : Int, ∃ t50_1 : Int, ∃ t50_2a : Option Addr, ∃ t50_2n : Nat, ∃ t50_2c : Nat, ∃ t50_3a : Option Addr, ∃ t50_3n : Nat, ∃ t50_3c : Nat, v = .agg #[.int .i64 t50_0, .int .i64 t50_1, .slice t50_2a t50_2n t50_2c, .slice t50_3a t50_3n t50_3c] ∧ (ldI h12 t3 .i64 fun t948_0 => ldI h12 (Addr.add t3 1) .i64 fun t948_1 => ldL h12 (Addr.add t3 2) fun t948_2a t948_2n t948_2c => ldL h12 (Addr.add t3 3) fun t948_3a t948_3n t948_3c => (.agg #[.int .i64 t948_0, .int .i64 t948_1, .slice t948_2a t948_2n t948_2c, .slice t948_3a t948_3n t948_3c] : Value) = .agg #[.int .i64 t48_0, .int .i64 t48_1, .slice t48_2a t48_2n t48_2c, .slice t48_3a t48_3n t48_3c]) ∧ CallT Tryd.prog fn_law29_same #[.agg #[.int .i64 t48_0, .int .i64 t48_1, .slice t48_2a t48_2n t48_2c, .slice t48_3a t48_3n t48_3c], .agg #[.int .i64 t50_0, .int .i64 t50_1, .slice t50_2a t50_2n t50_2c, .slice t50_3a t50_3n t50_3c]] h12 fun v h13 => ∃ t51 : Bool, v = .bool t51 ∧ if t51 = true then (CallT Tryd.prog fn_law29_awake #[] h13 fun v h14 => ∃ t54 : Bool, v = .bool t54 ∧ Q (.bool t54) h14) else (Q (.bool false) h13)) else (Q (.bool false) h11)) else (Q (.bool false) h10)) else (Q (.bool false) h10)))
set_option maxRecDepth 100000 in
theorem law29_DnsAccepts_s (s_0 : ByteArray) {Q : QT} {h : Heap} (hk : law29_DnsAccepts_v s_0 Q h) : CallT Tryd.prog fn_law29_DnsAccepts #[.string s_0] h Q :=
 callU follows Tryd.func7 (Tryd.call7 _) rfl rfl [] []
 trivial
 trivial (by as_aux_lemma => kernel_rfl) hk
/-! ### intrusion/intrusionlaw29.DnsStreams -/
def law29_DnsStreams_l2 (l_0a : Option Addr) (l_0n l_0c : Nat) (a_3 b_4 x_6a : Option Addr) (x_6n x_6c : Nat) (y_8a : Option Addr) (y_8n y_8c : Nat) (t20 t21 t60 : Int) (Q : QT) (Kn1 : Int → Heap → Prop) (t61 : Int) (h : Heap) (Kn2 : Int → Heap → Prop) : Prop :=
 if (decide (t61 < t60)) = true then (idxA t61 x_6n (nn x_6a fun t66 => ldS h (Addr.add t66 ((t61).toNat * 1)) fun t67 => idxA t61 y_8n (nn y_8a fun t70 => ldS h (Addr.add t70 ((t61).toNat * 1)) fun t71 => if (!(t67.toList == t71.toList)) = true then (Q (.bool false) h) else (Kn2 (wrap .i64 (t61 + 1)) h)))) else (Kn1 (wrap .i64 (t21 + 1)) h)
def law29_DnsStreams_b3 (Q : QT) (h : Heap) : Prop :=
 CallT Tryd.prog fn_law29_awake #[] h fun v h7 => ∃ t75 : Bool, v = .bool t75 ∧ Q (.bool t75) h7
def law29_DnsStreams_l1 (l_0a : Option Addr) (l_0n l_0c : Nat) (a_3 b_4 : Option Addr) (t20 : Int) (Q : QT) (t21 : Int) (h : Heap) (Kn1 : Int → Heap → Prop) : Prop :=
 if (decide (t21 < t20)) = true then (idxA t21 l_0n (nn l_0a fun t26 => ldS h (Addr.add t26 ((t21).toNat * 1)) fun t27 => if (decide (((t27.size : Nat) : Int) > 2000)) = true then (CallT Tryd.prog fn_law29_awake #[] h fun v h4 => ∃ t30 : Bool, v = .bool t30 ∧ Q (.bool t30) h4) else (idxA t21 l_0n (nn l_0a fun t35 => ldS h (Addr.add t35 ((t21).toNat * 1)) fun t36 => CallT Tryd.prog fn_dns_Stream_Feed #[.pointer a_3, .string t36] h fun v h5 => ∃ t37_0a : Option Addr, ∃ t37_0n : Nat, ∃ t37_0c : Nat, ∃ t37_1 : Int, v = .tuple #[.slice t37_0a t37_0n t37_0c, .int .i64 t37_1] ∧ idxA t21 l_0n (nn l_0a fun t44 => ldS h5 (Addr.add t44 ((t21).toNat * 1)) fun t45 => CallT Tryd.prog fn_ref29_Stream_Feed #[.pointer b_4, .string t45] h5 fun v h6 => ∃ t46_0a : Option Addr, ∃ t46_0n : Nat, ∃ t46_0c : Nat, ∃ t46_1 : Int, v = .tuple #[.slice t46_0a t46_0n t46_0c, .int .i64 t46_1] ∧ if (((t37_0n : Nat) : Int) != ((t46_0n : Nat) : Int)) = true then (Q (.bool false) h6) else (if (t37_1 != t46_1) = true then (Q (.bool false) h6) else (LoopV (fun (s : Int) h Kn => law29_DnsStreams_l2 l_0a l_0n l_0c a_3 b_4 t37_0a t37_0n t37_0c t46_0a t46_0n t46_0c t20 t21 ((t37_0n : Nat) : Int) Q Kn1 s h Kn) 0 h6))))))) else (law29_DnsStreams_b3 Q h)
def law29_DnsStreams_v (l_0a : Option Addr) (l_0n l_0c : Nat) (Q : QT) (h : Heap) : Prop :=
 if (decide (((l_0n : Nat) : Int) > 60)) = true then (CallT Tryd.prog fn_law29_awake #[] h fun v h1 => ∃ t14 : Bool, v = .bool t14 ∧ Q (.bool t14) h1) else (CallT Tryd.prog fn_dns_NewStream #[] h fun v h2 => ∃ t15 : Option Addr, v = .pointer t15 ∧ CallT Tryd.prog fn_ref29_NewStream #[] h2 fun v h3 => ∃ t16 : Option Addr, v = .pointer t16 ∧ if (Option.isNone t15) = true then (Q (.bool false) h3) else (LoopV (fun (s : Int) h Kn => law29_DnsStreams_l1 l_0a l_0n l_0c t15 t16 ((l_0n : Nat) : Int) Q s h Kn) 0 h3))
set_option maxRecDepth 100000 in
theorem law29_DnsStreams_s (l_0a : Option Addr) (l_0n l_0c : Nat) {Q : QT} {h : Heap} (hk : law29_DnsStreams_v l_0a l_0n l_0c Q h) : CallT Tryd.prog fn_law29_DnsStreams #[.slice l_0a l_0n l_0c] h Q :=
 callU follows Tryd.func8 (Tryd.call8 _) rfl rfl [(46, fun e h => law29_DnsStreams_b3 Q h)] [(16, fun e h => dL (e 0) fun l_0a l_0n l_0c => dP (e 3) fun a_3 => dP (e 4) fun b_4 => dI .i64 (e 20) fun t20 => dI .i64 (e 21) fun t21 => LoopV (fun (s : Int) h Kn => law29_DnsStreams_l1 l_0a l_0n l_0c a_3 b_4 t20 Q s h Kn) t21 h)]
 ⟨fun e h _ hk => by
 have F := Ag.nil (e := e)
 exact cutU F (by as_aux_lemma => kernel_rfl) hk, trivial⟩
 ⟨⟨by kernel_rfl, fun e h he hk => by
 have F := Ag.nil (e := e)
 have ⟨l_0a, l_0n, l_0c, F, hk⟩ := eL F hk
 have ⟨a_3, F, hk⟩ := eP F hk
 have ⟨b_4, F, hk⟩ := eP F hk
 have ⟨t20, F, hk⟩ := eI F hk
 have ⟨t21, F, hk⟩ := eI F hk
 exact loopU (s0 := t21) follows (fun _ h => by cases h) he F (fun s => [(21, .int .i64 s)]) (by kernel_rfl) (F.take 1) hk (fun Kn1 e h => dI .i64 (e 21) fun t21 => Kn1 t21 h) (fun Kn1 e h hk => by
  have F := Ag.nil (e := e)
  have ⟨t21, F, hk⟩ := eI F hk
  exact ⟨t21, F, hk⟩)
  (fun Kn1 => []) (fun Kn1 => [(34, fun e h => dL (e 0) fun l_0a l_0n l_0c => dP (e 3) fun a_3 => dP (e 4) fun b_4 => dL (e 6) fun x_6a x_6n x_6c => dL (e 8) fun y_8a y_8n y_8c => dI .i64 (e 20) fun t20 => dI .i64 (e 21) fun t21 => dI .i64 (e 60) fun t60 => dI .i64 (e 61) fun t61 => LoopV (fun (s : Int) h Kn => law29_DnsStreams_l2 l_0a l_0n l_0c a_3 b_4 x_6a x_6n x_6c y_8a y_8n y_8c t20 t21 t60 Q Kn1 s h Kn) t61 h)])
  (fun Kn1 => trivial)
  (fun Kn1 => ⟨⟨by kernel_rfl, fun e h he hk => by
 have F := Ag.nil (e := e)
 have ⟨l_0a, l_0n, l_0c, F, hk⟩ := eL F hk
 have ⟨a_3, F, hk⟩ := eP F hk
 have ⟨b_4, F, hk⟩ := eP F hk
 have ⟨x_6a, x_6n, x_6c, F, hk⟩ := eL F hk
 have ⟨y_8a, y_8n, y_8c, F, hk⟩ := eL F hk
 have ⟨t20, F, hk⟩ := eI F hk
 have ⟨t21, F, hk⟩ := eI F hk
 have ⟨t60, F, hk⟩ := eI F hk
 have ⟨t61, F, hk⟩ := eI F hk
 exact loopU (s0 := t61) follows (keep_sub (by kernel_rfl)) he F (fun s => [(61, .int .i64 s)]) (by kernel_rfl) (F.take 1) hk (fun Kn2 e h => dI .i64 (e 61) fun t61 => Kn2 t61 h) (fun Kn2 e h hk => by
  have F := Ag.nil (e := e)
  have ⟨t61, F, hk⟩ := eI F hk
  exact ⟨t61, F, hk⟩)
  (fun Kn2 => []) (fun Kn2 => [])
  (fun Kn2 => trivial)
  (fun Kn2 => trivial) (fun e s h Kn2 => by as_aux_lemma => kernel_rfl)⟩, trivial⟩) (fun e s h Kn1 => by as_aux_lemma => kernel_rfl)⟩, trivial⟩ (by as_aux_lemma => kernel_rfl) hk
/-! ### intrusion/intrusionlaw29.DnsPieces -/
def law29_DnsPieces_b6 (Q : QT) (h : Heap) : Prop :=
 CallT Tryd.prog fn_law29_awake #[] h fun v h13 => ∃ t156 : Bool, v = .bool t156 ∧ Q (.bool t156) h13
def law29_DnsPieces_l5 (l_0a : Option Addr) (l_0n l_0c : Nat) (x_9a : Option Addr) (x_9n x_9c : Nat) (z_13a : Option Addr) (z_13n z_13c : Nat) (t131 : Int) (Q : QT) (t132 : Int) (h : Heap) (Kn5 : Int → Heap → Prop) : Prop :=
 if (decide (t132 < t131)) = true then (idxA t132 x_9n (nn x_9a fun t137 => ldS h (Addr.add t137 ((t132).toNat * 1)) fun t138 => idxA t132 l_0n (nn l_0a fun t141 => ldS h (Addr.add t141 ((t132).toNat * 1)) fun t142 => if (!(t138.toList == t142.toList)) = true then (Q (.bool false) h) else (idxA t132 z_13n (nn z_13a fun t147 => ldS h (Addr.add t147 ((t132).toNat * 1)) fun t148 => idxA t132 l_0n (nn l_0a fun t151 => ldS h (Addr.add t151 ((t132).toNat * 1)) fun t152 => if (!(t148.toList == t152.toList)) = true then (Q (.bool false) h) else (Kn5 (wrap .i64 (t132 + 1)) h))))))) else (law29_DnsPieces_b6 Q h)
def law29_DnsPieces_b4 (l_0a : Option Addr) (l_0n l_0c : Nat) (x_9a : Option Addr) (x_9n x_9c : Nat) (e_10 f_12 : Int) (z_13a : Option Addr) (z_13n z_13c : Nat) (Q : QT) (h : Heap) : Prop :=
 if (e_10 != 0) = true then (Q (.bool false) h) else (if (f_12 != 0) = true then (Q (.bool false) h) else (if (((x_9n : Nat) : Int) != ((l_0n : Nat) : Int)) = true then (Q (.bool false) h) else (if (((z_13n : Nat) : Int) != ((l_0n : Nat) : Int)) = true then (Q (.bool false) h) else (LoopV (fun (s : Int) h Kn => law29_DnsPieces_l5 l_0a l_0n l_0c x_9a x_9n x_9c z_13a z_13n z_13c ((l_0n : Nat) : Int) Q s h Kn) 0 h))))
def law29_DnsPieces_l3 (l_0a : Option Addr) (l_0n l_0c : Nat) (s_5 : ByteArray) (b_8 x_9a : Option Addr) (x_9n x_9c : Nat) (e_10 f_12 t90 : Int) (Q : QT) (z_13a : Option Addr) (z_13n z_13c : Nat) (t91 : Int) (h : Heap) (Kn3 : (Option Addr) × Nat × Nat × Int → Heap → Prop) : Prop :=
 if (decide (t91 < t90)) = true then (sliceStr s_5 (some t91) (some (wrap .i64 (t91 + 1))) fun t100 => CallT Tryd.prog fn_dns_Stream_Feed #[.pointer b_8, .string t100] h fun v h11 => ∃ t101_0a : Option Addr, ∃ t101_0n : Nat, ∃ t101_0c : Nat, ∃ t101_1 : Int, v = .tuple #[.slice t101_0a t101_0n t101_0c, .int .i64 t101_1] ∧ if (t101_1 != 0) = true then (Q (.bool false) h11) else (bltV Tryd.prog .append #[T_sl_string, T_sl_string] T_sl_string #[false, false] #[.slice z_13a z_13n z_13c, .slice t101_0a t101_0n t101_0c] h11 fun v h12 => ∃ t108a : Option Addr, ∃ t108n : Nat, ∃ t108c : Nat, v = .slice t108a t108n t108c ∧ Kn3 (t108a, t108n, t108c, wrap .i64 (t91 + 1)) h12)) else (law29_DnsPieces_b4 l_0a l_0n l_0c x_9a x_9n x_9c e_10 f_12 z_13a z_13n z_13c Q h)
def law29_DnsPieces_b2 (l_0a : Option Addr) (l_0n l_0c : Nat) (at_1 : Int) (s_5 : ByteArray) (Q : QT) (h : Heap) : Prop :=
 CallT Tryd.prog fn_dns_NewStream #[] h fun v h5 => ∃ t56 : Option Addr, v = .pointer t56 ∧ CallT Tryd.prog fn_dns_NewStream #[] h5 fun v h6 => ∃ t57 : Option Addr, v = .pointer t57 ∧ if (Option.isNone t56) = true then (Q (.bool false) h6) else (if (Option.isNone t57) = true then (Q (.bool false) h6) else (sliceStr s_5 none (some (if ((s_5.size : Nat) : Int) < (if (0 : Int) > at_1 then (0 : Int) else at_1) then ((s_5.size : Nat) : Int) else (if (0 : Int) > at_1 then (0 : Int) else at_1))) fun t73 => CallT Tryd.prog fn_dns_Stream_Feed #[.pointer t56, .string t73] h6 fun v h7 => ∃ t74_0a : Option Addr, ∃ t74_0n : Nat, ∃ t74_0c : Nat, ∃ t74_1 : Int, v = .tuple #[.slice t74_0a t74_0n t74_0c, .int .i64 t74_1] ∧ sliceStr s_5 (some (if ((s_5.size : Nat) : Int) < (if (0 : Int) > at_1 then (0 : Int) else at_1) then ((s_5.size : Nat) : Int) else (if (0 : Int) > at_1 then (0 : Int) else at_1))) none fun t81 => CallT Tryd.prog fn_dns_Stream_Feed #[.pointer t56, .string t81] h7 fun v h8 => ∃ t82_0a : Option Addr, ∃ t82_0n : Nat, ∃ t82_0c : Nat, ∃ t82_1 : Int, v = .tuple #[.slice t82_0a t82_0n t82_0c, .int .i64 t82_1] ∧ bltV Tryd.prog .append #[T_sl_string, T_sl_string] T_sl_string #[false, false] #[.slice t74_0a t74_0n t74_0c, .slice t82_0a t82_0n t82_0c] h8 fun v h9 => ∃ t87a : Option Addr, ∃ t87n : Nat, ∃ t87c : Nat, v = .slice t87a t87n t87c ∧ alV h9 (.cells #[] T_string) fun t88 h10 => LoopV (fun (s : (Option Addr) × Nat × Nat × Int) h Kn => law29_DnsPieces_l3 l_0a l_0n l_0c s_5 t57 t87a t87n t87c t74_1 t82_1 ((s_5.size : Nat) : Int) Q s.1 s.2.1 s.2.2.1 s.2.2.2 h Kn) (some t88, 0, 0, 0) h10))
def law29_DnsPieces_l1 (l_0a : Option Addr) (l_0n l_0c : Nat) (at_1 t23 : Int) (Q : QT) (s_5 : ByteArray) (t24 : Int) (h : Heap) (Kn1 : ByteArray × Int → Heap → Prop) : Prop :=
 if (decide (t24 < t23)) = true then (idxA t24 l_0n (nn l_0a fun t29 => ldS h (Addr.add t29 ((t24).toNat * 1)) fun t30 => if (decide (((t30.size : Nat) : Int) < 12)) = true then (CallT Tryd.prog fn_law29_awake #[] h fun v h2 => ∃ t41 : Bool, v = .bool t41 ∧ Q (.bool t41) h2) else (idxA t24 l_0n (nn l_0a fun t36 => ldS h (Addr.add t36 ((t24).toNat * 1)) fun t37 => if (decide (((t37.size : Nat) : Int) > 300)) = true then (CallT Tryd.prog fn_law29_awake #[] h fun v h3 => ∃ t41 : Bool, v = .bool t41 ∧ Q (.bool t41) h3) else (idxA t24 l_0n (nn l_0a fun t45 => ldS h (Addr.add t45 ((t24).toNat * 1)) fun t46 => idxA t24 l_0n (nn l_0a fun t52 => ldS h (Addr.add t52 ((t24).toNat * 1)) fun t53 => CallT Tryd.prog fn_field_Put #[.int .i64 ((t46.size : Nat) : Int), .int .i64 2] h fun v h4 => ∃ t48 : ByteArray, v = .string t48 ∧ (ldS h4 (Addr.add t52 ((t24).toNat * 1)) fun t953 => (.string t953 : Value) = .string t53) ∧ ((s_5.size + t48.size : Nat) : Int) ≤ IntKind.max .i64 ∧ (((s_5 ++ t48).size + t53.size : Nat) : Int) ≤ IntKind.max .i64 ∧ Kn1 ((s_5 ++ t48) ++ t53, wrap .i64 (t24 + 1)) h4))))))) else (law29_DnsPieces_b2 l_0a l_0n l_0c at_1 s_5 Q h)
def law29_DnsPieces_v (l_0a : Option Addr) (l_0n l_0c : Nat) (at_1 : Int) (Q : QT) (h : Heap) : Prop :=
 if (decide (((l_0n : Nat) : Int) > 20)) = true then (CallT Tryd.prog fn_law29_awake #[] h fun v h1 => ∃ t21 : Bool, v = .bool t21 ∧ Q (.bool t21) h1) else (LoopV (fun (s : ByteArray × Int) h Kn => law29_DnsPieces_l1 l_0a l_0n l_0c at_1 ((l_0n : Nat) : Int) Q s.1 s.2 h Kn) ((⟨#[]⟩ : ByteArray), 0) h)
set_option maxRecDepth 100000 in
theorem law29_DnsPieces_s (l_0a : Option Addr) (l_0n l_0c : Nat) (at_1 : Int) {Q : QT} {h : Heap} (hk : law29_DnsPieces_v l_0a l_0n l_0c at_1 Q h) : CallT Tryd.prog fn_law29_DnsPieces #[.slice l_0a l_0n l_0c, .int .i64 at_1] h Q :=
 callU follows Tryd.func9 (Tryd.call9 _) rfl rfl [(24, fun e h => dL (e 0) fun l_0a l_0n l_0c => dI .i64 (e 1) fun at_1 => dS (e 5) fun s_5 => law29_DnsPieces_b2 l_0a l_0n l_0c at_1 s_5 Q h), (56, fun e h => dL (e 0) fun l_0a l_0n l_0c => dL (e 9) fun x_9a x_9n x_9c => dI .i64 (e 10) fun e_10 => dI .i64 (e 12) fun f_12 => dL (e 13) fun z_13a z_13n z_13c => law29_DnsPieces_b4 l_0a l_0n l_0c x_9a x_9n x_9c e_10 f_12 z_13a z_13n z_13c Q h), (72, fun e h => law29_DnsPieces_b6 Q h)] [(12, fun e h => dL (e 0) fun l_0a l_0n l_0c => dI .i64 (e 1) fun at_1 => dI .i64 (e 23) fun t23 => dS (e 5) fun s_5 => dI .i64 (e 24) fun t24 => LoopV (fun (s : ByteArray × Int) h Kn => law29_DnsPieces_l1 l_0a l_0n l_0c at_1 t23 Q s.1 s.2 h Kn) (s_5, t24) h), (42, fun e h => dL (e 0) fun l_0a l_0n l_0c => dS (e 5) fun s_5 => dP (e 8) fun b_8 => dL (e 9) fun x_9a x_9n x_9c => dI .i64 (e 10) fun e_10 => dI .i64 (e 12) fun f_12 => dI .i64 (e 90) fun t90 => dL (e 13) fun z_13a z_13n z_13c => dI .i64 (e 91) fun t91 => LoopV (fun (s : (Option Addr) × Nat × Nat × Int) h Kn => law29_DnsPieces_l3 l_0a l_0n l_0c s_5 b_8 x_9a x_9n x_9c e_10 f_12 t90 Q s.1 s.2.1 s.2.2.1 s.2.2.2 h Kn) (z_13a, z_13n, z_13c, t91) h), (62, fun e h => dL (e 0) fun l_0a l_0n l_0c => dL (e 9) fun x_9a x_9n x_9c => dL (e 13) fun z_13a z_13n z_13c => dI .i64 (e 131) fun t131 => dI .i64 (e 132) fun t132 => LoopV (fun (s : Int) h Kn => law29_DnsPieces_l5 l_0a l_0n l_0c x_9a x_9n x_9c z_13a z_13n z_13c t131 Q s h Kn) t132 h)]
 ⟨fun e h _ hk => by
 have F := Ag.nil (e := e)
 have ⟨l_0a, l_0n, l_0c, F, hk⟩ := eL F hk
 have ⟨at_1, F, hk⟩ := eI F hk
 have ⟨s_5, F, hk⟩ := eS F hk
 exact cutU F (by as_aux_lemma => kernel_rfl) hk, fun e h _ hk => by
 have F := Ag.nil (e := e)
 have ⟨l_0a, l_0n, l_0c, F, hk⟩ := eL F hk
 have ⟨x_9a, x_9n, x_9c, F, hk⟩ := eL F hk
 have ⟨e_10, F, hk⟩ := eI F hk
 have ⟨f_12, F, hk⟩ := eI F hk
 have ⟨z_13a, z_13n, z_13c, F, hk⟩ := eL F hk
 exact cutU F (by as_aux_lemma => kernel_rfl) hk, fun e h _ hk => by
 have F := Ag.nil (e := e)
 exact cutU F (by as_aux_lemma => kernel_rfl) hk, trivial⟩
 ⟨⟨by kernel_rfl, fun e h he hk => by
 have F := Ag.nil (e := e)
 have ⟨l_0a, l_0n, l_0c, F, hk⟩ := eL F hk
 have ⟨at_1, F, hk⟩ := eI F hk
 have ⟨t23, F, hk⟩ := eI F hk
 have ⟨s_5, F, hk⟩ := eS F hk
 have ⟨t24, F, hk⟩ := eI F hk
 exact loopU (s0 := (s_5, t24)) follows (fun _ h => by cases h) he F (fun s => [(24, .int .i64 s.2), (5, .string s.1)]) (by kernel_rfl) (F.take 2) hk (fun Kn1 e h => dS (e 5) fun s_5 => dI .i64 (e 24) fun t24 => Kn1 (s_5, t24) h) (fun Kn1 e h hk => by
  have F := Ag.nil (e := e)
  have ⟨s_5, F, hk⟩ := eS F hk
  have ⟨t24, F, hk⟩ := eI F hk
  exact ⟨(s_5, t24), F, hk⟩)
  (fun Kn1 => []) (fun Kn1 => [])
  (fun Kn1 => trivial)
  (fun Kn1 => trivial) (fun e s h Kn1 => by as_aux_lemma => kernel_rfl)⟩, ⟨by kernel_rfl, fun e h he hk => by
 have F := Ag.nil (e := e)
 have ⟨l_0a, l_0n, l_0c, F, hk⟩ := eL F hk
 have ⟨s_5, F, hk⟩ := eS F hk
 have ⟨b_8, F, hk⟩ := eP F hk
 have ⟨x_9a, x_9n, x_9c, F, hk⟩ := eL F hk
 have ⟨e_10, F, hk⟩ := eI F hk
 have ⟨f_12, F, hk⟩ := eI F hk
 have ⟨t90, F, hk⟩ := eI F hk
 have ⟨z_13a, z_13n, z_13c, F, hk⟩ := eL F hk
 have ⟨t91, F, hk⟩ := eI F hk
 exact loopU (s0 := (z_13a, z_13n, z_13c, t91)) follows (fun _ h => by cases h) he F (fun s => [(91, .int .i64 s.2.2.2), (13, .slice s.1 s.2.1 s.2.2.1)]) (by kernel_rfl) (F.take 2) hk (fun Kn3 e h => dL (e 13) fun z_13a z_13n z_13c => dI .i64 (e 91) fun t91 => Kn3 (z_13a, z_13n, z_13c, t91) h) (fun Kn3 e h hk => by
  have F := Ag.nil (e := e)
  have ⟨z_13a, z_13n, z_13c, F, hk⟩ := eL F hk
  have ⟨t91, F, hk⟩ := eI F hk
  exact ⟨(z_13a, z_13n, z_13c, t91), F, hk⟩)
  (fun Kn3 => []) (fun Kn3 => [])
  (fun Kn3 => trivial)
  (fun Kn3 => trivial) (fun e s h Kn3 => by as_aux_lemma => kernel_rfl)⟩, ⟨by kernel_rfl, fun e h he hk => by
 have F := Ag.nil (e := e)
 have ⟨l_0a, l_0n, l_0c, F, hk⟩ := eL F hk
 have ⟨x_9a, x_9n, x_9c, F, hk⟩ := eL F hk
 have ⟨z_13a, z_13n, z_13c, F, hk⟩ := eL F hk
 have ⟨t131, F, hk⟩ := eI F hk
 have ⟨t132, F, hk⟩ := eI F hk
 exact loopU (s0 := t132) follows (fun _ h => by cases h) he F (fun s => [(132, .int .i64 s)]) (by kernel_rfl) (F.take 1) hk (fun Kn5 e h => dI .i64 (e 132) fun t132 => Kn5 t132 h) (fun Kn5 e h hk => by
  have F := Ag.nil (e := e)
  have ⟨t132, F, hk⟩ := eI F hk
  exact ⟨t132, F, hk⟩)
  (fun Kn5 => []) (fun Kn5 => [])
  (fun Kn5 => trivial)
  (fun Kn5 => trivial) (fun e s h Kn5 => by as_aux_lemma => kernel_rfl)⟩, trivial⟩ (by as_aux_lemma => kernel_rfl) hk
/-! ### intrusion/intrusionlaw29.awake -/
def law29_awake_v (Q : QT) (h : Heap) : Prop :=
 alV h (.cells #[.string (⟨#[97]⟩ : ByteArray), .int .i64 1] T_api_DnsQuestion) fun t10 h1 => alV h1 (.cells #[.int .i64 0, .int .i64 0, .slice none 0 0, .slice none 0 0] T_api_Dns) fun t1 h2 => stN h2 t1 [.int .i64 1, .int .i64 256, .slice (some t10) 1 1, .slice none 0 0] 0 fun h3 => ldI h3 t1 .i64 fun t13_0 => ldI h3 (Addr.add t1 1) .i64 fun t13_1 => ldL h3 (Addr.add t1 2) fun t13_2a t13_2n t13_2c => ldL h3 (Addr.add t1 3) fun t13_3a t13_3n t13_3c => CallT Tryd.prog fn_dns_Encode #[.agg #[.int .i64 t13_0, .int .i64 t13_1, .slice t13_2a t13_2n t13_2c, .slice t13_3a t13_3n t13_3c]] h3 fun v h4 => ∃ t14_0 : ByteArray, ∃ t14_1 : Int, v = .tuple #[.string t14_0, .int .i64 t14_1] ∧ alV h4 (.cells #[.string (⟨#[97, 46, 98]⟩ : ByteArray), .int .i64 1] T_api_DnsQuestion) fun t18 h5 => alV h5 (.cells #[.string (⟨#[67, 46, 98]⟩ : ByteArray), .int .i64 1, .int .i64 0, .string (⟨#[]⟩ : ByteArray)] T_api_DnsRecord) fun t20 h6 => alV h6 (.cells #[.int .i64 0, .int .i64 0, .slice none 0 0, .slice none 0 0] T_api_Dns) fun t4 h7 => stN h7 t4 [.int .i64 0, .int .i64 0, .slice (some t18) 1 1, .slice (some t20) 1 1] 0 fun h8 => ldI h8 t4 .i64 fun t23_0 => ldI h8 (Addr.add t4 1) .i64 fun t23_1 => ldL h8 (Addr.add t4 2) fun t23_2a t23_2n t23_2c => ldL h8 (Addr.add t4 3) fun t23_3a t23_3n t23_3c => CallT Tryd.prog fn_dns_EncodeShort #[.agg #[.int .i64 t23_0, .int .i64 t23_1, .slice t23_2a t23_2n t23_2c, .slice t23_3a t23_3n t23_3c]] h8 fun v h9 => ∃ t24_0 : ByteArray, ∃ t24_1 : Int, v = .tuple #[.string t24_0, .int .i64 t24_1] ∧ CallT Tryd.prog fn_dns_Decode #[.string t24_0] h9 fun v h10 => ∃ t29_0_0 : Int, ∃ t29_0_1 : Int, ∃ t29_0_2a : Option Addr, ∃ t29_0_2n : Nat, ∃ t29_0_2c : Nat, ∃ t29_0_3a : Option Addr, ∃ t29_0_3n : Nat, ∃ t29_0_3c : Nat, ∃ t29_1 : Int, v = .tuple #[.agg #[.int .i64 t29_0_0, .int .i64 t29_0_1, .slice t29_0_2a t29_0_2n t29_0_2c, .slice t29_0_3a t29_0_3n t29_0_3c], .int .i64 t29_1] ∧ alV h10 (.cells #[.int .i64 0, .int .i64 0, .slice none 0 0, .slice none 0 0] T_api_Dns) fun t7 h11 => stN h11 t7 [.int .i64 t29_0_0, .int .i64 t29_0_1, .slice t29_0_2a t29_0_2n t29_0_2c, .slice t29_0_3a t29_0_3n t29_0_3c] 0 fun h12 => if (t14_1 != 0) = true then (Q (.bool false) h12) else (if (t24_1 != 0) = true then (Q (.bool false) h12) else (if (t29_1 != 0) = true then (Q (.bool false) h12) else (if (decide (((t24_0.size : Nat) : Int) < 25)) = true then (Q (.bool false) h12) else (ldL h12 (Addr.add t7 3) fun t49a t49n t49c => if (((t49n : Nat) : Int) != 1) = true then (Q (.bool false) h12) else (if (t14_0.toList == (⟨#[0, 1, 1, 0, 0, 1, 0, 0, 0, 0, 0, 0, 1, 97, 0, 0, 1, 0, 1]⟩ : ByteArray).toList) = true then (sliceStr t24_0 (some (21 : Int)) (some (25 : Int)) fun t57 => if (t57.toList == (⟨#[1, 99, 192, 14]⟩ : ByteArray).toList) = true then (ldL h12 (Addr.add t7 3) fun t62a t62n t62c => idxA (0 : Int) t62n (nn t62a fun t63 => ldS h12 (Addr.add t63 (((0 : Int)).toNat * 4)) fun t65 => if (t65.toList == (⟨#[99, 46, 98]⟩ : ByteArray).toList) = true then (CallT Tryd.prog fn_dns_IsName #[.string (⟨#[97, 46, 98, 45, 99]⟩ : ByteArray)] h12 fun v h13 => ∃ t69 : Bool, v = .bool t69 ∧ if t69 = true then (CallT Tryd.prog fn_dns_IsName #[.string (⟨#[]⟩ : ByteArray)] h13 fun v h14 => ∃ t72 : Bool, v = .bool t72 ∧ if t72 = true then (CallT Tryd.prog fn_dns_IsName #[.string (⟨#[97, 46]⟩ : ByteArray)] h14 fun v h15 => ∃ t75 : Bool, v = .bool t75 ∧ if (!t75) = true then (CallT Tryd.prog fn_dns_IsName #[.string (⟨#[97, 46, 46, 98]⟩ : ByteArray)] h15 fun v h16 => ∃ t79 : Bool, v = .bool t79 ∧ Q (.bool (!t79)) h16) else (Q (.bool false) h15)) else (Q (.bool false) h14)) else (Q (.bool false) h13)) else (Q (.bool false) h12))) else (Q (.bool false) h12)) else (Q (.bool false) h12))))))
set_option maxRecDepth 100000 in
theorem law29_awake_s {Q : QT} {h : Heap} (hk : law29_awake_v Q h) : CallT Tryd.prog fn_law29_awake #[] h Q :=
 callU follows Tryd.func10 (Tryd.call10 _) rfl rfl [] []
 trivial
 trivial (by as_aux_lemma => kernel_rfl) hk
/-! ### intrusion/dns.IsName -/
def dns_IsName_l2 (l_5 : ByteArray) (t19a : Option Addr) (t19n t19c : Nat) (t20 t21 t33 : Int) (Q : QT) (Kn1 : Int → Heap → Prop) (t34 : Int) (h : Heap) (Kn2 : Int → Heap → Prop) : Prop :=
 if (decide (t34 < t33)) = true then (idxS l_5 t34 fun t39 => CallT Tryd.prog fn_dns_allowed #[.int .u8 t39] h fun v h2 => ∃ t40 : Bool, v = .bool t40 ∧ if (!t40) = true then (Q (.bool false) h2) else (Kn2 (wrap .i64 (t34 + 1)) h2)) else (Kn1 (wrap .i64 (t21 + 1)) h)
def dns_IsName_l1 (t19a : Option Addr) (t19n t19c : Nat) (t20 : Int) (Q : QT) (t21 : Int) (h : Heap) (Kn1 : Int → Heap → Prop) : Prop :=
 if (decide (t21 < t20)) = true then (idxA t21 t19n (nn t19a fun t23 => ldS h (Addr.add t23 ((t21).toNat * 1)) fun t24 => if (t24.toList == (⟨#[]⟩ : ByteArray).toList) = true then (Q (.bool false) h) else (if (decide (((t24.size : Nat) : Int) > 63)) = true then (Q (.bool false) h) else (LoopV (fun (s : Int) h Kn => dns_IsName_l2 t24 t19a t19n t19c t20 t21 ((t24.size : Nat) : Int) Q Kn1 s h Kn) 0 h)))) else (Q (.bool true) h)
def dns_IsName_v (s_0 : ByteArray) (Q : QT) (h : Heap) : Prop :=
 if (s_0.toList == (⟨#[]⟩ : ByteArray).toList) = true then (Q (.bool true) h) else (CallT Tryd.prog fn_strings_Split #[.string s_0, .string (⟨#[46]⟩ : ByteArray)] h fun v h1 => ∃ t10a : Option Addr, ∃ t10n : Nat, ∃ t10c : Nat, v = .slice t10a t10n t10c ∧ if (decide (((s_0.size : Nat) : Int) > 253)) = true then (Q (.bool false) h1) else (if (decide (((t10n : Nat) : Int) > 24)) = true then (Q (.bool false) h1) else (LoopV (fun (s : Int) h Kn => dns_IsName_l1 t10a t10n t10c ((t10n : Nat) : Int) Q s h Kn) 0 h1)))
set_option maxRecDepth 100000 in
theorem dns_IsName_s (s_0 : ByteArray) {Q : QT} {h : Heap} (hk : dns_IsName_v s_0 Q h) : CallT Tryd.prog fn_dns_IsName #[.string s_0] h Q :=
 callU follows Tryd.func11 (Tryd.call11 _) rfl rfl [] [(16, fun e h => dL (e 19) fun t19a t19n t19c => dI .i64 (e 20) fun t20 => dI .i64 (e 21) fun t21 => LoopV (fun (s : Int) h Kn => dns_IsName_l1 t19a t19n t19c t20 Q s h Kn) t21 h)]
 trivial
 ⟨⟨by kernel_rfl, fun e h he hk => by
 have F := Ag.nil (e := e)
 have ⟨t19a, t19n, t19c, F, hk⟩ := eL F hk
 have ⟨t20, F, hk⟩ := eI F hk
 have ⟨t21, F, hk⟩ := eI F hk
 exact loopU (s0 := t21) follows (fun _ h => by cases h) he F (fun s => [(21, .int .i64 s)]) (by kernel_rfl) (F.take 1) hk (fun Kn1 e h => dI .i64 (e 21) fun t21 => Kn1 t21 h) (fun Kn1 e h hk => by
  have F := Ag.nil (e := e)
  have ⟨t21, F, hk⟩ := eI F hk
  exact ⟨t21, F, hk⟩)
  (fun Kn1 => []) (fun Kn1 => [(26, fun e h => dS (e 5) fun l_5 => dL (e 19) fun t19a t19n t19c => dI .i64 (e 20) fun t20 => dI .i64 (e 21) fun t21 => dI .i64 (e 33) fun t33 => dI .i64 (e 34) fun t34 => LoopV (fun (s : Int) h Kn => dns_IsName_l2 l_5 t19a t19n t19c t20 t21 t33 Q Kn1 s h Kn) t34 h)])
  (fun Kn1 => trivial)
  (fun Kn1 => ⟨⟨by kernel_rfl, fun e h he hk => by
 have F := Ag.nil (e := e)
 have ⟨l_5, F, hk⟩ := eS F hk
 have ⟨t19a, t19n, t19c, F, hk⟩ := eL F hk
 have ⟨t20, F, hk⟩ := eI F hk
 have ⟨t21, F, hk⟩ := eI F hk
 have ⟨t33, F, hk⟩ := eI F hk
 have ⟨t34, F, hk⟩ := eI F hk
 exact loopU (s0 := t34) follows (keep_sub (by kernel_rfl)) he F (fun s => [(34, .int .i64 s)]) (by kernel_rfl) (F.take 1) hk (fun Kn2 e h => dI .i64 (e 34) fun t34 => Kn2 t34 h) (fun Kn2 e h hk => by
  have F := Ag.nil (e := e)
  have ⟨t34, F, hk⟩ := eI F hk
  exact ⟨t34, F, hk⟩)
  (fun Kn2 => []) (fun Kn2 => [])
  (fun Kn2 => trivial)
  (fun Kn2 => trivial) (fun e s h Kn2 => by as_aux_lemma => kernel_rfl)⟩, trivial⟩) (fun e s h Kn1 => by as_aux_lemma => kernel_rfl)⟩, trivial⟩ (by as_aux_lemma => kernel_rfl) hk
/-! ### intrusion/intrusionref29.IsName -/
def ref29_IsName_l2 (l_3a : Option Addr) (l_3n l_3c : Nat) (i_4 : Int) (Q : QT) (Kn1 : Int → Heap → Prop) (k_5 : Int) (h : Heap) (Kn2 : Int → Heap → Prop) : Prop :=
 idxA i_4 l_3n (nn l_3a fun t36 => ldS h (Addr.add t36 ((i_4).toNat * 1)) fun t37 => if (decide (k_5 < ((t37.size : Nat) : Int))) = true then (idxA i_4 l_3n (nn l_3a fun t44 => ldS h (Addr.add t44 ((i_4).toNat * 1)) fun t45 => idxS t45 k_5 fun t47 => CallT Tryd.prog fn_ref29_letter #[.int .u8 t47] h fun v h2 => ∃ t48 : Bool, v = .bool t48 ∧ if (!t48) = true then (Q (.bool false) h2) else (Kn2 (wrap .i64 (k_5 + 1)) h2))) else (Kn1 (wrap .i64 (i_4 + 1)) h))
def ref29_IsName_l1 (l_3a : Option Addr) (l_3n l_3c : Nat) (Q : QT) (i_4 : Int) (h : Heap) (Kn1 : Int → Heap → Prop) : Prop :=
 if (decide (i_4 < ((l_3n : Nat) : Int))) = true then (idxA i_4 l_3n (nn l_3a fun t22 => ldS h (Addr.add t22 ((i_4).toNat * 1)) fun t23 => if (t23.toList == (⟨#[]⟩ : ByteArray).toList) = true then (Q (.bool false) h) else (idxA i_4 l_3n (nn l_3a fun t28 => ldS h (Addr.add t28 ((i_4).toNat * 1)) fun t29 => if (decide (((t29.size : Nat) : Int) > 63)) = true then (Q (.bool false) h) else (LoopV (fun (s : Int) h Kn => ref29_IsName_l2 l_3a l_3n l_3c i_4 Q Kn1 s h Kn) 0 h))))) else (Q (.bool true) h)
def ref29_IsName_v (s_0 : ByteArray) (Q : QT) (h : Heap) : Prop :=
 if (decide (((s_0.size : Nat) : Int) > 253)) = true then (Q (.bool false) h) else (CallT Tryd.prog fn_ref29_labels #[.string s_0] h fun v h1 => ∃ t10a : Option Addr, ∃ t10n : Nat, ∃ t10c : Nat, v = .slice t10a t10n t10c ∧ if (decide (((t10n : Nat) : Int) > 24)) = true then (Q (.bool false) h1) else (LoopV (fun (s : Int) h Kn => ref29_IsName_l1 t10a t10n t10c Q s h Kn) 0 h1))
set_option maxRecDepth 100000 in
theorem ref29_IsName_s (s_0 : ByteArray) {Q : QT} {h : Heap} (hk : ref29_IsName_v s_0 Q h) : CallT Tryd.prog fn_ref29_IsName #[.string s_0] h Q :=
 callU follows Tryd.func12 (Tryd.call12 _) rfl rfl [] [(16, fun e h => dL (e 3) fun l_3a l_3n l_3c => dI .i64 (e 4) fun i_4 => LoopV (fun (s : Int) h Kn => ref29_IsName_l1 l_3a l_3n l_3c Q s h Kn) i_4 h)]
 trivial
 ⟨⟨by kernel_rfl, fun e h he hk => by
 have F := Ag.nil (e := e)
 have ⟨l_3a, l_3n, l_3c, F, hk⟩ := eL F hk
 have ⟨i_4, F, hk⟩ := eI F hk
 exact loopU (s0 := i_4) follows (fun _ h => by cases h) he F (fun s => [(4, .int .i64 s)]) (by kernel_rfl) (F.take 1) hk (fun Kn1 e h => dI .i64 (e 4) fun i_4 => Kn1 i_4 h) (fun Kn1 e h hk => by
  have F := Ag.nil (e := e)
  have ⟨i_4, F, hk⟩ := eI F hk
  exact ⟨i_4, F, hk⟩)
  (fun Kn1 => []) (fun Kn1 => [(26, fun e h => dL (e 3) fun l_3a l_3n l_3c => dI .i64 (e 4) fun i_4 => dI .i64 (e 5) fun k_5 => LoopV (fun (s : Int) h Kn => ref29_IsName_l2 l_3a l_3n l_3c i_4 Q Kn1 s h Kn) k_5 h)])
  (fun Kn1 => trivial)
  (fun Kn1 => ⟨⟨by kernel_rfl, fun e h he hk => by
 have F := Ag.nil (e := e)
 have ⟨l_3a, l_3n, l_3c, F, hk⟩ := eL F hk
 have ⟨i_4, F, hk⟩ := eI F hk
 have ⟨k_5, F, hk⟩ := eI F hk
 exact loopU (s0 := k_5) follows (keep_sub (by kernel_rfl)) he F (fun s => [(5, .int .i64 s)]) (by kernel_rfl) (F.take 1) hk (fun Kn2 e h => dI .i64 (e 5) fun k_5 => Kn2 k_5 h) (fun Kn2 e h hk => by
  have F := Ag.nil (e := e)
  have ⟨k_5, F, hk⟩ := eI F hk
  exact ⟨k_5, F, hk⟩)
  (fun Kn2 => []) (fun Kn2 => [])
  (fun Kn2 => trivial)
  (fun Kn2 => trivial) (fun e s h Kn2 => by as_aux_lemma => kernel_rfl)⟩, trivial⟩) (fun e s h Kn1 => by as_aux_lemma => kernel_rfl)⟩, trivial⟩ (by as_aux_lemma => kernel_rfl) hk
/-! ### intrusion/dns.Decode -/
def dns_Decode_b8 (t2 r_4 d_5 : Addr) (Q : QT) (h : Heap) : Prop :=
 ldI h (Addr.add r_4 2) .i64 fun t127 => if (t127 != 0) = true then (ldI h (Addr.add r_4 2) .i64 fun t133 => stN h t2 [.int .i64 0, .int .i64 0, .slice none 0 0, .slice none 0 0] 0 fun h35 => (ldI h35 (Addr.add r_4 2) .i64 fun t9133 => (.int .i64 t9133 : Value) = .int .i64 t133) ∧ ldI h35 t2 .i64 fun r0_0 => ldI h35 (Addr.add t2 1) .i64 fun r0_1 => ldL h35 (Addr.add t2 2) fun r0_2a r0_2n r0_2c => ldL h35 (Addr.add t2 3) fun r0_3a r0_3n r0_3c => Q (.tuple #[.agg #[.int .i64 r0_0, .int .i64 r0_1, .slice r0_2a r0_2n r0_2c, .slice r0_3a r0_3n r0_3c], .int .i64 t133]) h35) else (ldI h d_5 .i64 fun t134_0 => ldI h (Addr.add d_5 1) .i64 fun t134_1 => ldL h (Addr.add d_5 2) fun t134_2a t134_2n t134_2c => ldL h (Addr.add d_5 3) fun t134_3a t134_3n t134_3c => stN h t2 [.int .i64 t134_0, .int .i64 t134_1, .slice t134_2a t134_2n t134_2c, .slice t134_3a t134_3n t134_3c] 0 fun h36 => ldI h36 t2 .i64 fun r0_0 => ldI h36 (Addr.add t2 1) .i64 fun r0_1 => ldL h36 (Addr.add t2 2) fun r0_2a r0_2n r0_2c => ldL h36 (Addr.add t2 3) fun r0_3a r0_3n r0_3c => Q (.tuple #[.agg #[.int .i64 r0_0, .int .i64 r0_1, .slice r0_2a r0_2n r0_2c, .slice r0_3a r0_3n r0_3c], .int .i64 0]) h36)
def dns_Decode_b7 (s_0 : ByteArray) (t2 r_4 d_5 : Addr) (Q : QT) (h : Heap) : Prop :=
 ldI h (Addr.add r_4 2) .i64 fun t110 => if (t110 == 0) = true then (ldI h (Addr.add r_4 1) .i64 fun t116 => if (decide (t116 < ((s_0.size : Nat) : Int))) = true then (st1 h (Addr.add r_4 2) (.int .i64 2) fun h34 => dns_Decode_b8 t2 r_4 d_5 Q h34) else (dns_Decode_b8 t2 r_4 d_5 Q h)) else (dns_Decode_b8 t2 r_4 d_5 Q h)
def dns_Decode_l6 (s_0 : ByteArray) (t2 r_4 d_5 : Addr) (answers_7 : Int) (Q : QT) (i_10 : Int) (h : Heap) (Kn6 : Int → Heap → Prop) : Prop :=
 if (decide (i_10 < answers_7)) = true then (ldI h (Addr.add r_4 2) .i64 fun t78 => if (t78 == 0) = true then (CallT Tryd.prog fn_dns_reader_name #[.pointer (some r_4)] h fun v h20 => ∃ t84 : ByteArray, v = .string t84 ∧ alV h20 (.cells #[.string (⟨#[]⟩ : ByteArray), .int .i64 0, .int .i64 0, .string (⟨#[]⟩ : ByteArray)] T_api_DnsRecord) fun t11 h21 => stN h21 t11 [.string t84, .int .i64 0, .int .i64 0, .string (⟨#[]⟩ : ByteArray)] 0 fun h22 => CallT Tryd.prog fn_dns_reader_number #[.pointer (some r_4), .int .i64 2] h22 fun v h23 => ∃ t87 : Int, v = .int .i64 t87 ∧ st1 h23 (Addr.add t11 1) (.int .i64 t87) fun h24 => CallT Tryd.prog fn_dns_reader_class #[.pointer (some r_4)] h24 fun v h25 => v = .tuple #[] ∧ CallT Tryd.prog fn_dns_reader_number #[.pointer (some r_4), .int .i64 4] h25 fun v h26 => ∃ t92 : Int, v = .int .i64 t92 ∧ st1 h26 (Addr.add t11 2) (.int .i64 t92) fun h27 => ldI h27 (Addr.add t11 1) .i64 fun t96 => CallT Tryd.prog fn_dns_reader_number #[.pointer (some r_4), .int .i64 2] h27 fun v h28 => ∃ t98 : Int, v = .int .i64 t98 ∧ (ldI h28 (Addr.add t11 1) .i64 fun t996 => (.int .i64 t996 : Value) = .int .i64 t96) ∧ CallT Tryd.prog fn_dns_reader_data #[.pointer (some r_4), .int .i64 t96, .int .i64 t98] h28 fun v h29 => ∃ t99 : ByteArray, v = .string t99 ∧ st1 h29 (Addr.add t11 3) (.string t99) fun h30 => ldL h30 (Addr.add d_5 3) fun t102a t102n t102c => ldS h30 t11 fun t103_0 => ldI h30 (Addr.add t11 1) .i64 fun t103_1 => ldI h30 (Addr.add t11 2) .i64 fun t103_2 => ldS h30 (Addr.add t11 3) fun t103_3 => alV h30 (.cells #[.string t103_0, .int .i64 t103_1, .int .i64 t103_2, .string t103_3] T_api_DnsRecord) fun t104 h31 => bltV Tryd.prog .append #[T_sl_api_DnsRecord, T_sl_api_DnsRecord] T_sl_api_DnsRecord #[false, false] #[.slice t102a t102n t102c, .slice (some t104) 1 1] h31 fun v h32 => ∃ t105a : Option Addr, ∃ t105n : Nat, ∃ t105c : Nat, v = .slice t105a t105n t105c ∧ st1 h32 (Addr.add d_5 3) (.slice t105a t105n t105c) fun h33 => Kn6 (wrap .i64 (i_10 + 1)) h33) else (dns_Decode_b7 s_0 t2 r_4 d_5 Q h)) else (dns_Decode_b7 s_0 t2 r_4 d_5 Q h)
def dns_Decode_b5 (s_0 : ByteArray) (t2 r_4 d_5 : Addr) (answers_7 : Int) (Q : QT) (h : Heap) : Prop :=
 LoopV (fun (s : Int) h Kn => dns_Decode_l6 s_0 t2 r_4 d_5 answers_7 Q s h Kn) 0 h
def dns_Decode_l4 (s_0 : ByteArray) (t2 r_4 d_5 : Addr) (questions_6 answers_7 : Int) (Q : QT) (i_8 : Int) (h : Heap) (Kn4 : Int → Heap → Prop) : Prop :=
 if (decide (i_8 < questions_6)) = true then (ldI h (Addr.add r_4 2) .i64 fun t52 => if (t52 == 0) = true then (CallT Tryd.prog fn_dns_reader_name #[.pointer (some r_4)] h fun v h11 => ∃ t58 : ByteArray, v = .string t58 ∧ alV h11 (.cells #[.string (⟨#[]⟩ : ByteArray), .int .i64 0] T_api_DnsQuestion) fun t9 h12 => stN h12 t9 [.string t58, .int .i64 0] 0 fun h13 => CallT Tryd.prog fn_dns_reader_number #[.pointer (some r_4), .int .i64 2] h13 fun v h14 => ∃ t61 : Int, v = .int .i64 t61 ∧ st1 h14 (Addr.add t9 1) (.int .i64 t61) fun h15 => CallT Tryd.prog fn_dns_reader_class #[.pointer (some r_4)] h15 fun v h16 => v = .tuple #[] ∧ ldL h16 (Addr.add d_5 2) fun t66a t66n t66c => ldS h16 t9 fun t67_0 => ldI h16 (Addr.add t9 1) .i64 fun t67_1 => alV h16 (.cells #[.string t67_0, .int .i64 t67_1] T_api_DnsQuestion) fun t68 h17 => bltV Tryd.prog .append #[T_sl_api_DnsQuestion, T_sl_api_DnsQuestion] T_sl_api_DnsQuestion #[false, false] #[.slice t66a t66n t66c, .slice (some t68) 1 1] h17 fun v h18 => ∃ t69a : Option Addr, ∃ t69n : Nat, ∃ t69c : Nat, v = .slice t69a t69n t69c ∧ st1 h18 (Addr.add d_5 2) (.slice t69a t69n t69c) fun h19 => Kn4 (wrap .i64 (i_8 + 1)) h19) else (dns_Decode_b5 s_0 t2 r_4 d_5 answers_7 Q h)) else (dns_Decode_b5 s_0 t2 r_4 d_5 answers_7 Q h)
def dns_Decode_b3 (s_0 : ByteArray) (t2 r_4 d_5 : Addr) (questions_6 answers_7 : Int) (Q : QT) (h : Heap) : Prop :=
 LoopV (fun (s : Int) h Kn => dns_Decode_l4 s_0 t2 r_4 d_5 questions_6 answers_7 Q s h Kn) 0 h
def dns_Decode_b2 (s_0 : ByteArray) (t2 r_4 d_5 : Addr) (questions_6 answers_7 : Int) (Q : QT) (h : Heap) : Prop :=
 ldI h (Addr.add r_4 2) .i64 fun t32 => if (t32 == 0) = true then (if (decide (questions_6 > 8)) = true then (st1 h (Addr.add r_4 2) (.int .i64 3) fun h9 => dns_Decode_b3 s_0 t2 r_4 d_5 questions_6 answers_7 Q h9) else (if (decide (answers_7 > 32)) = true then (st1 h (Addr.add r_4 2) (.int .i64 3) fun h10 => dns_Decode_b3 s_0 t2 r_4 d_5 questions_6 answers_7 Q h10) else (dns_Decode_b3 s_0 t2 r_4 d_5 questions_6 answers_7 Q h))) else (dns_Decode_b3 s_0 t2 r_4 d_5 questions_6 answers_7 Q h)
def dns_Decode_l1 (s_0 : ByteArray) (t2 r_4 d_5 : Addr) (questions_6 : Int) (Q : QT) (answers_7 t22 : Int) (h : Heap) (Kn1 : Int × Int → Heap → Prop) : Prop :=
 if (decide (t22 < 3)) = true then (CallT Tryd.prog fn_dns_reader_number #[.pointer (some r_4), .int .i64 2] h fun v h8 => ∃ t26 : Int, v = .int .i64 t26 ∧ Kn1 (wrap .i64 (answers_7 + t26), wrap .i64 (t22 + 1)) h8) else (dns_Decode_b2 s_0 t2 r_4 d_5 questions_6 answers_7 Q h)
def dns_Decode_v (s_0 : ByteArray) (Q : QT) (h : Heap) : Prop :=
 alV h (.cells #[.int .i64 0, .int .i64 0, .slice none 0 0, .slice none 0 0] T_api_Dns) fun t2 h1 => alV h1 (.cells #[.string s_0, .int .i64 0, .int .i64 0] T_dns_reader) fun t14 h2 => CallT Tryd.prog fn_dns_reader_number #[.pointer (some t14), .int .i64 2] h2 fun v h3 => ∃ t16 : Int, v = .int .i64 t16 ∧ CallT Tryd.prog fn_dns_reader_number #[.pointer (some t14), .int .i64 2] h3 fun v h4 => ∃ t18 : Int, v = .int .i64 t18 ∧ alV h4 (.cells #[.int .i64 0, .int .i64 0, .slice none 0 0, .slice none 0 0] T_api_Dns) fun t5 h5 => stN h5 t5 [.int .i64 t16, .int .i64 t18, .slice none 0 0, .slice none 0 0] 0 fun h6 => CallT Tryd.prog fn_dns_reader_number #[.pointer (some t14), .int .i64 2] h6 fun v h7 => ∃ t21 : Int, v = .int .i64 t21 ∧ LoopV (fun (s : Int × Int) h Kn => dns_Decode_l1 s_0 t2 t14 t5 t21 Q s.1 s.2 h Kn) (0, 0) h7
set_option maxRecDepth 100000 in
theorem dns_Decode_s (s_0 : ByteArray) {Q : QT} {h : Heap} (hk : dns_Decode_v s_0 Q h) : CallT Tryd.prog fn_dns_Decode #[.string s_0] h Q :=
 callU follows Tryd.func13 (Tryd.call13 _) rfl rfl [(18, fun e h => dS (e 0) fun s_0 => dA (e 2) fun t2 => dA (e 4) fun r_4 => dA (e 5) fun d_5 => dI .i64 (e 6) fun questions_6 => dI .i64 (e 7) fun answers_7 => dns_Decode_b2 s_0 t2 r_4 d_5 questions_6 answers_7 Q h), (22, fun e h => dS (e 0) fun s_0 => dA (e 2) fun t2 => dA (e 4) fun r_4 => dA (e 5) fun d_5 => dI .i64 (e 6) fun questions_6 => dI .i64 (e 7) fun answers_7 => dns_Decode_b3 s_0 t2 r_4 d_5 questions_6 answers_7 Q h), (36, fun e h => dS (e 0) fun s_0 => dA (e 2) fun t2 => dA (e 4) fun r_4 => dA (e 5) fun d_5 => dI .i64 (e 7) fun answers_7 => dns_Decode_b5 s_0 t2 r_4 d_5 answers_7 Q h), (54, fun e h => dS (e 0) fun s_0 => dA (e 2) fun t2 => dA (e 4) fun r_4 => dA (e 5) fun d_5 => dns_Decode_b7 s_0 t2 r_4 d_5 Q h), (58, fun e h => dA (e 2) fun t2 => dA (e 4) fun r_4 => dA (e 5) fun d_5 => dns_Decode_b8 t2 r_4 d_5 Q h)] [(12, fun e h => dS (e 0) fun s_0 => dA (e 2) fun t2 => dA (e 4) fun r_4 => dA (e 5) fun d_5 => dI .i64 (e 6) fun questions_6 => dI .i64 (e 7) fun answers_7 => dI .i64 (e 22) fun t22 => LoopV (fun (s : Int × Int) h Kn => dns_Decode_l1 s_0 t2 r_4 d_5 questions_6 Q s.1 s.2 h Kn) (answers_7, t22) h), (24, fun e h => dS (e 0) fun s_0 => dA (e 2) fun t2 => dA (e 4) fun r_4 => dA (e 5) fun d_5 => dI .i64 (e 6) fun questions_6 => dI .i64 (e 7) fun answers_7 => dI .i64 (e 8) fun i_8 => LoopV (fun (s : Int) h Kn => dns_Decode_l4 s_0 t2 r_4 d_5 questions_6 answers_7 Q s h Kn) i_8 h), (38, fun e h => dS (e 0) fun s_0 => dA (e 2) fun t2 => dA (e 4) fun r_4 => dA (e 5) fun d_5 => dI .i64 (e 7) fun answers_7 => dI .i64 (e 10) fun i_10 => LoopV (fun (s : Int) h Kn => dns_Decode_l6 s_0 t2 r_4 d_5 answers_7 Q s h Kn) i_10 h)]
 ⟨fun e h _ hk => by
 have F := Ag.nil (e := e)
 have ⟨s_0, F, hk⟩ := eS F hk
 have ⟨t2, F, hk⟩ := eA F hk
 have ⟨r_4, F, hk⟩ := eA F hk
 have ⟨d_5, F, hk⟩ := eA F hk
 have ⟨questions_6, F, hk⟩ := eI F hk
 have ⟨answers_7, F, hk⟩ := eI F hk
 exact cutU F (by as_aux_lemma => kernel_rfl) hk, fun e h _ hk => by
 have F := Ag.nil (e := e)
 have ⟨s_0, F, hk⟩ := eS F hk
 have ⟨t2, F, hk⟩ := eA F hk
 have ⟨r_4, F, hk⟩ := eA F hk
 have ⟨d_5, F, hk⟩ := eA F hk
 have ⟨questions_6, F, hk⟩ := eI F hk
 have ⟨answers_7, F, hk⟩ := eI F hk
 exact cutU F (by as_aux_lemma => kernel_rfl) hk, fun e h _ hk => by
 have F := Ag.nil (e := e)
 have ⟨s_0, F, hk⟩ := eS F hk
 have ⟨t2, F, hk⟩ := eA F hk
 have ⟨r_4, F, hk⟩ := eA F hk
 have ⟨d_5, F, hk⟩ := eA F hk
 have ⟨answers_7, F, hk⟩ := eI F hk
 exact cutU F (by as_aux_lemma => kernel_rfl) hk, fun e h _ hk => by
 have F := Ag.nil (e := e)
 have ⟨s_0, F, hk⟩ := eS F hk
 have ⟨t2, F, hk⟩ := eA F hk
 have ⟨r_4, F, hk⟩ := eA F hk
 have ⟨d_5, F, hk⟩ := eA F hk
 exact cutU F (by as_aux_lemma => kernel_rfl) hk, fun e h _ hk => by
 have F := Ag.nil (e := e)
 have ⟨t2, F, hk⟩ := eA F hk
 have ⟨r_4, F, hk⟩ := eA F hk
 have ⟨d_5, F, hk⟩ := eA F hk
 exact cutU F (by as_aux_lemma => kernel_rfl) hk, trivial⟩
 ⟨⟨by kernel_rfl, fun e h he hk => by
 have F := Ag.nil (e := e)
 have ⟨s_0, F, hk⟩ := eS F hk
 have ⟨t2, F, hk⟩ := eA F hk
 have ⟨r_4, F, hk⟩ := eA F hk
 have ⟨d_5, F, hk⟩ := eA F hk
 have ⟨questions_6, F, hk⟩ := eI F hk
 have ⟨answers_7, F, hk⟩ := eI F hk
 have ⟨t22, F, hk⟩ := eI F hk
 exact loopU (s0 := (answers_7, t22)) follows (fun _ h => by cases h) he F (fun s => [(22, .int .i64 s.2), (7, .int .i64 s.1)]) (by kernel_rfl) (F.take 2) hk (fun Kn1 e h => dI .i64 (e 7) fun answers_7 => dI .i64 (e 22) fun t22 => Kn1 (answers_7, t22) h) (fun Kn1 e h hk => by
  have F := Ag.nil (e := e)
  have ⟨answers_7, F, hk⟩ := eI F hk
  have ⟨t22, F, hk⟩ := eI F hk
  exact ⟨(answers_7, t22), F, hk⟩)
  (fun Kn1 => []) (fun Kn1 => [])
  (fun Kn1 => trivial)
  (fun Kn1 => trivial) (fun e s h Kn1 => by as_aux_lemma => kernel_rfl)⟩, ⟨by kernel_rfl, fun e h he hk => by
 have F := Ag.nil (e := e)
 have ⟨s_0, F, hk⟩ := eS F hk
 have ⟨t2, F, hk⟩ := eA F hk
 have ⟨r_4, F, hk⟩ := eA F hk
 have ⟨d_5, F, hk⟩ := eA F hk
 have ⟨questions_6, F, hk⟩ := eI F hk
 have ⟨answers_7, F, hk⟩ := eI F hk
 have ⟨i_8, F, hk⟩ := eI F hk
 exact loopU (s0 := i_8) follows (fun _ h => by cases h) he F (fun s => [(8, .int .i64 s)]) (by kernel_rfl) (F.take 1) hk (fun Kn4 e h => dI .i64 (e 8) fun i_8 => Kn4 i_8 h) (fun Kn4 e h hk => by
  have F := Ag.nil (e := e)
  have ⟨i_8, F, hk⟩ := eI F hk
  exact ⟨i_8, F, hk⟩)
  (fun Kn4 => []) (fun Kn4 => [])
  (fun Kn4 => trivial)
  (fun Kn4 => trivial) (fun e s h Kn4 => by as_aux_lemma => kernel_rfl)⟩, ⟨by kernel_rfl, fun e h he hk => by
 have F := Ag.nil (e := e)
 have ⟨s_0, F, hk⟩ := eS F hk
 have ⟨t2, F, hk⟩ := eA F hk
 have ⟨r_4, F, hk⟩ := eA F hk
 have ⟨d_5, F, hk⟩ := eA F hk
 have ⟨answers_7, F, hk⟩ := eI F hk
 have ⟨i_10, F, hk⟩ := eI F hk
 exact loopU (s0 := i_10) follows (fun _ h => by cases h) he F (fun s => [(10, .int .i64 s)]) (by kernel_rfl) (F.take 1) hk (fun Kn6 e h => dI .i64 (e 10) fun i_10 => Kn6 i_10 h) (fun Kn6 e h hk => by
  have F := Ag.nil (e := e)
  have ⟨i_10, F, hk⟩ := eI F hk
  exact ⟨i_10, F, hk⟩)
  (fun Kn6 => []) (fun Kn6 => [])
  (fun Kn6 => trivial)
  (fun Kn6 => trivial) (fun e s h Kn6 => by as_aux_lemma => kernel_rfl)⟩, trivial⟩ (by as_aux_lemma => kernel_rfl) hk
/-! ### intrusion/intrusionref29.Decode -/
def ref29_Decode_b4 (s_0 : ByteArray) (t2 d_4 : Addr) (at_7 : Int) (Q : QT) (h : Heap) : Prop :=
 if (at_7 != ((s_0.size : Nat) : Int)) = true then (stN h t2 [.int .i64 0, .int .i64 0, .slice none 0 0, .slice none 0 0] 0 fun h26 => ldI h26 t2 .i64 fun r0_0 => ldI h26 (Addr.add t2 1) .i64 fun r0_1 => ldL h26 (Addr.add t2 2) fun r0_2a r0_2n r0_2c => ldL h26 (Addr.add t2 3) fun r0_3a r0_3n r0_3c => Q (.tuple #[.agg #[.int .i64 r0_0, .int .i64 r0_1, .slice r0_2a r0_2n r0_2c, .slice r0_3a r0_3n r0_3c], .int .i64 2]) h26) else (ldI h d_4 .i64 fun t93_0 => ldI h (Addr.add d_4 1) .i64 fun t93_1 => ldL h (Addr.add d_4 2) fun t93_2a t93_2n t93_2c => ldL h (Addr.add d_4 3) fun t93_3a t93_3n t93_3c => stN h t2 [.int .i64 t93_0, .int .i64 t93_1, .slice t93_2a t93_2n t93_2c, .slice t93_3a t93_3n t93_3c] 0 fun h27 => ldI h27 t2 .i64 fun r0_0 => ldI h27 (Addr.add t2 1) .i64 fun r0_1 => ldL h27 (Addr.add t2 2) fun r0_2a r0_2n r0_2c => ldL h27 (Addr.add t2 3) fun r0_3a r0_3n r0_3c => Q (.tuple #[.agg #[.int .i64 r0_0, .int .i64 r0_1, .slice r0_2a r0_2n r0_2c, .slice r0_3a r0_3n r0_3c], .int .i64 0]) h27)
def ref29_Decode_l3 (s_0 : ByteArray) (t2 d_4 : Addr) (records_6 : Int) (Q : QT) (at_7 i_12 : Int) (h : Heap) (Kn3 : Int × Int → Heap → Prop) : Prop :=
 if (decide (i_12 < records_6)) = true then (CallT Tryd.prog fn_ref29_record #[.string s_0, .int .i64 at_7] h fun v h19 => ∃ t73_0_0 : ByteArray, ∃ t73_0_1 : Int, ∃ t73_0_2 : Int, ∃ t73_0_3 : ByteArray, ∃ t73_1 : Int, ∃ t73_2 : Int, v = .tuple #[.agg #[.string t73_0_0, .int .i64 t73_0_1, .int .i64 t73_0_2, .string t73_0_3], .int .i64 t73_1, .int .i64 t73_2] ∧ alV h19 (.cells #[.string (⟨#[]⟩ : ByteArray), .int .i64 0, .int .i64 0, .string (⟨#[]⟩ : ByteArray)] T_api_DnsRecord) fun t13 h20 => stN h20 t13 [.string t73_0_0, .int .i64 t73_0_1, .int .i64 t73_0_2, .string t73_0_3] 0 fun h21 => if (t73_2 != 0) = true then (stN h21 t2 [.int .i64 0, .int .i64 0, .slice none 0 0, .slice none 0 0] 0 fun h22 => ldI h22 t2 .i64 fun r0_0 => ldI h22 (Addr.add t2 1) .i64 fun r0_1 => ldL h22 (Addr.add t2 2) fun r0_2a r0_2n r0_2c => ldL h22 (Addr.add t2 3) fun r0_3a r0_3n r0_3c => Q (.tuple #[.agg #[.int .i64 r0_0, .int .i64 r0_1, .slice r0_2a r0_2n r0_2c, .slice r0_3a r0_3n r0_3c], .int .i64 t73_2]) h22) else (ldL h21 (Addr.add d_4 3) fun t82a t82n t82c => ldS h21 t13 fun t83_0 => ldI h21 (Addr.add t13 1) .i64 fun t83_1 => ldI h21 (Addr.add t13 2) .i64 fun t83_2 => ldS h21 (Addr.add t13 3) fun t83_3 => alV h21 (.cells #[.string t83_0, .int .i64 t83_1, .int .i64 t83_2, .string t83_3] T_api_DnsRecord) fun t84 h23 => bltV Tryd.prog .append #[T_sl_api_DnsRecord, T_sl_api_DnsRecord] T_sl_api_DnsRecord #[false, false] #[.slice t82a t82n t82c, .slice (some t84) 1 1] h23 fun v h24 => ∃ t85a : Option Addr, ∃ t85n : Nat, ∃ t85c : Nat, v = .slice t85a t85n t85c ∧ st1 h24 (Addr.add d_4 3) (.slice t85a t85n t85c) fun h25 => Kn3 (t73_1, wrap .i64 (i_12 + 1)) h25)) else (ref29_Decode_b4 s_0 t2 d_4 at_7 Q h)
def ref29_Decode_b2 (s_0 : ByteArray) (t2 d_4 : Addr) (records_6 at_7 : Int) (Q : QT) (h : Heap) : Prop :=
 LoopV (fun (s : Int × Int) h Kn => ref29_Decode_l3 s_0 t2 d_4 records_6 Q s.1 s.2 h Kn) (at_7, 0) h
def ref29_Decode_l1 (s_0 : ByteArray) (t2 d_4 : Addr) (questions_5 records_6 : Int) (Q : QT) (at_7 i_8 : Int) (h : Heap) (Kn1 : Int × Int → Heap → Prop) : Prop :=
 if (decide (i_8 < questions_5)) = true then (CallT Tryd.prog fn_ref29_question #[.string s_0, .int .i64 at_7] h fun v h11 => ∃ t50_0_0 : ByteArray, ∃ t50_0_1 : Int, ∃ t50_1 : Int, ∃ t50_2 : Int, v = .tuple #[.agg #[.string t50_0_0, .int .i64 t50_0_1], .int .i64 t50_1, .int .i64 t50_2] ∧ alV h11 (.cells #[.string (⟨#[]⟩ : ByteArray), .int .i64 0] T_api_DnsQuestion) fun t9 h12 => stN h12 t9 [.string t50_0_0, .int .i64 t50_0_1] 0 fun h13 => if (t50_2 != 0) = true then (stN h13 t2 [.int .i64 0, .int .i64 0, .slice none 0 0, .slice none 0 0] 0 fun h14 => ldI h14 t2 .i64 fun r0_0 => ldI h14 (Addr.add t2 1) .i64 fun r0_1 => ldL h14 (Addr.add t2 2) fun r0_2a r0_2n r0_2c => ldL h14 (Addr.add t2 3) fun r0_3a r0_3n r0_3c => Q (.tuple #[.agg #[.int .i64 r0_0, .int .i64 r0_1, .slice r0_2a r0_2n r0_2c, .slice r0_3a r0_3n r0_3c], .int .i64 t50_2]) h14) else (ldL h13 (Addr.add d_4 2) fun t59a t59n t59c => ldS h13 t9 fun t60_0 => ldI h13 (Addr.add t9 1) .i64 fun t60_1 => alV h13 (.cells #[.string t60_0, .int .i64 t60_1] T_api_DnsQuestion) fun t61 h15 => bltV Tryd.prog .append #[T_sl_api_DnsQuestion, T_sl_api_DnsQuestion] T_sl_api_DnsQuestion #[false, false] #[.slice t59a t59n t59c, .slice (some t61) 1 1] h15 fun v h16 => ∃ t62a : Option Addr, ∃ t62n : Nat, ∃ t62c : Nat, v = .slice t62a t62n t62c ∧ st1 h16 (Addr.add d_4 2) (.slice t62a t62n t62c) fun h17 => Kn1 (t50_1, wrap .i64 (i_8 + 1)) h17)) else (ref29_Decode_b2 s_0 t2 d_4 records_6 at_7 Q h)
def ref29_Decode_b5 (t2 : Addr) (Q : QT) (h : Heap) : Prop :=
 stN h t2 [.int .i64 0, .int .i64 0, .slice none 0 0, .slice none 0 0] 0 fun h18 => ldI h18 t2 .i64 fun r0_0 => ldI h18 (Addr.add t2 1) .i64 fun r0_1 => ldL h18 (Addr.add t2 2) fun r0_2a r0_2n r0_2c => ldL h18 (Addr.add t2 3) fun r0_3a r0_3n r0_3c => Q (.tuple #[.agg #[.int .i64 r0_0, .int .i64 r0_1, .slice r0_2a r0_2n r0_2c, .slice r0_3a r0_3n r0_3c], .int .i64 3]) h18
def ref29_Decode_v (s_0 : ByteArray) (Q : QT) (h : Heap) : Prop :=
 alV h (.cells #[.int .i64 0, .int .i64 0, .slice none 0 0, .slice none 0 0] T_api_Dns) fun t2 h1 => if (decide (((s_0.size : Nat) : Int) < 12)) = true then (stN h1 t2 [.int .i64 0, .int .i64 0, .slice none 0 0, .slice none 0 0] 0 fun h2 => ldI h2 t2 .i64 fun r0_0 => ldI h2 (Addr.add t2 1) .i64 fun r0_1 => ldL h2 (Addr.add t2 2) fun r0_2a r0_2n r0_2c => ldL h2 (Addr.add t2 3) fun r0_3a r0_3n r0_3c => Q (.tuple #[.agg #[.int .i64 r0_0, .int .i64 r0_1, .slice r0_2a r0_2n r0_2c, .slice r0_3a r0_3n r0_3c], .int .i64 1]) h2) else (CallT Tryd.prog fn_ref29_number #[.string s_0, .int .i64 0, .int .i64 2] h1 fun v h3 => ∃ t21 : Int, v = .int .i64 t21 ∧ CallT Tryd.prog fn_ref29_number #[.string s_0, .int .i64 2, .int .i64 2] h3 fun v h4 => ∃ t23 : Int, v = .int .i64 t23 ∧ alV h4 (.cells #[.int .i64 0, .int .i64 0, .slice none 0 0, .slice none 0 0] T_api_Dns) fun t4 h5 => stN h5 t4 [.int .i64 t21, .int .i64 t23, .slice none 0 0, .slice none 0 0] 0 fun h6 => CallT Tryd.prog fn_ref29_number #[.string s_0, .int .i64 4, .int .i64 2] h6 fun v h7 => ∃ t26 : Int, v = .int .i64 t26 ∧ CallT Tryd.prog fn_ref29_number #[.string s_0, .int .i64 6, .int .i64 2] h7 fun v h8 => ∃ t28 : Int, v = .int .i64 t28 ∧ CallT Tryd.prog fn_ref29_number #[.string s_0, .int .i64 8, .int .i64 2] h8 fun v h9 => ∃ t30 : Int, v = .int .i64 t30 ∧ CallT Tryd.prog fn_ref29_number #[.string s_0, .int .i64 10, .int .i64 2] h9 fun v h10 => ∃ t33 : Int, v = .int .i64 t33 ∧ if (decide (t26 > 8)) = true then (ref29_Decode_b5 t2 Q h10) else (if (decide ((wrap .i64 ((wrap .i64 (t28 + t30)) + t33)) > 32)) = true then (ref29_Decode_b5 t2 Q h10) else (LoopV (fun (s : Int × Int) h Kn => ref29_Decode_l1 s_0 t2 t4 t26 (wrap .i64 ((wrap .i64 (t28 + t30)) + t33)) Q s.1 s.2 h Kn) (12, 0) h10)))
set_option maxRecDepth 100000 in
theorem ref29_Decode_s (s_0 : ByteArray) {Q : QT} {h : Heap} (hk : ref29_Decode_v s_0 Q h) : CallT Tryd.prog fn_ref29_Decode #[.string s_0] h Q :=
 callU follows Tryd.func14 (Tryd.call14 _) rfl rfl [(17, fun e h => dA (e 2) fun t2 => ref29_Decode_b5 t2 Q h), (36, fun e h => dS (e 0) fun s_0 => dA (e 2) fun t2 => dA (e 4) fun d_4 => dI .i64 (e 6) fun records_6 => dI .i64 (e 7) fun at_7 => ref29_Decode_b2 s_0 t2 d_4 records_6 at_7 Q h), (52, fun e h => dS (e 0) fun s_0 => dA (e 2) fun t2 => dA (e 4) fun d_4 => dI .i64 (e 7) fun at_7 => ref29_Decode_b4 s_0 t2 d_4 at_7 Q h)] [(22, fun e h => dS (e 0) fun s_0 => dA (e 2) fun t2 => dA (e 4) fun d_4 => dI .i64 (e 5) fun questions_5 => dI .i64 (e 6) fun records_6 => dI .i64 (e 7) fun at_7 => dI .i64 (e 8) fun i_8 => LoopV (fun (s : Int × Int) h Kn => ref29_Decode_l1 s_0 t2 d_4 questions_5 records_6 Q s.1 s.2 h Kn) (at_7, i_8) h), (38, fun e h => dS (e 0) fun s_0 => dA (e 2) fun t2 => dA (e 4) fun d_4 => dI .i64 (e 6) fun records_6 => dI .i64 (e 7) fun at_7 => dI .i64 (e 12) fun i_12 => LoopV (fun (s : Int × Int) h Kn => ref29_Decode_l3 s_0 t2 d_4 records_6 Q s.1 s.2 h Kn) (at_7, i_12) h)]
 ⟨fun e h _ hk => by
 have F := Ag.nil (e := e)
 have ⟨t2, F, hk⟩ := eA F hk
 exact cutU F (by as_aux_lemma => kernel_rfl) hk, fun e h _ hk => by
 have F := Ag.nil (e := e)
 have ⟨s_0, F, hk⟩ := eS F hk
 have ⟨t2, F, hk⟩ := eA F hk
 have ⟨d_4, F, hk⟩ := eA F hk
 have ⟨records_6, F, hk⟩ := eI F hk
 have ⟨at_7, F, hk⟩ := eI F hk
 exact cutU F (by as_aux_lemma => kernel_rfl) hk, fun e h _ hk => by
 have F := Ag.nil (e := e)
 have ⟨s_0, F, hk⟩ := eS F hk
 have ⟨t2, F, hk⟩ := eA F hk
 have ⟨d_4, F, hk⟩ := eA F hk
 have ⟨at_7, F, hk⟩ := eI F hk
 exact cutU F (by as_aux_lemma => kernel_rfl) hk, trivial⟩
 ⟨⟨by kernel_rfl, fun e h he hk => by
 have F := Ag.nil (e := e)
 have ⟨s_0, F, hk⟩ := eS F hk
 have ⟨t2, F, hk⟩ := eA F hk
 have ⟨d_4, F, hk⟩ := eA F hk
 have ⟨questions_5, F, hk⟩ := eI F hk
 have ⟨records_6, F, hk⟩ := eI F hk
 have ⟨at_7, F, hk⟩ := eI F hk
 have ⟨i_8, F, hk⟩ := eI F hk
 exact loopU (s0 := (at_7, i_8)) follows (fun _ h => by cases h) he F (fun s => [(8, .int .i64 s.2), (7, .int .i64 s.1)]) (by kernel_rfl) (F.take 2) hk (fun Kn1 e h => dI .i64 (e 7) fun at_7 => dI .i64 (e 8) fun i_8 => Kn1 (at_7, i_8) h) (fun Kn1 e h hk => by
  have F := Ag.nil (e := e)
  have ⟨at_7, F, hk⟩ := eI F hk
  have ⟨i_8, F, hk⟩ := eI F hk
  exact ⟨(at_7, i_8), F, hk⟩)
  (fun Kn1 => []) (fun Kn1 => [])
  (fun Kn1 => trivial)
  (fun Kn1 => trivial) (fun e s h Kn1 => by as_aux_lemma => kernel_rfl)⟩, ⟨by kernel_rfl, fun e h he hk => by
 have F := Ag.nil (e := e)
 have ⟨s_0, F, hk⟩ := eS F hk
 have ⟨t2, F, hk⟩ := eA F hk
 have ⟨d_4, F, hk⟩ := eA F hk
 have ⟨records_6, F, hk⟩ := eI F hk
 have ⟨at_7, F, hk⟩ := eI F hk
 have ⟨i_12, F, hk⟩ := eI F hk
 exact loopU (s0 := (at_7, i_12)) follows (fun _ h => by cases h) he F (fun s => [(12, .int .i64 s.2), (7, .int .i64 s.1)]) (by kernel_rfl) (F.take 2) hk (fun Kn3 e h => dI .i64 (e 7) fun at_7 => dI .i64 (e 12) fun i_12 => Kn3 (at_7, i_12) h) (fun Kn3 e h hk => by
  have F := Ag.nil (e := e)
  have ⟨at_7, F, hk⟩ := eI F hk
  have ⟨i_12, F, hk⟩ := eI F hk
  exact ⟨(at_7, i_12), F, hk⟩)
  (fun Kn3 => []) (fun Kn3 => [])
  (fun Kn3 => trivial)
  (fun Kn3 => trivial) (fun e s h Kn3 => by as_aux_lemma => kernel_rfl)⟩, trivial⟩ (by as_aux_lemma => kernel_rfl) hk
/-! ### intrusion/intrusionlaw29.same -/
def law29_same_l3 (a_2 b_3 : Addr) (t57 : Int) (Q : QT) (t58 : Int) (h : Heap) (Kn3 : Int → Heap → Prop) : Prop :=
 if (decide (t58 < t57)) = true then (ldL h (Addr.add a_2 3) fun t62a t62n t62c => idxA t58 t62n (nn t62a fun t64 => ldS h (Addr.add t64 ((t58).toNat * 4)) fun t65_0 => ldI h (Addr.add (Addr.add t64 ((t58).toNat * 4)) 1) .i64 fun t65_1 => ldI h (Addr.add (Addr.add t64 ((t58).toNat * 4)) 2) .i64 fun t65_2 => ldS h (Addr.add (Addr.add t64 ((t58).toNat * 4)) 3) fun t65_3 => ldL h (Addr.add b_3 3) fun t67a t67n t67c => idxA t58 t67n (nn t67a fun t69 => ldS h (Addr.add t69 ((t58).toNat * 4)) fun t70_0 => ldI h (Addr.add (Addr.add t69 ((t58).toNat * 4)) 1) .i64 fun t70_1 => ldI h (Addr.add (Addr.add t69 ((t58).toNat * 4)) 2) .i64 fun t70_2 => ldS h (Addr.add (Addr.add t69 ((t58).toNat * 4)) 3) fun t70_3 => if (!((t65_0 == t70_0) && ((t65_1 == t70_1) && ((t65_2 == t70_2) && ((t65_3 == t70_3) && true))))) = true then (Q (.bool false) h) else (Kn3 (wrap .i64 (t58 + 1)) h)))) else (Q (.bool true) h)
def law29_same_b2 (a_2 b_3 : Addr) (Q : QT) (h : Heap) : Prop :=
 ldL h (Addr.add a_2 3) fun t56a t56n t56c => LoopV (fun (s : Int) h Kn => law29_same_l3 a_2 b_3 ((t56n : Nat) : Int) Q s h Kn) 0 h
def law29_same_l1 (a_2 b_3 : Addr) (t39 : Int) (Q : QT) (t40 : Int) (h : Heap) (Kn1 : Int → Heap → Prop) : Prop :=
 if (decide (t40 < t39)) = true then (ldL h (Addr.add a_2 2) fun t44a t44n t44c => idxA t40 t44n (nn t44a fun t46 => ldS h (Addr.add t46 ((t40).toNat * 2)) fun t47_0 => ldI h (Addr.add (Addr.add t46 ((t40).toNat * 2)) 1) .i64 fun t47_1 => ldL h (Addr.add b_3 2) fun t49a t49n t49c => idxA t40 t49n (nn t49a fun t51 => ldS h (Addr.add t51 ((t40).toNat * 2)) fun t52_0 => ldI h (Addr.add (Addr.add t51 ((t40).toNat * 2)) 1) .i64 fun t52_1 => if (!((t47_0 == t52_0) && ((t47_1 == t52_1) && true))) = true then (Q (.bool false) h) else (Kn1 (wrap .i64 (t40 + 1)) h)))) else (law29_same_b2 a_2 b_3 Q h)
def law29_same_v (a_0_0 a_0_1 : Int) (a_0_2a : Option Addr) (a_0_2n a_0_2c : Nat) (a_0_3a : Option Addr) (a_0_3n a_0_3c : Nat) (b_1_0 b_1_1 : Int) (b_1_2a : Option Addr) (b_1_2n b_1_2c : Nat) (b_1_3a : Option Addr) (b_1_3n b_1_3c : Nat) (Q : QT) (h : Heap) : Prop :=
 alV h (.cells #[.int .i64 a_0_0, .int .i64 a_0_1, .slice a_0_2a a_0_2n a_0_2c, .slice a_0_3a a_0_3n a_0_3c] T_api_Dns) fun t2 h1 => alV h1 (.cells #[.int .i64 b_1_0, .int .i64 b_1_1, .slice b_1_2a b_1_2n b_1_2c, .slice b_1_3a b_1_3n b_1_3c] T_api_Dns) fun t3 h2 => ldI h2 t2 .i64 fun t8 => ldI h2 t3 .i64 fun t10 => if (t8 != t10) = true then (Q (.bool false) h2) else (ldI h2 (Addr.add t2 1) .i64 fun t14 => ldI h2 (Addr.add t3 1) .i64 fun t16 => if (t14 != t16) = true then (Q (.bool false) h2) else (ldL h2 (Addr.add t2 2) fun t21a t21n t21c => ldL h2 (Addr.add t3 2) fun t24a t24n t24c => if (((t21n : Nat) : Int) != ((t24n : Nat) : Int)) = true then (Q (.bool false) h2) else (ldL h2 (Addr.add t2 3) fun t30a t30n t30c => ldL h2 (Addr.add t3 3) fun t33a t33n t33c => if (((t30n : Nat) : Int) != ((t33n : Nat) : Int)) = true then (Q (.bool false) h2) else (ldL h2 (Addr.add t2 2) fun t38a t38n t38c => LoopV (fun (s : Int) h Kn => law29_same_l1 t2 t3 ((t38n : Nat) : Int) Q s h Kn) 0 h2))))
set_option maxRecDepth 100000 in
theorem law29_same_s (a_0_0 a_0_1 : Int) (a_0_2a : Option Addr) (a_0_2n a_0_2c : Nat) (a_0_3a : Option Addr) (a_0_3n a_0_3c : Nat) (b_1_0 b_1_1 : Int) (b_1_2a : Option Addr) (b_1_2n b_1_2c : Nat) (b_1_3a : Option Addr) (b_1_3n b_1_3c : Nat) {Q : QT} {h : Heap} (hk : law29_same_v a_0_0 a_0_1 a_0_2a a_0_2n a_0_2c a_0_3a a_0_3n a_0_3c b_1_0 b_1_1 b_1_2a b_1_2n b_1_2c b_1_3a b_1_3n b_1_3c Q h) : CallT Tryd.prog fn_law29_same #[.agg #[.int .i64 a_0_0, .int .i64 a_0_1, .slice a_0_2a a_0_2n a_0_2c, .slice a_0_3a a_0_3n a_0_3c], .agg #[.int .i64 b_1_0, .int .i64 b_1_1, .slice b_1_2a b_1_2n b_1_2c, .slice b_1_3a b_1_3n b_1_3c]] h Q :=
 callU follows Tryd.func15 (Tryd.call15 _) rfl rfl [(20, fun e h => dA (e 2) fun a_2 => dA (e 3) fun b_3 => law29_same_b2 a_2 b_3 Q h)] [(10, fun e h => dA (e 2) fun a_2 => dA (e 3) fun b_3 => dI .i64 (e 39) fun t39 => dI .i64 (e 40) fun t40 => LoopV (fun (s : Int) h Kn => law29_same_l1 a_2 b_3 t39 Q s h Kn) t40 h), (22, fun e h => dA (e 2) fun a_2 => dA (e 3) fun b_3 => dI .i64 (e 57) fun t57 => dI .i64 (e 58) fun t58 => LoopV (fun (s : Int) h Kn => law29_same_l3 a_2 b_3 t57 Q s h Kn) t58 h)]
 ⟨fun e h _ hk => by
 have F := Ag.nil (e := e)
 have ⟨a_2, F, hk⟩ := eA F hk
 have ⟨b_3, F, hk⟩ := eA F hk
 exact cutU F (by as_aux_lemma => kernel_rfl) hk, trivial⟩
 ⟨⟨by kernel_rfl, fun e h he hk => by
 have F := Ag.nil (e := e)
 have ⟨a_2, F, hk⟩ := eA F hk
 have ⟨b_3, F, hk⟩ := eA F hk
 have ⟨t39, F, hk⟩ := eI F hk
 have ⟨t40, F, hk⟩ := eI F hk
 exact loopU (s0 := t40) follows (fun _ h => by cases h) he F (fun s => [(40, .int .i64 s)]) (by kernel_rfl) (F.take 1) hk (fun Kn1 e h => dI .i64 (e 40) fun t40 => Kn1 t40 h) (fun Kn1 e h hk => by
  have F := Ag.nil (e := e)
  have ⟨t40, F, hk⟩ := eI F hk
  exact ⟨t40, F, hk⟩)
  (fun Kn1 => []) (fun Kn1 => [])
  (fun Kn1 => trivial)
  (fun Kn1 => trivial) (fun e s h Kn1 => by as_aux_lemma => kernel_rfl)⟩, ⟨by kernel_rfl, fun e h he hk => by
 have F := Ag.nil (e := e)
 have ⟨a_2, F, hk⟩ := eA F hk
 have ⟨b_3, F, hk⟩ := eA F hk
 have ⟨t57, F, hk⟩ := eI F hk
 have ⟨t58, F, hk⟩ := eI F hk
 exact loopU (s0 := t58) follows (fun _ h => by cases h) he F (fun s => [(58, .int .i64 s)]) (by kernel_rfl) (F.take 1) hk (fun Kn3 e h => dI .i64 (e 58) fun t58 => Kn3 t58 h) (fun Kn3 e h hk => by
  have F := Ag.nil (e := e)
  have ⟨t58, F, hk⟩ := eI F hk
  exact ⟨t58, F, hk⟩)
  (fun Kn3 => []) (fun Kn3 => [])
  (fun Kn3 => trivial)
  (fun Kn3 => trivial) (fun e s h Kn3 => by as_aux_lemma => kernel_rfl)⟩, trivial⟩ (by as_aux_lemma => kernel_rfl) hk
/-! ### intrusion/intrusionlaw29.large -/
def law29_large_l3 (d_1 : Addr) (t32 : Int) (Q : QT) (t33 : Int) (h : Heap) (Kn3 : Int → Heap → Prop) : Prop :=
 if (decide (t33 < t32)) = true then (ldL h (Addr.add d_1 3) fun t37a t37n t37c => idxA t33 t37n (nn t37a fun t39 => ldS h (Addr.add t39 ((t33).toNat * 4)) fun t41 => if (decide (((t41.size : Nat) : Int) > 2000)) = true then (Q (.bool true) h) else (ldL h (Addr.add d_1 3) fun t46a t46n t46c => idxA t33 t46n (nn t46a fun t48 => ldS h (Addr.add (Addr.add t48 ((t33).toNat * 4)) 3) fun t50 => if (decide (((t50.size : Nat) : Int) > 2000)) = true then (Q (.bool true) h) else (Kn3 (wrap .i64 (t33 + 1)) h))))) else (Q (.bool false) h)
def law29_large_b2 (d_1 : Addr) (Q : QT) (h : Heap) : Prop :=
 ldL h (Addr.add d_1 3) fun t31a t31n t31c => LoopV (fun (s : Int) h Kn => law29_large_l3 d_1 ((t31n : Nat) : Int) Q s h Kn) 0 h
def law29_large_l1 (d_1 : Addr) (t17 : Int) (Q : QT) (t18 : Int) (h : Heap) (Kn1 : Int → Heap → Prop) : Prop :=
 if (decide (t18 < t17)) = true then (ldL h (Addr.add d_1 2) fun t22a t22n t22c => idxA t18 t22n (nn t22a fun t24 => ldS h (Addr.add t24 ((t18).toNat * 2)) fun t26 => if (decide (((t26.size : Nat) : Int) > 2000)) = true then (Q (.bool true) h) else (Kn1 (wrap .i64 (t18 + 1)) h))) else (law29_large_b2 d_1 Q h)
def law29_large_v (d_0_0 d_0_1 : Int) (d_0_2a : Option Addr) (d_0_2n d_0_2c : Nat) (d_0_3a : Option Addr) (d_0_3n d_0_3c : Nat) (Q : QT) (h : Heap) : Prop :=
 alV h (.cells #[.int .i64 d_0_0, .int .i64 d_0_1, .slice d_0_2a d_0_2n d_0_2c, .slice d_0_3a d_0_3n d_0_3c] T_api_Dns) fun t1 h1 => ldL h1 (Addr.add t1 2) fun t6a t6n t6c => if (decide (((t6n : Nat) : Int) > 60)) = true then (Q (.bool true) h1) else (ldL h1 (Addr.add t1 3) fun t11a t11n t11c => if (decide (((t11n : Nat) : Int) > 60)) = true then (Q (.bool true) h1) else (ldL h1 (Addr.add t1 2) fun t16a t16n t16c => LoopV (fun (s : Int) h Kn => law29_large_l1 t1 ((t16n : Nat) : Int) Q s h Kn) 0 h1))
set_option maxRecDepth 100000 in
theorem law29_large_s (d_0_0 d_0_1 : Int) (d_0_2a : Option Addr) (d_0_2n d_0_2c : Nat) (d_0_3a : Option Addr) (d_0_3n d_0_3c : Nat) {Q : QT} {h : Heap} (hk : law29_large_v d_0_0 d_0_1 d_0_2a d_0_2n d_0_2c d_0_3a d_0_3n d_0_3c Q h) : CallT Tryd.prog fn_law29_large #[.agg #[.int .i64 d_0_0, .int .i64 d_0_1, .slice d_0_2a d_0_2n d_0_2c, .slice d_0_3a d_0_3n d_0_3c]] h Q :=
 callU follows Tryd.func16 (Tryd.call16 _) rfl rfl [(20, fun e h => dA (e 1) fun d_1 => law29_large_b2 d_1 Q h)] [(10, fun e h => dA (e 1) fun d_1 => dI .i64 (e 17) fun t17 => dI .i64 (e 18) fun t18 => LoopV (fun (s : Int) h Kn => law29_large_l1 d_1 t17 Q s h Kn) t18 h), (22, fun e h => dA (e 1) fun d_1 => dI .i64 (e 32) fun t32 => dI .i64 (e 33) fun t33 => LoopV (fun (s : Int) h Kn => law29_large_l3 d_1 t32 Q s h Kn) t33 h)]
 ⟨fun e h _ hk => by
 have F := Ag.nil (e := e)
 have ⟨d_1, F, hk⟩ := eA F hk
 exact cutU F (by as_aux_lemma => kernel_rfl) hk, trivial⟩
 ⟨⟨by kernel_rfl, fun e h he hk => by
 have F := Ag.nil (e := e)
 have ⟨d_1, F, hk⟩ := eA F hk
 have ⟨t17, F, hk⟩ := eI F hk
 have ⟨t18, F, hk⟩ := eI F hk
 exact loopU (s0 := t18) follows (fun _ h => by cases h) he F (fun s => [(18, .int .i64 s)]) (by kernel_rfl) (F.take 1) hk (fun Kn1 e h => dI .i64 (e 18) fun t18 => Kn1 t18 h) (fun Kn1 e h hk => by
  have F := Ag.nil (e := e)
  have ⟨t18, F, hk⟩ := eI F hk
  exact ⟨t18, F, hk⟩)
  (fun Kn1 => []) (fun Kn1 => [])
  (fun Kn1 => trivial)
  (fun Kn1 => trivial) (fun e s h Kn1 => by as_aux_lemma => kernel_rfl)⟩, ⟨by kernel_rfl, fun e h he hk => by
 have F := Ag.nil (e := e)
 have ⟨d_1, F, hk⟩ := eA F hk
 have ⟨t32, F, hk⟩ := eI F hk
 have ⟨t33, F, hk⟩ := eI F hk
 exact loopU (s0 := t33) follows (fun _ h => by cases h) he F (fun s => [(33, .int .i64 s)]) (by kernel_rfl) (F.take 1) hk (fun Kn3 e h => dI .i64 (e 33) fun t33 => Kn3 t33 h) (fun Kn3 e h hk => by
  have F := Ag.nil (e := e)
  have ⟨t33, F, hk⟩ := eI F hk
  exact ⟨t33, F, hk⟩)
  (fun Kn3 => []) (fun Kn3 => [])
  (fun Kn3 => trivial)
  (fun Kn3 => trivial) (fun e s h Kn3 => by as_aux_lemma => kernel_rfl)⟩, trivial⟩ (by as_aux_lemma => kernel_rfl) hk
/-! ### intrusion/dns.Encode -/
def dns_Encode_v (d_0_0 d_0_1 : Int) (d_0_2a : Option Addr) (d_0_2n d_0_2c : Nat) (d_0_3a : Option Addr) (d_0_3n d_0_3c : Nat) (Q : QT) (h : Heap) : Prop :=
 alV h (.cells #[.int .i64 d_0_0, .int .i64 d_0_1, .slice d_0_2a d_0_2n d_0_2c, .slice d_0_3a d_0_3n d_0_3c] T_api_Dns) fun t1 h1 => ldI h1 t1 .i64 fun t4_0 => ldI h1 (Addr.add t1 1) .i64 fun t4_1 => ldL h1 (Addr.add t1 2) fun t4_2a t4_2n t4_2c => ldL h1 (Addr.add t1 3) fun t4_3a t4_3n t4_3c => CallT Tryd.prog fn_dns_encode #[.agg #[.int .i64 t4_0, .int .i64 t4_1, .slice t4_2a t4_2n t4_2c, .slice t4_3a t4_3n t4_3c], .map none] h1 fun v h2 => ∃ t5_0 : ByteArray, ∃ t5_1 : Int, v = .tuple #[.string t5_0, .int .i64 t5_1] ∧ Q (.tuple #[.string t5_0, .int .i64 t5_1]) h2
set_option maxRecDepth 100000 in
theorem dns_Encode_s (d_0_0 d_0_1 : Int) (d_0_2a : Option Addr) (d_0_2n d_0_2c : Nat) (d_0_3a : Option Addr) (d_0_3n d_0_3c : Nat) {Q : QT} {h : Heap} (hk : dns_Encode_v d_0_0 d_0_1 d_0_2a d_0_2n d_0_2c d_0_3a d_0_3n d_0_3c Q h) : CallT Tryd.prog fn_dns_Encode #[.agg #[.int .i64 d_0_0, .int .i64 d_0_1, .slice d_0_2a d_0_2n d_0_2c, .slice d_0_3a d_0_3n d_0_3c]] h Q :=
 callU follows Tryd.func17 (Tryd.call17 _) rfl rfl [] []
 trivial
 trivial (by as_aux_lemma => kernel_rfl) hk
/-! ### intrusion/intrusionref29.Encode -/
def ref29_Encode_v (d_0_0 d_0_1 : Int) (d_0_2a : Option Addr) (d_0_2n d_0_2c : Nat) (d_0_3a : Option Addr) (d_0_3n d_0_3c : Nat) (Q : QT) (h : Heap) : Prop :=
 alV h (.cells #[.int .i64 d_0_0, .int .i64 d_0_1, .slice d_0_2a d_0_2n d_0_2c, .slice d_0_3a d_0_3n d_0_3c] T_api_Dns) fun t1 h1 => ldI h1 t1 .i64 fun t4_0 => ldI h1 (Addr.add t1 1) .i64 fun t4_1 => ldL h1 (Addr.add t1 2) fun t4_2a t4_2n t4_2c => ldL h1 (Addr.add t1 3) fun t4_3a t4_3n t4_3c => CallT Tryd.prog fn_ref29_encode #[.agg #[.int .i64 t4_0, .int .i64 t4_1, .slice t4_2a t4_2n t4_2c, .slice t4_3a t4_3n t4_3c], .bool false] h1 fun v h2 => ∃ t5_0 : ByteArray, ∃ t5_1 : Int, v = .tuple #[.string t5_0, .int .i64 t5_1] ∧ Q (.tuple #[.string t5_0, .int .i64 t5_1]) h2
set_option maxRecDepth 100000 in
theorem ref29_Encode_s (d_0_0 d_0_1 : Int) (d_0_2a : Option Addr) (d_0_2n d_0_2c : Nat) (d_0_3a : Option Addr) (d_0_3n d_0_3c : Nat) {Q : QT} {h : Heap} (hk : ref29_Encode_v d_0_0 d_0_1 d_0_2a d_0_2n d_0_2c d_0_3a d_0_3n d_0_3c Q h) : CallT Tryd.prog fn_ref29_Encode #[.agg #[.int .i64 d_0_0, .int .i64 d_0_1, .slice d_0_2a d_0_2n d_0_2c, .slice d_0_3a d_0_3n d_0_3c]] h Q :=
 callU follows Tryd.func18 (Tryd.call18 _) rfl rfl [] []
 trivial
 trivial (by as_aux_lemma => kernel_rfl) hk
/-! ### intrusion/dns.EncodeShort -/
def dns_EncodeShort_v (d_0_0 d_0_1 : Int) (d_0_2a : Option Addr) (d_0_2n d_0_2c : Nat) (d_0_3a : Option Addr) (d_0_3n d_0_3c : Nat) (Q : QT) (h : Heap) : Prop :=
 alV h (.cells #[.int .i64 d_0_0, .int .i64 d_0_1, .slice d_0_2a d_0_2n d_0_2c, .slice d_0_3a d_0_3n d_0_3c] T_api_Dns) fun t1 h1 => ldI h1 t1 .i64 fun t4_0 => ldI h1 (Addr.add t1 1) .i64 fun t4_1 => ldL h1 (Addr.add t1 2) fun t4_2a t4_2n t4_2c => ldL h1 (Addr.add t1 3) fun t4_3a t4_3n t4_3c => mkMapV h1 fun t5 h2 => CallT Tryd.prog fn_dns_encode #[.agg #[.int .i64 t4_0, .int .i64 t4_1, .slice t4_2a t4_2n t4_2c, .slice t4_3a t4_3n t4_3c], .map (some t5)] h2 fun v h3 => ∃ t6_0 : ByteArray, ∃ t6_1 : Int, v = .tuple #[.string t6_0, .int .i64 t6_1] ∧ Q (.tuple #[.string t6_0, .int .i64 t6_1]) h3
set_option maxRecDepth 100000 in
theorem dns_EncodeShort_s (d_0_0 d_0_1 : Int) (d_0_2a : Option Addr) (d_0_2n d_0_2c : Nat) (d_0_3a : Option Addr) (d_0_3n d_0_3c : Nat) {Q : QT} {h : Heap} (hk : dns_EncodeShort_v d_0_0 d_0_1 d_0_2a d_0_2n d_0_2c d_0_3a d_0_3n d_0_3c Q h) : CallT Tryd.prog fn_dns_EncodeShort #[.agg #[.int .i64 d_0_0, .int .i64 d_0_1, .slice d_0_2a d_0_2n d_0_2c, .slice d_0_3a d_0_3n d_0_3c]] h Q :=
 callU follows Tryd.func19 (Tryd.call19 _) rfl rfl [] []
 trivial
 trivial (by as_aux_lemma => kernel_rfl) hk
/-! ### intrusion/intrusionref29.EncodeShort -/
def ref29_EncodeShort_v (d_0_0 d_0_1 : Int) (d_0_2a : Option Addr) (d_0_2n d_0_2c : Nat) (d_0_3a : Option Addr) (d_0_3n d_0_3c : Nat) (Q : QT) (h : Heap) : Prop :=
 alV h (.cells #[.int .i64 d_0_0, .int .i64 d_0_1, .slice d_0_2a d_0_2n d_0_2c, .slice d_0_3a d_0_3n d_0_3c] T_api_Dns) fun t1 h1 => ldI h1 t1 .i64 fun t4_0 => ldI h1 (Addr.add t1 1) .i64 fun t4_1 => ldL h1 (Addr.add t1 2) fun t4_2a t4_2n t4_2c => ldL h1 (Addr.add t1 3) fun t4_3a t4_3n t4_3c => CallT Tryd.prog fn_ref29_encode #[.agg #[.int .i64 t4_0, .int .i64 t4_1, .slice t4_2a t4_2n t4_2c, .slice t4_3a t4_3n t4_3c], .bool true] h1 fun v h2 => ∃ t5_0 : ByteArray, ∃ t5_1 : Int, v = .tuple #[.string t5_0, .int .i64 t5_1] ∧ Q (.tuple #[.string t5_0, .int .i64 t5_1]) h2
set_option maxRecDepth 100000 in
theorem ref29_EncodeShort_s (d_0_0 d_0_1 : Int) (d_0_2a : Option Addr) (d_0_2n d_0_2c : Nat) (d_0_3a : Option Addr) (d_0_3n d_0_3c : Nat) {Q : QT} {h : Heap} (hk : ref29_EncodeShort_v d_0_0 d_0_1 d_0_2a d_0_2n d_0_2c d_0_3a d_0_3n d_0_3c Q h) : CallT Tryd.prog fn_ref29_EncodeShort #[.agg #[.int .i64 d_0_0, .int .i64 d_0_1, .slice d_0_2a d_0_2n d_0_2c, .slice d_0_3a d_0_3n d_0_3c]] h Q :=
 callU follows Tryd.func20 (Tryd.call20 _) rfl rfl [] []
 trivial
 trivial (by as_aux_lemma => kernel_rfl) hk
/-! ### intrusion/intrusionlaw29.small -/
def law29_small_b4 (d_1 t2 out_3 x_7 : Addr) (t37 t38 : Int) (Q : QT) (Kn3 : Int → Heap → Prop) (h : Heap) : Prop :=
 ldL h (Addr.add out_3 3) fun t80a t80n t80c => ldS h x_7 fun t81_0 => ldI h (Addr.add x_7 1) .i64 fun t81_1 => ldI h (Addr.add x_7 2) .i64 fun t81_2 => ldS h (Addr.add x_7 3) fun t81_3 => alV h (.cells #[.string t81_0, .int .i64 t81_1, .int .i64 t81_2, .string t81_3] T_api_DnsRecord) fun t82 h22 => bltV Tryd.prog .append #[T_sl_api_DnsRecord, T_sl_api_DnsRecord] T_sl_api_DnsRecord #[false, false] #[.slice t80a t80n t80c, .slice (some t82) 1 1] h22 fun v h23 => ∃ t83a : Option Addr, ∃ t83n : Nat, ∃ t83c : Nat, v = .slice t83a t83n t83c ∧ st1 h23 (Addr.add out_3 3) (.slice t83a t83n t83c) fun h24 => Kn3 (wrap .i64 (t38 + 1)) h24
def law29_small_b6 (d_1 t2 out_3 x_7 : Addr) (t37 t38 t51 : Int) (Q : QT) (Kn3 : Int → Heap → Prop) (h : Heap) : Prop :=
 if (t51 == 15) = true then (ldS h (Addr.add x_7 3) fun t63 => ldS h (Addr.add x_7 3) fun t65 => sliceStr t63 none (some (if ((t65.size : Nat) : Int) < (2 : Int) then ((t65.size : Nat) : Int) else (2 : Int))) fun t68 => ldS h (Addr.add x_7 3) fun t70 => ldS h (Addr.add x_7 3) fun t72 => sliceStr t70 (some (if ((t72.size : Nat) : Int) < (2 : Int) then ((t72.size : Nat) : Int) else (2 : Int))) none fun t75 => CallT Tryd.prog fn_law29_lower #[.string t75] h fun v h25 => ∃ t76 : ByteArray, v = .string t76 ∧ (ldS h25 (Addr.add x_7 3) fun t963 => (.string t963 : Value) = .string t63) ∧ (ldS h25 (Addr.add x_7 3) fun t965 => (.string t965 : Value) = .string t65) ∧ ((t68.size + t76.size : Nat) : Int) ≤ IntKind.max .i64 ∧ st1 h25 (Addr.add x_7 3) (.string (t68 ++ t76)) fun h26 => law29_small_b4 d_1 t2 out_3 x_7 t37 t38 Q Kn3 h26) else (law29_small_b4 d_1 t2 out_3 x_7 t37 t38 Q Kn3 h)
def law29_small_b5 (t2 out_3 : Addr) (Q : QT) (h : Heap) : Prop :=
 ldI h out_3 .i64 fun t86_0 => ldI h (Addr.add out_3 1) .i64 fun t86_1 => ldL h (Addr.add out_3 2) fun t86_2a t86_2n t86_2c => ldL h (Addr.add out_3 3) fun t86_3a t86_3n t86_3c => stN h t2 [.int .i64 t86_0, .int .i64 t86_1, .slice t86_2a t86_2n t86_2c, .slice t86_3a t86_3n t86_3c] 0 fun h27 => ldI h27 t2 .i64 fun r0_0 => ldI h27 (Addr.add t2 1) .i64 fun r0_1 => ldL h27 (Addr.add t2 2) fun r0_2a r0_2n r0_2c => ldL h27 (Addr.add t2 3) fun r0_3a r0_3n r0_3c => Q (.agg #[.int .i64 r0_0, .int .i64 r0_1, .slice r0_2a r0_2n r0_2c, .slice r0_3a r0_3n r0_3c]) h27
def law29_small_l3 (d_1 t2 out_3 : Addr) (t37 : Int) (Q : QT) (t38 : Int) (h : Heap) (Kn3 : Int → Heap → Prop) : Prop :=
 if (decide (t38 < t37)) = true then (ldL h (Addr.add d_1 3) fun t42a t42n t42c => idxA t38 t42n (nn t42a fun t44 => ldS h (Addr.add t44 ((t38).toNat * 4)) fun t45_0 => ldI h (Addr.add (Addr.add t44 ((t38).toNat * 4)) 1) .i64 fun t45_1 => ldI h (Addr.add (Addr.add t44 ((t38).toNat * 4)) 2) .i64 fun t45_2 => ldS h (Addr.add (Addr.add t44 ((t38).toNat * 4)) 3) fun t45_3 => alV h (.cells #[.string (⟨#[]⟩ : ByteArray), .int .i64 0, .int .i64 0, .string (⟨#[]⟩ : ByteArray)] T_api_DnsRecord) fun t7 h12 => stN h12 t7 [.string t45_0, .int .i64 t45_1, .int .i64 t45_2, .string t45_3] 0 fun h13 => ldS h13 t7 fun t47 => CallT Tryd.prog fn_law29_lower #[.string t47] h13 fun v h14 => ∃ t48 : ByteArray, v = .string t48 ∧ st1 h14 t7 (.string t48) fun h15 => ldI h15 (Addr.add t7 1) .i64 fun t51 => if (t51 == 2) = true then (if (t51 == 2) = true then (ldS h15 (Addr.add t7 3) fun t57 => CallT Tryd.prog fn_law29_lower #[.string t57] h15 fun v h16 => ∃ t58 : ByteArray, v = .string t58 ∧ st1 h16 (Addr.add t7 3) (.string t58) fun h17 => law29_small_b4 d_1 t2 out_3 t7 t37 t38 Q Kn3 h17) else (law29_small_b6 d_1 t2 out_3 t7 t37 t38 t51 Q Kn3 h15)) else (if (t51 == 5) = true then (if (t51 == 5) = true then (ldS h15 (Addr.add t7 3) fun t57 => CallT Tryd.prog fn_law29_lower #[.string t57] h15 fun v h18 => ∃ t58 : ByteArray, v = .string t58 ∧ st1 h18 (Addr.add t7 3) (.string t58) fun h19 => law29_small_b4 d_1 t2 out_3 t7 t37 t38 Q Kn3 h19) else (law29_small_b6 d_1 t2 out_3 t7 t37 t38 t51 Q Kn3 h15)) else (if (t51 == 12) = true then (ldS h15 (Addr.add t7 3) fun t57 => CallT Tryd.prog fn_law29_lower #[.string t57] h15 fun v h20 => ∃ t58 : ByteArray, v = .string t58 ∧ st1 h20 (Addr.add t7 3) (.string t58) fun h21 => law29_small_b4 d_1 t2 out_3 t7 t37 t38 Q Kn3 h21) else (law29_small_b6 d_1 t2 out_3 t7 t37 t38 t51 Q Kn3 h15))))) else (law29_small_b5 t2 out_3 Q h)
def law29_small_b2 (d_1 t2 out_3 : Addr) (Q : QT) (h : Heap) : Prop :=
 ldL h (Addr.add d_1 3) fun t36a t36n t36c => LoopV (fun (s : Int) h Kn => law29_small_l3 d_1 t2 out_3 ((t36n : Nat) : Int) Q s h Kn) 0 h
def law29_small_l1 (d_1 t2 out_3 : Addr) (t15 : Int) (Q : QT) (t16 : Int) (h : Heap) (Kn1 : Int → Heap → Prop) : Prop :=
 if (decide (t16 < t15)) = true then (ldL h (Addr.add d_1 2) fun t20a t20n t20c => idxA t16 t20n (nn t20a fun t22 => ldS h (Addr.add t22 ((t16).toNat * 2)) fun t23_0 => ldI h (Addr.add (Addr.add t22 ((t16).toNat * 2)) 1) .i64 fun t23_1 => alV h (.cells #[.string (⟨#[]⟩ : ByteArray), .int .i64 0] T_api_DnsQuestion) fun t5 h5 => stN h5 t5 [.string t23_0, .int .i64 t23_1] 0 fun h6 => ldS h6 t5 fun t25 => CallT Tryd.prog fn_law29_lower #[.string t25] h6 fun v h7 => ∃ t26 : ByteArray, v = .string t26 ∧ st1 h7 t5 (.string t26) fun h8 => ldL h8 (Addr.add out_3 2) fun t29a t29n t29c => ldS h8 t5 fun t30_0 => ldI h8 (Addr.add t5 1) .i64 fun t30_1 => alV h8 (.cells #[.string t30_0, .int .i64 t30_1] T_api_DnsQuestion) fun t31 h9 => bltV Tryd.prog .append #[T_sl_api_DnsQuestion, T_sl_api_DnsQuestion] T_sl_api_DnsQuestion #[false, false] #[.slice t29a t29n t29c, .slice (some t31) 1 1] h9 fun v h10 => ∃ t32a : Option Addr, ∃ t32n : Nat, ∃ t32c : Nat, v = .slice t32a t32n t32c ∧ st1 h10 (Addr.add out_3 2) (.slice t32a t32n t32c) fun h11 => Kn1 (wrap .i64 (t16 + 1)) h11)) else (law29_small_b2 d_1 t2 out_3 Q h)
def law29_small_v (d_0_0 d_0_1 : Int) (d_0_2a : Option Addr) (d_0_2n d_0_2c : Nat) (d_0_3a : Option Addr) (d_0_3n d_0_3c : Nat) (Q : QT) (h : Heap) : Prop :=
 alV h (.cells #[.int .i64 d_0_0, .int .i64 d_0_1, .slice d_0_2a d_0_2n d_0_2c, .slice d_0_3a d_0_3n d_0_3c] T_api_Dns) fun t1 h1 => alV h1 (.cells #[.int .i64 0, .int .i64 0, .slice none 0 0, .slice none 0 0] T_api_Dns) fun t2 h2 => ldI h2 t1 .i64 fun t9 => ldI h2 (Addr.add t1 1) .i64 fun t11 => alV h2 (.cells #[.int .i64 0, .int .i64 0, .slice none 0 0, .slice none 0 0] T_api_Dns) fun t3 h3 => stN h3 t3 [.int .i64 t9, .int .i64 t11, .slice none 0 0, .slice none 0 0] 0 fun h4 => ldL h4 (Addr.add t1 2) fun t14a t14n t14c => LoopV (fun (s : Int) h Kn => law29_small_l1 t1 t2 t3 ((t14n : Nat) : Int) Q s h Kn) 0 h4
set_option maxRecDepth 100000 in
theorem law29_small_s (d_0_0 d_0_1 : Int) (d_0_2a : Option Addr) (d_0_2n d_0_2c : Nat) (d_0_3a : Option Addr) (d_0_3n d_0_3c : Nat) {Q : QT} {h : Heap} (hk : law29_small_v d_0_0 d_0_1 d_0_2a d_0_2n d_0_2c d_0_3a d_0_3n d_0_3c Q h) : CallT Tryd.prog fn_law29_small #[.agg #[.int .i64 d_0_0, .int .i64 d_0_1, .slice d_0_2a d_0_2n d_0_2c, .slice d_0_3a d_0_3n d_0_3c]] h Q :=
 callU follows Tryd.func21 (Tryd.call21 _) rfl rfl [(20, fun e h => dA (e 1) fun d_1 => dA (e 2) fun t2 => dA (e 3) fun out_3 => law29_small_b2 d_1 t2 out_3 Q h), (48, fun e h => dA (e 2) fun t2 => dA (e 3) fun out_3 => law29_small_b5 t2 out_3 Q h)] [(8, fun e h => dA (e 1) fun d_1 => dA (e 2) fun t2 => dA (e 3) fun out_3 => dI .i64 (e 15) fun t15 => dI .i64 (e 16) fun t16 => LoopV (fun (s : Int) h Kn => law29_small_l1 d_1 t2 out_3 t15 Q s h Kn) t16 h), (22, fun e h => dA (e 1) fun d_1 => dA (e 2) fun t2 => dA (e 3) fun out_3 => dI .i64 (e 37) fun t37 => dI .i64 (e 38) fun t38 => LoopV (fun (s : Int) h Kn => law29_small_l3 d_1 t2 out_3 t37 Q s h Kn) t38 h)]
 ⟨fun e h _ hk => by
 have F := Ag.nil (e := e)
 have ⟨d_1, F, hk⟩ := eA F hk
 have ⟨t2, F, hk⟩ := eA F hk
 have ⟨out_3, F, hk⟩ := eA F hk
 exact cutU F (by as_aux_lemma => kernel_rfl) hk, fun e h _ hk => by
 have F := Ag.nil (e := e)
 have ⟨t2, F, hk⟩ := eA F hk
 have ⟨out_3, F, hk⟩ := eA F hk
 exact cutU F (by as_aux_lemma => kernel_rfl) hk, trivial⟩
 ⟨⟨by kernel_rfl, fun e h he hk => by
 have F := Ag.nil (e := e)
 have ⟨d_1, F, hk⟩ := eA F hk
 have ⟨t2, F, hk⟩ := eA F hk
 have ⟨out_3, F, hk⟩ := eA F hk
 have ⟨t15, F, hk⟩ := eI F hk
 have ⟨t16, F, hk⟩ := eI F hk
 exact loopU (s0 := t16) follows (fun _ h => by cases h) he F (fun s => [(16, .int .i64 s)]) (by kernel_rfl) (F.take 1) hk (fun Kn1 e h => dI .i64 (e 16) fun t16 => Kn1 t16 h) (fun Kn1 e h hk => by
  have F := Ag.nil (e := e)
  have ⟨t16, F, hk⟩ := eI F hk
  exact ⟨t16, F, hk⟩)
  (fun Kn1 => []) (fun Kn1 => [])
  (fun Kn1 => trivial)
  (fun Kn1 => trivial) (fun e s h Kn1 => by as_aux_lemma => kernel_rfl)⟩, ⟨by kernel_rfl, fun e h he hk => by
 have F := Ag.nil (e := e)
 have ⟨d_1, F, hk⟩ := eA F hk
 have ⟨t2, F, hk⟩ := eA F hk
 have ⟨out_3, F, hk⟩ := eA F hk
 have ⟨t37, F, hk⟩ := eI F hk
 have ⟨t38, F, hk⟩ := eI F hk
 exact loopU (s0 := t38) follows (fun _ h => by cases h) he F (fun s => [(38, .int .i64 s)]) (by kernel_rfl) (F.take 1) hk (fun Kn3 e h => dI .i64 (e 38) fun t38 => Kn3 t38 h) (fun Kn3 e h hk => by
  have F := Ag.nil (e := e)
  have ⟨t38, F, hk⟩ := eI F hk
  exact ⟨t38, F, hk⟩)
  (fun Kn3 => [(44, fun e h => dA (e 1) fun d_1 => dA (e 2) fun t2 => dA (e 3) fun out_3 => dA (e 7) fun x_7 => dI .i64 (e 37) fun t37 => dI .i64 (e 38) fun t38 => law29_small_b4 d_1 t2 out_3 x_7 t37 t38 Q Kn3 h), (41, fun e h => dA (e 1) fun d_1 => dA (e 2) fun t2 => dA (e 3) fun out_3 => dA (e 7) fun x_7 => dI .i64 (e 37) fun t37 => dI .i64 (e 38) fun t38 => dI .i64 (e 51) fun t51 => law29_small_b6 d_1 t2 out_3 x_7 t37 t38 t51 Q Kn3 h)]) (fun Kn3 => [])
  (fun Kn3 => ⟨fun e h _ hk => by
 have F := Ag.nil (e := e)
 have ⟨d_1, F, hk⟩ := eA F hk
 have ⟨t2, F, hk⟩ := eA F hk
 have ⟨out_3, F, hk⟩ := eA F hk
 have ⟨x_7, F, hk⟩ := eA F hk
 have ⟨t37, F, hk⟩ := eI F hk
 have ⟨t38, F, hk⟩ := eI F hk
 exact cutU F (by as_aux_lemma => kernel_rfl) hk, fun e h _ hk => by
 have F := Ag.nil (e := e)
 have ⟨d_1, F, hk⟩ := eA F hk
 have ⟨t2, F, hk⟩ := eA F hk
 have ⟨out_3, F, hk⟩ := eA F hk
 have ⟨x_7, F, hk⟩ := eA F hk
 have ⟨t37, F, hk⟩ := eI F hk
 have ⟨t38, F, hk⟩ := eI F hk
 have ⟨t51, F, hk⟩ := eI F hk
 exact cutU F (by as_aux_lemma => kernel_rfl) hk, trivial⟩)
  (fun Kn3 => trivial) (fun e s h Kn3 => by as_aux_lemma => kernel_rfl)⟩, trivial⟩ (by as_aux_lemma => kernel_rfl) hk
/-! ### intrusion/dns.NewStream -/
def dns_NewStream_v (Q : QT) (h : Heap) : Prop :=
 alV h (.cells #[.string (⟨#[]⟩ : ByteArray), .bool false] T_dns_Stream) fun t2 h1 => Q (.pointer (some t2)) h1
set_option maxRecDepth 100000 in
theorem dns_NewStream_s {Q : QT} {h : Heap} (hk : dns_NewStream_v Q h) : CallT Tryd.prog fn_dns_NewStream #[] h Q :=
 callU follows Tryd.func22 (Tryd.call22 _) rfl rfl [] []
 trivial
 trivial (by as_aux_lemma => kernel_rfl) hk
/-! ### intrusion/intrusionref29.NewStream -/
def ref29_NewStream_v (Q : QT) (h : Heap) : Prop :=
 alV h (.cells #[.string (⟨#[]⟩ : ByteArray), .bool false] T_intrusionref29_Stream) fun t2 h1 => Q (.pointer (some t2)) h1
set_option maxRecDepth 100000 in
theorem ref29_NewStream_s {Q : QT} {h : Heap} (hk : ref29_NewStream_v Q h) : CallT Tryd.prog fn_ref29_NewStream #[] h Q :=
 callU follows Tryd.func23 (Tryd.call23 _) rfl rfl [] []
 trivial
 trivial (by as_aux_lemma => kernel_rfl) hk
/-! ### (*intrusion/dns.Stream).Feed -/
def dns_Stream_Feed_l1 (t_0 : Option Addr) (Q : QT) (out_6a : Option Addr) (out_6n out_6c : Nat) (h : Heap) (Kn1 : (Option Addr) × Nat × Nat → Heap → Prop) : Prop :=
 nn t_0 fun t25 => ldS h t25 fun t27 => if (decide (((t27.size : Nat) : Int) ≥ 2)) = true then (nn t_0 fun t31 => ldS h t31 fun t33 => idxS t33 (0 : Int) fun t34 => 0 ≤ (8 : Int) ∧ nn t_0 fun t38 => ldS h t38 fun t40 => idxS t40 (1 : Int) fun t41 => if (decide ((wrap .i64 (BitVec.toNat (BitVec.ofInt (IntKind.bits .i64) (wrap .i64 ((wrap .i64 t34) * 2 ^ (min (Int.toNat 8) (IntKind.bits .i64)))) ||| BitVec.ofInt (IntKind.bits .i64) (wrap .i64 t41)) : Int)) < 12)) = true then (nn t_0 fun t48 => st1 h t48 (.string (⟨#[]⟩ : ByteArray)) fun h2 => nn t_0 fun t50 => st1 h2 (Addr.add t50 1) (.bool true) fun h3 => Q (.tuple #[.slice out_6a out_6n out_6c, .int .i64 2]) h3) else (nn t_0 fun t54 => ldS h t54 fun t56 => if (decide (((t56.size : Nat) : Int) < (wrap .i64 (2 + (wrap .i64 (BitVec.toNat (BitVec.ofInt (IntKind.bits .i64) (wrap .i64 ((wrap .i64 t34) * 2 ^ (min (Int.toNat 8) (IntKind.bits .i64)))) ||| BitVec.ofInt (IntKind.bits .i64) (wrap .i64 t41)) : Int)))))) = true then (Q (.tuple #[.slice out_6a out_6n out_6c, .int .i64 0]) h) else (nn t_0 fun t63 => ldS h t63 fun t65 => sliceStr t65 (some (2 : Int)) (some (wrap .i64 (2 + (wrap .i64 (BitVec.toNat (BitVec.ofInt (IntKind.bits .i64) (wrap .i64 ((wrap .i64 t34) * 2 ^ (min (Int.toNat 8) (IntKind.bits .i64)))) ||| BitVec.ofInt (IntKind.bits .i64) (wrap .i64 t41)) : Int))))) fun t68 => alV h (.cells #[.string t68] T_string) fun t69 h4 => bltV Tryd.prog .append #[T_sl_string, T_sl_string] T_sl_string #[false, false] #[.slice out_6a out_6n out_6c, .slice (some t69) 1 1] h4 fun v h5 => ∃ t70a : Option Addr, ∃ t70n : Nat, ∃ t70c : Nat, v = .slice t70a t70n t70c ∧ nn t_0 fun t73 => ldS h5 t73 fun t75 => sliceStr t75 (some (wrap .i64 (2 + (wrap .i64 (BitVec.toNat (BitVec.ofInt (IntKind.bits .i64) (wrap .i64 ((wrap .i64 t34) * 2 ^ (min (Int.toNat 8) (IntKind.bits .i64)))) ||| BitVec.ofInt (IntKind.bits .i64) (wrap .i64 t41)) : Int))))) none fun t78 => nn t_0 fun t79 => st1 h5 t79 (.string t78) fun h6 => Kn1 (t70a, t70n, t70c) h6))) else (Q (.tuple #[.slice out_6a out_6n out_6c, .int .i64 0]) h)
def dns_Stream_Feed_v (t_0 : Option Addr) (s_1 : ByteArray) (Q : QT) (h : Heap) : Prop :=
 if (Option.isNone t_0) = true then (Q (.tuple #[.slice none 0 0, .int .i64 6]) h) else (nn t_0 fun t13 => ldB h (Addr.add t13 1) fun t15 => if t15 = true then (Q (.tuple #[.slice none 0 0, .int .i64 10]) h) else (nn t_0 fun t17 => ldS h t17 fun t19 => ((t19.size + s_1.size : Nat) : Int) ≤ IntKind.max .i64 ∧ nn t_0 fun t22 => st1 h t22 (.string (t19 ++ s_1)) fun h1 => LoopV (fun (s : (Option Addr) × Nat × Nat) h Kn => dns_Stream_Feed_l1 t_0 Q s.1 s.2.1 s.2.2 h Kn) (none, 0, 0) h1))
set_option maxRecDepth 100000 in
theorem dns_Stream_Feed_s (t_0 : Option Addr) (s_1 : ByteArray) {Q : QT} {h : Heap} (hk : dns_Stream_Feed_v t_0 s_1 Q h) : CallT Tryd.prog fn_dns_Stream_Feed #[.pointer t_0, .string s_1] h Q :=
 callU follows Tryd.func24 (Tryd.call24 _) rfl rfl [] [(16, fun e h => dP (e 0) fun t_0 => dL (e 6) fun out_6a out_6n out_6c => LoopV (fun (s : (Option Addr) × Nat × Nat) h Kn => dns_Stream_Feed_l1 t_0 Q s.1 s.2.1 s.2.2 h Kn) (out_6a, out_6n, out_6c) h)]
 trivial
 ⟨⟨by kernel_rfl, fun e h he hk => by
 have F := Ag.nil (e := e)
 have ⟨t_0, F, hk⟩ := eP F hk
 have ⟨out_6a, out_6n, out_6c, F, hk⟩ := eL F hk
 exact loopU (s0 := (out_6a, out_6n, out_6c)) follows (fun _ h => by cases h) he F (fun s => [(6, .slice s.1 s.2.1 s.2.2)]) (by kernel_rfl) (F.take 1) hk (fun Kn1 e h => dL (e 6) fun out_6a out_6n out_6c => Kn1 (out_6a, out_6n, out_6c) h) (fun Kn1 e h hk => by
  have F := Ag.nil (e := e)
  have ⟨out_6a, out_6n, out_6c, F, hk⟩ := eL F hk
  exact ⟨(out_6a, out_6n, out_6c), F, hk⟩)
  (fun Kn1 => []) (fun Kn1 => [])
  (fun Kn1 => trivial)
  (fun Kn1 => trivial) (fun e s h Kn1 => by as_aux_lemma => kernel_rfl)⟩, trivial⟩ (by as_aux_lemma => kernel_rfl) hk
/-! ### (*intrusion/intrusionref29.Stream).Feed -/
def ref29_Stream_Feed_l1 (t_0 : Option Addr) (Q : QT) (out_6a : Option Addr) (out_6n out_6c : Nat) (h : Heap) (Kn1 : (Option Addr) × Nat × Nat → Heap → Prop) : Prop :=
 nn t_0 fun t25 => ldS h t25 fun t27 => if (decide (((t27.size : Nat) : Int) ≥ 2)) = true then (nn t_0 fun t31 => ldS h t31 fun t33 => CallT Tryd.prog fn_ref29_number #[.string t33, .int .i64 0, .int .i64 2] h fun v h3 => ∃ t34 : Int, v = .int .i64 t34 ∧ if (decide (t34 < 12)) = true then (nn t_0 fun t38 => st1 h3 (Addr.add t38 1) (.bool true) fun h4 => Q (.tuple #[.slice out_6a out_6n out_6c, .int .i64 2]) h4) else (nn t_0 fun t42 => ldS h3 t42 fun t44 => if (decide (((t44.size : Nat) : Int) < (wrap .i64 (2 + t34)))) = true then (Q (.tuple #[.slice out_6a out_6n out_6c, .int .i64 0]) h3) else (nn t_0 fun t51 => ldS h3 t51 fun t53 => sliceStr t53 (some (2 : Int)) (some (wrap .i64 (2 + t34))) fun t56 => alV h3 (.cells #[.string t56] T_string) fun t57 h5 => bltV Tryd.prog .append #[T_sl_string, T_sl_string] T_sl_string #[false, false] #[.slice out_6a out_6n out_6c, .slice (some t57) 1 1] h5 fun v h6 => ∃ t58a : Option Addr, ∃ t58n : Nat, ∃ t58c : Nat, v = .slice t58a t58n t58c ∧ nn t_0 fun t61 => ldS h6 t61 fun t63 => sliceStr t63 (some (wrap .i64 (2 + t34))) none fun t66 => nn t_0 fun t67 => st1 h6 t67 (.string t66) fun h7 => Kn1 (t58a, t58n, t58c) h7))) else (Q (.tuple #[.slice out_6a out_6n out_6c, .int .i64 0]) h)
def ref29_Stream_Feed_v (t_0 : Option Addr) (s_1 : ByteArray) (Q : QT) (h : Heap) : Prop :=
 if (Option.isNone t_0) = true then (Q (.tuple #[.slice none 0 0, .int .i64 6]) h) else (nn t_0 fun t11 => ldB h (Addr.add t11 1) fun t13 => if t13 = true then (Q (.tuple #[.slice none 0 0, .int .i64 10]) h) else (nn t_0 fun t16 => ldS h t16 fun t18 => ((t18.size + s_1.size : Nat) : Int) ≤ IntKind.max .i64 ∧ nn t_0 fun t21 => st1 h t21 (.string (t18 ++ s_1)) fun h1 => alV h1 (.cells #[] T_string) fun t23 h2 => LoopV (fun (s : (Option Addr) × Nat × Nat) h Kn => ref29_Stream_Feed_l1 t_0 Q s.1 s.2.1 s.2.2 h Kn) (some t23, 0, 0) h2))
set_option maxRecDepth 100000 in
theorem ref29_Stream_Feed_s (t_0 : Option Addr) (s_1 : ByteArray) {Q : QT} {h : Heap} (hk : ref29_Stream_Feed_v t_0 s_1 Q h) : CallT Tryd.prog fn_ref29_Stream_Feed #[.pointer t_0, .string s_1] h Q :=
 callU follows Tryd.func25 (Tryd.call25 _) rfl rfl [] [(16, fun e h => dP (e 0) fun t_0 => dL (e 6) fun out_6a out_6n out_6c => LoopV (fun (s : (Option Addr) × Nat × Nat) h Kn => ref29_Stream_Feed_l1 t_0 Q s.1 s.2.1 s.2.2 h Kn) (out_6a, out_6n, out_6c) h)]
 trivial
 ⟨⟨by kernel_rfl, fun e h he hk => by
 have F := Ag.nil (e := e)
 have ⟨t_0, F, hk⟩ := eP F hk
 have ⟨out_6a, out_6n, out_6c, F, hk⟩ := eL F hk
 exact loopU (s0 := (out_6a, out_6n, out_6c)) follows (fun _ h => by cases h) he F (fun s => [(6, .slice s.1 s.2.1 s.2.2)]) (by kernel_rfl) (F.take 1) hk (fun Kn1 e h => dL (e 6) fun out_6a out_6n out_6c => Kn1 (out_6a, out_6n, out_6c) h) (fun Kn1 e h hk => by
  have F := Ag.nil (e := e)
  have ⟨out_6a, out_6n, out_6c, F, hk⟩ := eL F hk
  exact ⟨(out_6a, out_6n, out_6c), F, hk⟩)
  (fun Kn1 => []) (fun Kn1 => [])
  (fun Kn1 => trivial)
  (fun Kn1 => trivial) (fun e s h Kn1 => by as_aux_lemma => kernel_rfl)⟩, trivial⟩ (by as_aux_lemma => kernel_rfl) hk
/-! ### intrusion/field.Put -/
def field_Put_l1 (n_0 size_1 : Int) (b_5a : Option Addr) (b_5n b_5c : Nat) (t23 : Int) (Q : QT) (t24 : Int) (h : Heap) (Kn1 : Int → Heap → Prop) : Prop :=
 if (decide (t24 < t23)) = true then (0 ≤ (wrap .i64 (8 * t24)) ∧ idxA (wrap .i64 ((wrap .i64 (size_1 - 1)) - t24)) b_5n (nn b_5a fun t37 => st1 h (Addr.add t37 (((wrap .i64 ((wrap .i64 (size_1 - 1)) - t24))).toNat * 1)) (.int .u8 (wrap .u8 (Int.fdiv n_0 (2 ^ (min (Int.toNat (wrap .i64 (8 * t24))) (IntKind.bits .i64)))))) fun h3 => Kn1 (wrap .i64 (t24 + 1)) h3)) else (convV Tryd.prog T_sl_uint8 T_string (.slice b_5a b_5n b_5c) h fun v h4 => ∃ t40 : ByteArray, v = .string t40 ∧ Q (.string t40) h4)
def field_Put_v (n_0 size_1 : Int) (Q : QT) (h : Heap) : Prop :=
 CallT Tryd.prog fn_field_valid #[.int .i64 size_1] h fun v h1 => ∃ t8 : Bool, v = .bool t8 ∧ if (!t8) = true then (Q (.string (⟨#[]⟩ : ByteArray)) h1) else (if (decide (n_0 < 0)) = true then (Q (.string (⟨#[]⟩ : ByteArray)) h1) else (0 ≤ (wrap .i64 (8 * size_1)) ∧ if ((Int.fdiv n_0 (2 ^ (min (Int.toNat (wrap .i64 (8 * size_1))) (IntKind.bits .i64)))) != 0) = true then (Q (.string (⟨#[]⟩ : ByteArray)) h1) else (mkSlV Tryd.prog T_sl_uint8 (.int .i64 size_1) (.int .i64 size_1) h1 fun v h2 => ∃ t22a : Option Addr, ∃ t22n : Nat, ∃ t22c : Nat, v = .slice t22a t22n t22c ∧ LoopV (fun (s : Int) h Kn => field_Put_l1 n_0 size_1 t22a t22n t22c size_1 Q s h Kn) 0 h2)))
set_option maxRecDepth 100000 in
theorem field_Put_s (n_0 size_1 : Int) {Q : QT} {h : Heap} (hk : field_Put_v n_0 size_1 Q h) : CallT Tryd.prog fn_field_Put #[.int .i64 n_0, .int .i64 size_1] h Q :=
 callU follows Tryd.func26 (Tryd.call26 _) rfl rfl [] [(12, fun e h => dI .i64 (e 0) fun n_0 => dI .i64 (e 1) fun size_1 => dL (e 5) fun b_5a b_5n b_5c => dI .i64 (e 23) fun t23 => dI .i64 (e 24) fun t24 => LoopV (fun (s : Int) h Kn => field_Put_l1 n_0 size_1 b_5a b_5n b_5c t23 Q s h Kn) t24 h)]
 trivial
 ⟨⟨by kernel_rfl, fun e h he hk => by
 have F := Ag.nil (e := e)
 have ⟨n_0, F, hk⟩ := eI F hk
 have ⟨size_1, F, hk⟩ := eI F hk
 have ⟨b_5a, b_5n, b_5c, F, hk⟩ := eL F hk
 have ⟨t23, F, hk⟩ := eI F hk
 have ⟨t24, F, hk⟩ := eI F hk
 exact loopU (s0 := t24) follows (fun _ h => by cases h) he F (fun s => [(24, .int .i64 s)]) (by kernel_rfl) (F.take 1) hk (fun Kn1 e h => dI .i64 (e 24) fun t24 => Kn1 t24 h) (fun Kn1 e h hk => by
  have F := Ag.nil (e := e)
  have ⟨t24, F, hk⟩ := eI F hk
  exact ⟨t24, F, hk⟩)
  (fun Kn1 => []) (fun Kn1 => [])
  (fun Kn1 => trivial)
  (fun Kn1 => trivial) (fun e s h Kn1 => by as_aux_lemma => kernel_rfl)⟩, trivial⟩ (by as_aux_lemma => kernel_rfl) hk
/-! ### strings.Split -/
def strings_Split_v (s_0 sep_1 : ByteArray) (Q : QT) (h : Heap) : Prop :=
 CallT Tryd.prog fn_strings_genSplit #[.string s_0, .string sep_1, .int .i64 0, .int .i64 (-1)] h fun v h1 => ∃ t7a : Option Addr, ∃ t7n : Nat, ∃ t7c : Nat, v = .slice t7a t7n t7c ∧ Q (.slice t7a t7n t7c) h1
set_option maxRecDepth 100000 in
theorem strings_Split_s (s_0 sep_1 : ByteArray) {Q : QT} {h : Heap} (hk : strings_Split_v s_0 sep_1 Q h) : CallT Tryd.prog fn_strings_Split #[.string s_0, .string sep_1] h Q :=
 callU follows Tryd.func27 (Tryd.call27 _) rfl rfl [] []
 trivial
 trivial (by as_aux_lemma => kernel_rfl) hk
/-! ### intrusion/dns.allowed -/
def dns_allowed_v (c_0 : Int) (Q : QT) (h : Heap) : Prop :=
 CallT Tryd.prog fn_dns_small #[.int .u8 c_0] h fun v h1 => ∃ t4 : Int, v = .int .u8 t4 ∧ if (decide (97 ≤ t4)) = true then (if (decide (t4 ≤ 122)) = true then (Q (.bool true) h1) else (if (decide (48 ≤ t4)) = true then (if (decide (t4 ≤ 57)) = true then (Q (.bool true) h1) else (if (t4 == 45) = true then (Q (.bool true) h1) else (Q (.bool (t4 == 95)) h1))) else (if (t4 == 45) = true then (Q (.bool true) h1) else (Q (.bool (t4 == 95)) h1)))) else (if (decide (48 ≤ t4)) = true then (if (decide (t4 ≤ 57)) = true then (Q (.bool true) h1) else (if (t4 == 45) = true then (Q (.bool true) h1) else (Q (.bool (t4 == 95)) h1))) else (if (t4 == 45) = true then (Q (.bool true) h1) else (Q (.bool (t4 == 95)) h1)))
set_option maxRecDepth 100000 in
theorem dns_allowed_s (c_0 : Int) {Q : QT} {h : Heap} (hk : dns_allowed_v c_0 Q h) : CallT Tryd.prog fn_dns_allowed #[.int .u8 c_0] h Q :=
 callU follows Tryd.func28 (Tryd.call28 _) rfl rfl [] []
 trivial
 trivial (by as_aux_lemma => kernel_rfl) hk
/-! ### intrusion/intrusionref29.labels -/
def ref29_labels_b2 (s_0 : ByteArray) (out_3a : Option Addr) (out_3n out_3c : Nat) (from_4 i_5 : Int) (Q : QT) (Kn1 : (Option Addr) × Nat × Nat × Int × Int → Heap → Prop) (h : Heap) : Prop :=
 sliceStr s_0 (some from_4) (some i_5) fun t30 => alV h (.cells #[.string t30] T_string) fun t31 h2 => bltV Tryd.prog .append #[T_sl_string, T_sl_string] T_sl_string #[false, false] #[.slice out_3a out_3n out_3c, .slice (some t31) 1 1] h2 fun v h3 => ∃ t32a : Option Addr, ∃ t32n : Nat, ∃ t32c : Nat, v = .slice t32a t32n t32c ∧ Kn1 (t32a, t32n, t32c, wrap .i64 (i_5 + 1), wrap .i64 (i_5 + 1)) h3
def ref29_labels_l1 (s_0 : ByteArray) (Q : QT) (out_3a : Option Addr) (out_3n out_3c : Nat) (from_4 i_5 : Int) (h : Heap) (Kn1 : (Option Addr) × Nat × Nat × Int × Int → Heap → Prop) : Prop :=
 if (decide (i_5 ≤ ((s_0.size : Nat) : Int))) = true then (if (i_5 == ((s_0.size : Nat) : Int)) = true then (ref29_labels_b2 s_0 out_3a out_3n out_3c from_4 i_5 Q Kn1 h) else (idxS s_0 i_5 fun t23 => if (t23 == 46) = true then (ref29_labels_b2 s_0 out_3a out_3n out_3c from_4 i_5 Q Kn1 h) else (Kn1 (out_3a, out_3n, out_3c, from_4, wrap .i64 (i_5 + 1)) h))) else (Q (.slice out_3a out_3n out_3c) h)
def ref29_labels_v (s_0 : ByteArray) (Q : QT) (h : Heap) : Prop :=
 alV h (.cells #[] T_string) fun t6 h1 => if (s_0.toList == (⟨#[]⟩ : ByteArray).toList) = true then (Q (.slice (some t6) 0 0) h1) else (LoopV (fun (s : (Option Addr) × Nat × Nat × Int × Int) h Kn => ref29_labels_l1 s_0 Q s.1 s.2.1 s.2.2.1 s.2.2.2.1 s.2.2.2.2 h Kn) (some t6, 0, 0, 0, 0) h1)
set_option maxRecDepth 100000 in
theorem ref29_labels_s (s_0 : ByteArray) {Q : QT} {h : Heap} (hk : ref29_labels_v s_0 Q h) : CallT Tryd.prog fn_ref29_labels #[.string s_0] h Q :=
 callU follows Tryd.func29 (Tryd.call29 _) rfl rfl [] [(14, fun e h => dS (e 0) fun s_0 => dL (e 3) fun out_3a out_3n out_3c => dI .i64 (e 4) fun from_4 => dI .i64 (e 5) fun i_5 => LoopV (fun (s : (Option Addr) × Nat × Nat × Int × Int) h Kn => ref29_labels_l1 s_0 Q s.1 s.2.1 s.2.2.1 s.2.2.2.1 s.2.2.2.2 h Kn) (out_3a, out_3n, out_3c, from_4, i_5) h)]
 trivial
 ⟨⟨by kernel_rfl, fun e h he hk => by
 have F := Ag.nil (e := e)
 have ⟨s_0, F, hk⟩ := eS F hk
 have ⟨out_3a, out_3n, out_3c, F, hk⟩ := eL F hk
 have ⟨from_4, F, hk⟩ := eI F hk
 have ⟨i_5, F, hk⟩ := eI F hk
 exact loopU (s0 := (out_3a, out_3n, out_3c, from_4, i_5)) follows (fun _ h => by cases h) he F (fun s => [(5, .int .i64 s.2.2.2.2), (4, .int .i64 s.2.2.2.1), (3, .slice s.1 s.2.1 s.2.2.1)]) (by kernel_rfl) (F.take 3) hk (fun Kn1 e h => dL (e 3) fun out_3a out_3n out_3c => dI .i64 (e 4) fun from_4 => dI .i64 (e 5) fun i_5 => Kn1 (out_3a, out_3n, out_3c, from_4, i_5) h) (fun Kn1 e h hk => by
  have F := Ag.nil (e := e)
  have ⟨out_3a, out_3n, out_3c, F, hk⟩ := eL F hk
  have ⟨from_4, F, hk⟩ := eI F hk
  have ⟨i_5, F, hk⟩ := eI F hk
  exact ⟨(out_3a, out_3n, out_3c, from_4, i_5), F, hk⟩)
  (fun Kn1 => [(21, fun e h => dS (e 0) fun s_0 => dL (e 3) fun out_3a out_3n out_3c => dI .i64 (e 4) fun from_4 => dI .i64 (e 5) fun i_5 => ref29_labels_b2 s_0 out_3a out_3n out_3c from_4 i_5 Q Kn1 h)]) (fun Kn1 => [])
  (fun Kn1 => ⟨fun e h _ hk => by
 have F := Ag.nil (e := e)
 have ⟨s_0, F, hk⟩ := eS F hk
 have ⟨out_3a, out_3n, out_3c, F, hk⟩ := eL F hk
 have ⟨from_4, F, hk⟩ := eI F hk
 have ⟨i_5, F, hk⟩ := eI F hk
 exact cutU F (by as_aux_lemma => kernel_rfl) hk, trivial⟩)
  (fun Kn1 => trivial) (fun e s h Kn1 => by as_aux_lemma => kernel_rfl)⟩, trivial⟩ (by as_aux_lemma => kernel_rfl) hk
/-! ### intrusion/intrusionref29.letter -/
def ref29_letter_v (c_0 : Int) (Q : QT) (h : Heap) : Prop :=
 if (decide (c_0 ≥ 97)) = true then (if (decide (c_0 ≤ 122)) = true then (Q (.bool true) h) else (if (decide (c_0 ≥ 65)) = true then (if (decide (c_0 ≤ 90)) = true then (Q (.bool true) h) else (if (decide (c_0 ≥ 48)) = true then (if (decide (c_0 ≤ 57)) = true then (Q (.bool true) h) else (if (c_0 == 45) = true then (Q (.bool true) h) else (Q (.bool (c_0 == 95)) h))) else (if (c_0 == 45) = true then (Q (.bool true) h) else (Q (.bool (c_0 == 95)) h)))) else (if (decide (c_0 ≥ 48)) = true then (if (decide (c_0 ≤ 57)) = true then (Q (.bool true) h) else (if (c_0 == 45) = true then (Q (.bool true) h) else (Q (.bool (c_0 == 95)) h))) else (if (c_0 == 45) = true then (Q (.bool true) h) else (Q (.bool (c_0 == 95)) h))))) else (if (decide (c_0 ≥ 65)) = true then (if (decide (c_0 ≤ 90)) = true then (Q (.bool true) h) else (if (decide (c_0 ≥ 48)) = true then (if (decide (c_0 ≤ 57)) = true then (Q (.bool true) h) else (if (c_0 == 45) = true then (Q (.bool true) h) else (Q (.bool (c_0 == 95)) h))) else (if (c_0 == 45) = true then (Q (.bool true) h) else (Q (.bool (c_0 == 95)) h)))) else (if (decide (c_0 ≥ 48)) = true then (if (decide (c_0 ≤ 57)) = true then (Q (.bool true) h) else (if (c_0 == 45) = true then (Q (.bool true) h) else (Q (.bool (c_0 == 95)) h))) else (if (c_0 == 45) = true then (Q (.bool true) h) else (Q (.bool (c_0 == 95)) h))))
set_option maxRecDepth 100000 in
theorem ref29_letter_s (c_0 : Int) {Q : QT} {h : Heap} (hk : ref29_letter_v c_0 Q h) : CallT Tryd.prog fn_ref29_letter #[.int .u8 c_0] h Q :=
 callU follows Tryd.func30 (Tryd.call30 _) rfl rfl [] []
 trivial
 trivial (by as_aux_lemma => kernel_rfl) hk
/-! ### (*intrusion/dns.reader).number -/
def dns_reader_number_l1 (r_0 : Option Addr) (t6 : Int) (Q : QT) (n_5 t7 : Int) (h : Heap) (Kn1 : Int × Int → Heap → Prop) : Prop :=
 if (decide (t7 < t6)) = true then (0 ≤ (8 : Int) ∧ CallT Tryd.prog fn_dns_reader_next #[.pointer r_0] h fun v h1 => ∃ t12 : Int, v = .int .i64 t12 ∧ Kn1 (wrap .i64 (BitVec.toNat (BitVec.ofInt (IntKind.bits .i64) (wrap .i64 (n_5 * 2 ^ (min (Int.toNat 8) (IntKind.bits .i64)))) ||| BitVec.ofInt (IntKind.bits .i64) t12) : Int), wrap .i64 (t7 + 1)) h1) else (Q (.int .i64 n_5) h)
def dns_reader_number_v (r_0 : Option Addr) (size_1 : Int) (Q : QT) (h : Heap) : Prop :=
 LoopV (fun (s : Int × Int) h Kn => dns_reader_number_l1 r_0 size_1 Q s.1 s.2 h Kn) (0, 0) h
set_option maxRecDepth 100000 in
theorem dns_reader_number_s (r_0 : Option Addr) (size_1 : Int) {Q : QT} {h : Heap} (hk : dns_reader_number_v r_0 size_1 Q h) : CallT Tryd.prog fn_dns_reader_number #[.pointer r_0, .int .i64 size_1] h Q :=
 callU follows Tryd.func31 (Tryd.call31 _) rfl rfl [] [(8, fun e h => dP (e 0) fun r_0 => dI .i64 (e 6) fun t6 => dI .i64 (e 5) fun n_5 => dI .i64 (e 7) fun t7 => LoopV (fun (s : Int × Int) h Kn => dns_reader_number_l1 r_0 t6 Q s.1 s.2 h Kn) (n_5, t7) h)]
 trivial
 ⟨⟨by kernel_rfl, fun e h he hk => by
 have F := Ag.nil (e := e)
 have ⟨r_0, F, hk⟩ := eP F hk
 have ⟨t6, F, hk⟩ := eI F hk
 have ⟨n_5, F, hk⟩ := eI F hk
 have ⟨t7, F, hk⟩ := eI F hk
 exact loopU (s0 := (n_5, t7)) follows (fun _ h => by cases h) he F (fun s => [(7, .int .i64 s.2), (5, .int .i64 s.1)]) (by kernel_rfl) (F.take 2) hk (fun Kn1 e h => dI .i64 (e 5) fun n_5 => dI .i64 (e 7) fun t7 => Kn1 (n_5, t7) h) (fun Kn1 e h hk => by
  have F := Ag.nil (e := e)
  have ⟨n_5, F, hk⟩ := eI F hk
  have ⟨t7, F, hk⟩ := eI F hk
  exact ⟨(n_5, t7), F, hk⟩)
  (fun Kn1 => []) (fun Kn1 => [])
  (fun Kn1 => trivial)
  (fun Kn1 => trivial) (fun e s h Kn1 => by as_aux_lemma => kernel_rfl)⟩, trivial⟩ (by as_aux_lemma => kernel_rfl) hk
/-! ### (*intrusion/dns.reader).name -/
def dns_reader_name_b3 (r_1 out_3 : Addr) (jumps_5 end_7 : Int) (label_8_0 label_8_1 label_8_2 : Addr) (to_10 : Int) (Q : QT) (Kn1 : Int × Int × Int → Heap → Prop) (h : Heap) : Prop :=
 ldP h r_1 fun t46 => nn t46 fun t49 => st1 h (Addr.add t49 1) (.int .i64 to_10) fun h14 => Kn1 (jumps_5, to_10, end_7) h14
def dns_reader_name_b2 (r_1 out_3 : Addr) (jumps_5 limit_6 end_7 : Int) (label_8_0 label_8_1 label_8_2 : Addr) (to_10 : Int) (Q : QT) (Kn1 : Int × Int × Int → Heap → Prop) (h : Heap) : Prop :=
 if (decide (to_10 ≥ limit_6)) = true then (ldP h r_1 fun t44 => CallT Tryd.prog fn_dns_reader_fail #[.pointer t44, .int .i64 2] h fun v h12 => v = .tuple #[] ∧ dns_reader_name_b3 r_1 out_3 (wrap .i64 (jumps_5 + 1)) end_7 label_8_0 label_8_1 label_8_2 to_10 Q Kn1 h12) else (if (decide ((wrap .i64 (jumps_5 + 1)) > 24)) = true then (ldP h r_1 fun t44 => CallT Tryd.prog fn_dns_reader_fail #[.pointer t44, .int .i64 2] h fun v h13 => v = .tuple #[] ∧ dns_reader_name_b3 r_1 out_3 (wrap .i64 (jumps_5 + 1)) end_7 label_8_0 label_8_1 label_8_2 to_10 Q Kn1 h13) else (dns_reader_name_b3 r_1 out_3 (wrap .i64 (jumps_5 + 1)) end_7 label_8_0 label_8_1 label_8_2 to_10 Q Kn1 h))
def dns_reader_name_l1 (r_1 out_3 label_8_0 label_8_1 label_8_2 : Addr) (Q : QT) (jumps_5 limit_6 end_7 : Int) (h : Heap) (Kn1 : Int × Int × Int → Heap → Prop) : Prop :=
 ldP h r_1 fun t16 => nn t16 fun t17 => ldI h (Addr.add t17 2) .i64 fun t19 => if (t19 == 0) = true then (ldP h r_1 fun t21 => CallT Tryd.prog fn_dns_reader_next #[.pointer t21] h fun v h5 => ∃ t22 : Int, v = .int .i64 t22 ∧ ldP h5 r_1 fun t52 => nn t52 fun t53 => ldI h5 (Addr.add t53 2) .i64 fun t55 => if (t55 != 0) = true then (Kn1 (jumps_5, limit_6, end_7) h5) else (if (t22 == 0) = true then (if (decide (end_7 ≥ 0)) = true then (ldP h5 r_1 fun t62 => nn t62 fun t64 => st1 h5 (Addr.add t64 1) (.int .i64 end_7) fun h6 => ldL h6 out_3 fun t66a t66n t66c => convV Tryd.prog T_sl_uint8 T_string (.slice t66a t66n t66c) h6 fun v h7 => ∃ t67 : ByteArray, v = .string t67 ∧ Q (.string t67) h7) else (ldL h5 out_3 fun t66a t66n t66c => convV Tryd.prog T_sl_uint8 T_string (.slice t66a t66n t66c) h5 fun v h8 => ∃ t67 : ByteArray, v = .string t67 ∧ Q (.string t67) h8)) else (if (decide (t22 ≤ 63)) = true then (CallT Tryd.prog fn_dns_reader_name_1 #[.int .i64 t22, .pointer (some label_8_0), .pointer (some label_8_1), .pointer (some label_8_2)] h5 fun v h9 => v = .tuple #[] ∧ Kn1 (jumps_5, limit_6, end_7) h9) else (if (decide (t22 < 192)) = true then (ldP h5 r_1 fun t77 => CallT Tryd.prog fn_dns_reader_fail #[.pointer t77, .int .i64 2] h5 fun v h10 => v = .tuple #[] ∧ Kn1 (jumps_5, limit_6, end_7) h10) else (0 ≤ (8 : Int) ∧ ldP h5 r_1 fun t26 => CallT Tryd.prog fn_dns_reader_next #[.pointer t26] h5 fun v h11 => ∃ t27 : Int, v = .int .i64 t27 ∧ if (decide (end_7 < 0)) = true then (ldP h11 r_1 fun t31 => nn t31 fun t32 => ldI h11 (Addr.add t32 1) .i64 fun t34 => dns_reader_name_b2 r_1 out_3 jumps_5 limit_6 t34 label_8_0 label_8_1 label_8_2 (wrap .i64 (BitVec.toNat (BitVec.ofInt (IntKind.bits .i64) (wrap .i64 ((wrap .i64 (BitVec.toNat (BitVec.ofInt (IntKind.bits .i64) t22 &&& BitVec.ofInt (IntKind.bits .i64) 63) : Int)) * 2 ^ (min (Int.toNat 8) (IntKind.bits .i64)))) ||| BitVec.ofInt (IntKind.bits .i64) t27) : Int)) Q Kn1 h11) else (dns_reader_name_b2 r_1 out_3 jumps_5 limit_6 end_7 label_8_0 label_8_1 label_8_2 (wrap .i64 (BitVec.toNat (BitVec.ofInt (IntKind.bits .i64) (wrap .i64 ((wrap .i64 (BitVec.toNat (BitVec.ofInt (IntKind.bits .i64) t22 &&& BitVec.ofInt (IntKind.bits .i64) 63) : Int)) * 2 ^ (min (Int.toNat 8) (IntKind.bits .i64)))) ||| BitVec.ofInt (IntKind.bits .i64) t27) : Int)) Q Kn1 h11)))))) else (Q (.string (⟨#[]⟩ : ByteArray)) h)
def dns_reader_name_v (r_0 : Option Addr) (Q : QT) (h : Heap) : Prop :=
 alV h (.cells #[.pointer r_0] T_p_dns_reader) fun t1 h1 => alV h1 (.cells #[.slice none 0 0] T_sl_uint8) fun t3 h2 => ldP h2 t1 fun t11 => nn t11 fun t12 => ldI h2 (Addr.add t12 1) .i64 fun t14 => alV h2 (.cells #[.int .i64 0] T_int) fun t4 h3 => (ldP h3 t1 fun t911 => (.pointer t911 : Value) = .pointer t11) ∧ (ldI h3 (Addr.add t12 1) .i64 fun t914 => (.int .i64 t914 : Value) = .int .i64 t14) ∧ st1 h3 t4 (.int .i64 0) fun h4 => (ldP h4 t1 fun t911 => (.pointer t911 : Value) = .pointer t11) ∧ (ldI h4 (Addr.add t12 1) .i64 fun t914 => (.int .i64 t914 : Value) = .int .i64 t14) ∧ LoopV (fun (s : Int × Int × Int) h Kn => dns_reader_name_l1 t1 t3 t4 t3 t1 Q s.1 s.2.1 s.2.2 h Kn) (0, t14, (-1)) h4
set_option maxRecDepth 100000 in
theorem dns_reader_name_s (r_0 : Option Addr) {Q : QT} {h : Heap} (hk : dns_reader_name_v r_0 Q h) : CallT Tryd.prog fn_dns_reader_name #[.pointer r_0] h Q :=
 callU follows Tryd.func32 (Tryd.call32 _) rfl rfl [] [(10, fun e h => dA (e 1) fun r_1 => dA (e 3) fun out_3 => dF 45 (e 8) fun l8_1 => dC l8_1 fun v8_2 l8_2 => dA v8_2 fun label_8_0 => dC l8_2 fun v8_3 l8_3 => dA v8_3 fun label_8_1 => dC l8_3 fun v8_4 l8_4 => dA v8_4 fun label_8_2 => dE l8_4 (dI .i64 (e 5) fun jumps_5 => dI .i64 (e 6) fun limit_6 => dI .i64 (e 7) fun end_7 => LoopV (fun (s : Int × Int × Int) h Kn => dns_reader_name_l1 r_1 out_3 label_8_0 label_8_1 label_8_2 Q s.1 s.2.1 s.2.2 h Kn) (jumps_5, limit_6, end_7) h))]
 trivial
 ⟨⟨by kernel_rfl, fun e h he hk => by
 have F := Ag.nil (e := e)
 have ⟨r_1, F, hk⟩ := eA F hk
 have ⟨out_3, F, hk⟩ := eA F hk
 obtain ⟨l8_1, F, hk2⟩ := eF F hk; clear hk; have hk := hk2; clear hk2
 obtain ⟨v8_2, l8_2, q, hk2⟩ := dC_elim hk
 clear hk; subst q; have hk := hk2; clear hk2
 obtain ⟨label_8_0, q, hk2⟩ := dA_elim hk
 clear hk; subst q; have hk := hk2; clear hk2
 obtain ⟨v8_3, l8_3, q, hk2⟩ := dC_elim hk
 clear hk; subst q; have hk := hk2; clear hk2
 obtain ⟨label_8_1, q, hk2⟩ := dA_elim hk
 clear hk; subst q; have hk := hk2; clear hk2
 obtain ⟨v8_4, l8_4, q, hk2⟩ := dC_elim hk
 clear hk; subst q; have hk := hk2; clear hk2
 obtain ⟨label_8_2, q, hk2⟩ := dA_elim hk
 clear hk; subst q; have hk := hk2; clear hk2
 obtain ⟨q, hk2⟩ := dE_elim hk
 clear hk; subst q; have hk := hk2; clear hk2
 have ⟨jumps_5, F, hk⟩ := eI F hk
 have ⟨limit_6, F, hk⟩ := eI F hk
 have ⟨end_7, F, hk⟩ := eI F hk
 exact loopU (s0 := (jumps_5, limit_6, end_7)) follows (fun _ h => by cases h) he F (fun s => [(7, .int .i64 s.2.2), (6, .int .i64 s.2.1), (5, .int .i64 s.1)]) (by kernel_rfl) (F.take 3) hk (fun Kn1 e h => dI .i64 (e 5) fun jumps_5 => dI .i64 (e 6) fun limit_6 => dI .i64 (e 7) fun end_7 => Kn1 (jumps_5, limit_6, end_7) h) (fun Kn1 e h hk => by
  have F := Ag.nil (e := e)
  have ⟨jumps_5, F, hk⟩ := eI F hk
  have ⟨limit_6, F, hk⟩ := eI F hk
  have ⟨end_7, F, hk⟩ := eI F hk
  exact ⟨(jumps_5, limit_6, end_7), F, hk⟩)
  (fun Kn1 => [(20, fun e h => dA (e 1) fun r_1 => dA (e 3) fun out_3 => dI .i64 (e 5) fun jumps_5 => dI .i64 (e 6) fun limit_6 => dI .i64 (e 7) fun end_7 => dF 45 (e 8) fun l8_1 => dC l8_1 fun v8_2 l8_2 => dA v8_2 fun label_8_0 => dC l8_2 fun v8_3 l8_3 => dA v8_3 fun label_8_1 => dC l8_3 fun v8_4 l8_4 => dA v8_4 fun label_8_2 => dE l8_4 (dI .i64 (e 10) fun to_10 => dns_reader_name_b2 r_1 out_3 jumps_5 limit_6 end_7 label_8_0 label_8_1 label_8_2 to_10 Q Kn1 h)), (26, fun e h => dA (e 1) fun r_1 => dA (e 3) fun out_3 => dI .i64 (e 5) fun jumps_5 => dI .i64 (e 7) fun end_7 => dF 45 (e 8) fun l8_1 => dC l8_1 fun v8_2 l8_2 => dA v8_2 fun label_8_0 => dC l8_2 fun v8_3 l8_3 => dA v8_3 fun label_8_1 => dC l8_3 fun v8_4 l8_4 => dA v8_4 fun label_8_2 => dE l8_4 (dI .i64 (e 10) fun to_10 => dns_reader_name_b3 r_1 out_3 jumps_5 end_7 label_8_0 label_8_1 label_8_2 to_10 Q Kn1 h))]) (fun Kn1 => [])
  (fun Kn1 => ⟨fun e h _ hk => by
 have F := Ag.nil (e := e)
 have ⟨r_1, F, hk⟩ := eA F hk
 have ⟨out_3, F, hk⟩ := eA F hk
 have ⟨jumps_5, F, hk⟩ := eI F hk
 have ⟨limit_6, F, hk⟩ := eI F hk
 have ⟨end_7, F, hk⟩ := eI F hk
 obtain ⟨l8_1, F, hk2⟩ := eF F hk; clear hk; have hk := hk2; clear hk2
 obtain ⟨v8_2, l8_2, q, hk2⟩ := dC_elim hk
 clear hk; subst q; have hk := hk2; clear hk2
 obtain ⟨label_8_0, q, hk2⟩ := dA_elim hk
 clear hk; subst q; have hk := hk2; clear hk2
 obtain ⟨v8_3, l8_3, q, hk2⟩ := dC_elim hk
 clear hk; subst q; have hk := hk2; clear hk2
 obtain ⟨label_8_1, q, hk2⟩ := dA_elim hk
 clear hk; subst q; have hk := hk2; clear hk2
 obtain ⟨v8_4, l8_4, q, hk2⟩ := dC_elim hk
 clear hk; subst q; have hk := hk2; clear hk2
 obtain ⟨label_8_2, q, hk2⟩ := dA_elim hk
 clear hk; subst q; have hk := hk2; clear hk2
 obtain ⟨q, hk2⟩ := dE_elim hk
 clear hk; subst q; have hk := hk2; clear hk2
 have ⟨to_10, F, hk⟩ := eI F hk
 exact cutU F (by as_aux_lemma => kernel_rfl) hk, fun e h _ hk => by
 have F := Ag.nil (e := e)
 have ⟨r_1, F, hk⟩ := eA F hk
 have ⟨out_3, F, hk⟩ := eA F hk
 have ⟨jumps_5, F, hk⟩ := eI F hk
 have ⟨end_7, F, hk⟩ := eI F hk
 obtain ⟨l8_1, F, hk2⟩ := eF F hk; clear hk; have hk := hk2; clear hk2
 obtain ⟨v8_2, l8_2, q, hk2⟩ := dC_elim hk
 clear hk; subst q; have hk := hk2; clear hk2
 obtain ⟨label_8_0, q, hk2⟩ := dA_elim hk
 clear hk; subst q; have hk := hk2; clear hk2
 obtain ⟨v8_3, l8_3, q, hk2⟩ := dC_elim hk
 clear hk; subst q; have hk := hk2; clear hk2
 obtain ⟨label_8_1, q, hk2⟩ := dA_elim hk
 clear hk; subst q; have hk := hk2; clear hk2
 obtain ⟨v8_4, l8_4, q, hk2⟩ := dC_elim hk
 clear hk; subst q; have hk := hk2; clear hk2
 obtain ⟨label_8_2, q, hk2⟩ := dA_elim hk
 clear hk; subst q; have hk := hk2; clear hk2
 obtain ⟨q, hk2⟩ := dE_elim hk
 clear hk; subst q; have hk := hk2; clear hk2
 have ⟨to_10, F, hk⟩ := eI F hk
 exact cutU F (by as_aux_lemma => kernel_rfl) hk, trivial⟩)
  (fun Kn1 => trivial) (fun e s h Kn1 => by as_aux_lemma => kernel_rfl)⟩, trivial⟩ (by as_aux_lemma => kernel_rfl) hk
/-! ### (*intrusion/dns.reader).class -/
def dns_reader_class_v (r_0 : Option Addr) (Q : QT) (h : Heap) : Prop :=
 CallT Tryd.prog fn_dns_reader_number #[.pointer r_0, .int .i64 2] h fun v h1 => ∃ t3 : Int, v = .int .i64 t3 ∧ if (t3 != 1) = true then (CallT Tryd.prog fn_dns_reader_fail #[.pointer r_0, .int .i64 2] h1 fun v h2 => v = .tuple #[] ∧ Q (.tuple #[]) h2) else (Q (.tuple #[]) h1)
set_option maxRecDepth 100000 in
theorem dns_reader_class_s (r_0 : Option Addr) {Q : QT} {h : Heap} (hk : dns_reader_class_v r_0 Q h) : CallT Tryd.prog fn_dns_reader_class #[.pointer r_0] h Q :=
 callU follows Tryd.func33 (Tryd.call33 _) rfl rfl [] []
 trivial
 trivial (by as_aux_lemma => kernel_rfl) hk
/-! ### (*intrusion/dns.reader).data -/
def dns_reader_data_b2 (r_0 : Option Addr) (n_2 from_7 : Int) (out_8 : ByteArray) (Q : QT) (h : Heap) : Prop :=
 nn r_0 fun t83 => ldI h (Addr.add t83 1) .i64 fun t85 => if (t85 != (wrap .i64 (from_7 + n_2))) = true then (CallT Tryd.prog fn_dns_reader_fail #[.pointer r_0, .int .i64 2] h fun v h15 => v = .tuple #[] ∧ Q (.string out_8) h15) else (Q (.string out_8) h)
def dns_reader_data_b3 (r_0 : Option Addr) (n_2 from_7 : Int) (Q : QT) (h : Heap) : Prop :=
 nn r_0 fun t44 => ldI h (Addr.add t44 1) .i64 fun t46 => nn r_0 fun t49 => st1 h (Addr.add t49 1) (.int .i64 (wrap .i64 (t46 + n_2))) fun h16 => nn r_0 fun t52 => ldS h16 t52 fun t54 => nn r_0 fun t57 => ldI h16 (Addr.add t57 1) .i64 fun t59 => sliceStr t54 (some from_7) (some t59) fun t60 => Q (.string t60) h16
def dns_reader_data_b1 (r_0 : Option Addr) (kind_1 n_2 : Int) (Q : QT) (h : Heap) : Prop :=
 nn r_0 fun t34 => ldI h (Addr.add t34 2) .i64 fun t36 => if (t36 != 0) = true then (Q (.string (⟨#[]⟩ : ByteArray)) h) else (nn r_0 fun t39 => ldI h (Addr.add t39 1) .i64 fun t41 => if (kind_1 == 15) = true then (CallT Tryd.prog fn_dns_reader_next #[.pointer r_0] h fun v h2 => ∃ t64 : Int, v = .int .i64 t64 ∧ CallT Tryd.prog fn_dns_reader_next #[.pointer r_0] h2 fun v h3 => ∃ t66 : Int, v = .int .i64 t66 ∧ (alV h3 (.cells #[.int .u8 (wrap .u8 t64), .int .u8 (wrap .u8 t66)] T_uint8) fun t71 h4 => (convV Tryd.prog T_sl_uint8 T_string (.slice (some t71) 2 2) h4 fun v h5 => ∃ t72 : ByteArray, v = .string t72 ∧ CallT Tryd.prog fn_dns_reader_name #[.pointer r_0] h5 fun v h6 => ∃ t74 : ByteArray, v = .string t74 ∧ ((t72.size + t74.size : Nat) : Int) ≤ IntKind.max .i64 ∧ dns_reader_data_b2 r_0 n_2 t41 (t72 ++ t74) Q h6) ∧ (CallT Tryd.prog fn_dns_reader_name #[.pointer r_0] h4 fun v h7 => ∃ t74 : ByteArray, v = .string t74 ∧ convV Tryd.prog T_sl_uint8 T_string (.slice (some t71) 2 2) h7 fun v h8 => ∃ t72 : ByteArray, v = .string t72 ∧ ((t72.size + t74.size : Nat) : Int) ≤ IntKind.max .i64 ∧ dns_reader_data_b2 r_0 n_2 t41 (t72 ++ t74) Q h8)) ∧ (CallT Tryd.prog fn_dns_reader_name #[.pointer r_0] h3 fun v h9 => ∃ t74 : ByteArray, v = .string t74 ∧ alV h9 (.cells #[.int .u8 (wrap .u8 t64), .int .u8 (wrap .u8 t66)] T_uint8) fun t71 h10 => convV Tryd.prog T_sl_uint8 T_string (.slice (some t71) 2 2) h10 fun v h11 => ∃ t72 : ByteArray, v = .string t72 ∧ ((t72.size + t74.size : Nat) : Int) ≤ IntKind.max .i64 ∧ dns_reader_data_b2 r_0 n_2 t41 (t72 ++ t74) Q h11)) else (if (kind_1 == 2) = true then (if (kind_1 == 2) = true then (CallT Tryd.prog fn_dns_reader_name #[.pointer r_0] h fun v h12 => ∃ t81 : ByteArray, v = .string t81 ∧ dns_reader_data_b2 r_0 n_2 t41 t81 Q h12) else (dns_reader_data_b3 r_0 n_2 t41 Q h)) else (if (kind_1 == 5) = true then (if (kind_1 == 5) = true then (CallT Tryd.prog fn_dns_reader_name #[.pointer r_0] h fun v h13 => ∃ t81 : ByteArray, v = .string t81 ∧ dns_reader_data_b2 r_0 n_2 t41 t81 Q h13) else (dns_reader_data_b3 r_0 n_2 t41 Q h)) else (if (kind_1 == 12) = true then (CallT Tryd.prog fn_dns_reader_name #[.pointer r_0] h fun v h14 => ∃ t81 : ByteArray, v = .string t81 ∧ dns_reader_data_b2 r_0 n_2 t41 t81 Q h14) else (dns_reader_data_b3 r_0 n_2 t41 Q h)))))
def dns_reader_data_v (r_0 : Option Addr) (kind_1 n_2 : Int) (Q : QT) (h : Heap) : Prop :=
 nn r_0 fun t12 => ldI h (Addr.add t12 2) .i64 fun t14 => if (t14 == 0) = true then (nn r_0 fun t19 => ldS h t19 fun t21 => nn r_0 fun t24 => ldI h (Addr.add t24 1) .i64 fun t26 => if (decide (n_2 > (wrap .i64 (((t21.size : Nat) : Int) - t26)))) = true then (nn r_0 fun t31 => st1 h (Addr.add t31 2) (.int .i64 1) fun h1 => dns_reader_data_b1 r_0 kind_1 n_2 Q h1) else (dns_reader_data_b1 r_0 kind_1 n_2 Q h)) else (dns_reader_data_b1 r_0 kind_1 n_2 Q h)
set_option maxRecDepth 100000 in
theorem dns_reader_data_s (r_0 : Option Addr) (kind_1 n_2 : Int) {Q : QT} {h : Heap} (hk : dns_reader_data_v r_0 kind_1 n_2 Q h) : CallT Tryd.prog fn_dns_reader_data #[.pointer r_0, .int .i64 kind_1, .int .i64 n_2] h Q :=
 callU follows Tryd.func34 (Tryd.call34 _) rfl rfl [(8, fun e h => dP (e 0) fun r_0 => dI .i64 (e 1) fun kind_1 => dI .i64 (e 2) fun n_2 => dns_reader_data_b1 r_0 kind_1 n_2 Q h), (36, fun e h => dP (e 0) fun r_0 => dI .i64 (e 2) fun n_2 => dI .i64 (e 7) fun from_7 => dS (e 8) fun out_8 => dns_reader_data_b2 r_0 n_2 from_7 out_8 Q h), (19, fun e h => dP (e 0) fun r_0 => dI .i64 (e 2) fun n_2 => dI .i64 (e 7) fun from_7 => dns_reader_data_b3 r_0 n_2 from_7 Q h)] []
 ⟨fun e h _ hk => by
 have F := Ag.nil (e := e)
 have ⟨r_0, F, hk⟩ := eP F hk
 have ⟨kind_1, F, hk⟩ := eI F hk
 have ⟨n_2, F, hk⟩ := eI F hk
 exact cutU F (by as_aux_lemma => kernel_rfl) hk, fun e h _ hk => by
 have F := Ag.nil (e := e)
 have ⟨r_0, F, hk⟩ := eP F hk
 have ⟨n_2, F, hk⟩ := eI F hk
 have ⟨from_7, F, hk⟩ := eI F hk
 have ⟨out_8, F, hk⟩ := eS F hk
 exact cutU F (by as_aux_lemma => kernel_rfl) hk, fun e h _ hk => by
 have F := Ag.nil (e := e)
 have ⟨r_0, F, hk⟩ := eP F hk
 have ⟨n_2, F, hk⟩ := eI F hk
 have ⟨from_7, F, hk⟩ := eI F hk
 exact cutU F (by as_aux_lemma => kernel_rfl) hk, trivial⟩
 trivial (by as_aux_lemma => kernel_rfl) hk
/-! ### intrusion/intrusionref29.number -/
def ref29_number_v (s_0 : ByteArray) (at_1 size_2 : Int) (Q : QT) (h : Heap) : Prop :=
 CallT Tryd.prog fn_ref01_Get #[.string s_0, .int .i64 at_1, .int .i64 size_2] h fun v h1 => ∃ t13_0 : Int, ∃ t13_1 : Int, v = .tuple #[.int .i64 t13_0, .int .i64 t13_1] ∧ Q (.int .i64 t13_0) h1
set_option maxRecDepth 100000 in
theorem ref29_number_s (s_0 : ByteArray) (at_1 size_2 : Int) {Q : QT} {h : Heap} (hk : ref29_number_v s_0 at_1 size_2 Q h) : CallT Tryd.prog fn_ref29_number #[.string s_0, .int .i64 at_1, .int .i64 size_2] h Q :=
 callU follows Tryd.func35 (Tryd.call35 _) rfl rfl [] []
 trivial
 trivial (by as_aux_lemma => kernel_rfl) hk
/-! ### intrusion/intrusionref29.question -/
def ref29_question_v (s_0 : ByteArray) (at_1 : Int) (Q : QT) (h : Heap) : Prop :=
 alV h (.cells #[.string (⟨#[]⟩ : ByteArray), .int .i64 0] T_api_DnsQuestion) fun t4 h1 => CallT Tryd.prog fn_ref29_name #[.string s_0, .int .i64 at_1] h1 fun v h2 => ∃ t12_0 : ByteArray, ∃ t12_1 : Int, ∃ t12_2 : Int, v = .tuple #[.string t12_0, .int .i64 t12_1, .int .i64 t12_2] ∧ if (t12_2 != 0) = true then (stN h2 t4 [.string (⟨#[]⟩ : ByteArray), .int .i64 0] 0 fun h3 => ldS h3 t4 fun r0_0 => ldI h3 (Addr.add t4 1) .i64 fun r0_1 => Q (.tuple #[.agg #[.string r0_0, .int .i64 r0_1], .int .i64 0, .int .i64 t12_2]) h3) else (if (decide ((wrap .i64 (t12_1 + 2)) > ((s_0.size : Nat) : Int))) = true then (stN h2 t4 [.string (⟨#[]⟩ : ByteArray), .int .i64 0] 0 fun h4 => ldS h4 t4 fun r0_0 => ldI h4 (Addr.add t4 1) .i64 fun r0_1 => Q (.tuple #[.agg #[.string r0_0, .int .i64 r0_1], .int .i64 0, .int .i64 1]) h4) else (if (decide ((wrap .i64 (t12_1 + 4)) > ((s_0.size : Nat) : Int))) = true then (stN h2 t4 [.string (⟨#[]⟩ : ByteArray), .int .i64 0] 0 fun h5 => ldS h5 t4 fun r0_0 => ldI h5 (Addr.add t4 1) .i64 fun r0_1 => Q (.tuple #[.agg #[.string r0_0, .int .i64 r0_1], .int .i64 0, .int .i64 1]) h5) else (CallT Tryd.prog fn_ref29_number #[.string s_0, .int .i64 (wrap .i64 (t12_1 + 2)), .int .i64 2] h2 fun v h6 => ∃ t36 : Int, v = .int .i64 t36 ∧ if (t36 != 1) = true then (stN h6 t4 [.string (⟨#[]⟩ : ByteArray), .int .i64 0] 0 fun h7 => ldS h7 t4 fun r0_0 => ldI h7 (Addr.add t4 1) .i64 fun r0_1 => Q (.tuple #[.agg #[.string r0_0, .int .i64 r0_1], .int .i64 0, .int .i64 2]) h7) else (CallT Tryd.prog fn_ref29_number #[.string s_0, .int .i64 t12_1, .int .i64 2] h6 fun v h8 => ∃ t42 : Int, v = .int .i64 t42 ∧ stN h8 t4 [.string t12_0, .int .i64 t42] 0 fun h9 => ldS h9 t4 fun r0_0 => ldI h9 (Addr.add t4 1) .i64 fun r0_1 => Q (.tuple #[.agg #[.string r0_0, .int .i64 r0_1], .int .i64 (wrap .i64 (t12_1 + 4)), .int .i64 0]) h9))))
set_option maxRecDepth 100000 in
theorem ref29_question_s (s_0 : ByteArray) (at_1 : Int) {Q : QT} {h : Heap} (hk : ref29_question_v s_0 at_1 Q h) : CallT Tryd.prog fn_ref29_question #[.string s_0, .int .i64 at_1] h Q :=
 callU follows Tryd.func36 (Tryd.call36 _) rfl rfl [] []
 trivial
 trivial (by as_aux_lemma => kernel_rfl) hk
/-! ### intrusion/intrusionref29.record -/
def ref29_record_b2 (t4 : Addr) (Q : QT) (h : Heap) : Prop :=
 stN h t4 [.string (⟨#[]⟩ : ByteArray), .int .i64 0, .int .i64 0, .string (⟨#[]⟩ : ByteArray)] 0 fun h13 => ldS h13 t4 fun r0_0 => ldI h13 (Addr.add t4 1) .i64 fun r0_1 => ldI h13 (Addr.add t4 2) .i64 fun r0_2 => ldS h13 (Addr.add t4 3) fun r0_3 => Q (.tuple #[.agg #[.string r0_0, .int .i64 r0_1, .int .i64 r0_2, .string r0_3], .int .i64 0, .int .i64 1]) h13
def ref29_record_b1 (s_0 : ByteArray) (at_1 : Int) (t4 r_9 : Addr) (from_10 : Int) (Q : QT) (h : Heap) : Prop :=
 CallT Tryd.prog fn_ref29_number #[.string s_0, .int .i64 (wrap .i64 (at_1 + 4)), .int .i64 2] h fun v h14 => ∃ t58 : Int, v = .int .i64 t58 ∧ ldI h14 (Addr.add r_9 1) .i64 fun t61 => CallT Tryd.prog fn_ref29_named #[.int .i64 t61] h14 fun v h15 => ∃ t62 : Int, v = .int .i64 t62 ∧ if (decide (t62 < 0)) = true then (sliceStr s_0 (some from_10) (some (wrap .i64 (from_10 + t58))) fun t68 => st1 h15 (Addr.add r_9 3) (.string t68) fun h16 => ldS h16 r_9 fun t70_0 => ldI h16 (Addr.add r_9 1) .i64 fun t70_1 => ldI h16 (Addr.add r_9 2) .i64 fun t70_2 => ldS h16 (Addr.add r_9 3) fun t70_3 => stN h16 t4 [.string t70_0, .int .i64 t70_1, .int .i64 t70_2, .string t70_3] 0 fun h17 => ldS h17 t4 fun r0_0 => ldI h17 (Addr.add t4 1) .i64 fun r0_1 => ldI h17 (Addr.add t4 2) .i64 fun r0_2 => ldS h17 (Addr.add t4 3) fun r0_3 => Q (.tuple #[.agg #[.string r0_0, .int .i64 r0_1, .int .i64 r0_2, .string r0_3], .int .i64 (wrap .i64 (from_10 + t58)), .int .i64 0]) h17) else (if (decide ((wrap .i64 (from_10 + t62)) > ((s_0.size : Nat) : Int))) = true then (stN h15 t4 [.string (⟨#[]⟩ : ByteArray), .int .i64 0, .int .i64 0, .string (⟨#[]⟩ : ByteArray)] 0 fun h18 => ldS h18 t4 fun r0_0 => ldI h18 (Addr.add t4 1) .i64 fun r0_1 => ldI h18 (Addr.add t4 2) .i64 fun r0_2 => ldS h18 (Addr.add t4 3) fun r0_3 => Q (.tuple #[.agg #[.string r0_0, .int .i64 r0_1, .int .i64 r0_2, .string r0_3], .int .i64 0, .int .i64 1]) h18) else (CallT Tryd.prog fn_ref29_name #[.string s_0, .int .i64 (wrap .i64 (from_10 + t62))] h15 fun v h19 => ∃ t84_0 : ByteArray, ∃ t84_1 : Int, ∃ t84_2 : Int, v = .tuple #[.string t84_0, .int .i64 t84_1, .int .i64 t84_2] ∧ if (t84_2 != 0) = true then (stN h19 t4 [.string (⟨#[]⟩ : ByteArray), .int .i64 0, .int .i64 0, .string (⟨#[]⟩ : ByteArray)] 0 fun h20 => ldS h20 t4 fun r0_0 => ldI h20 (Addr.add t4 1) .i64 fun r0_1 => ldI h20 (Addr.add t4 2) .i64 fun r0_2 => ldS h20 (Addr.add t4 3) fun r0_3 => Q (.tuple #[.agg #[.string r0_0, .int .i64 r0_1, .int .i64 r0_2, .string r0_3], .int .i64 0, .int .i64 t84_2]) h20) else (if (t84_1 != (wrap .i64 (from_10 + t58))) = true then (stN h19 t4 [.string (⟨#[]⟩ : ByteArray), .int .i64 0, .int .i64 0, .string (⟨#[]⟩ : ByteArray)] 0 fun h21 => ldS h21 t4 fun r0_0 => ldI h21 (Addr.add t4 1) .i64 fun r0_1 => ldI h21 (Addr.add t4 2) .i64 fun r0_2 => ldS h21 (Addr.add t4 3) fun r0_3 => Q (.tuple #[.agg #[.string r0_0, .int .i64 r0_1, .int .i64 r0_2, .string r0_3], .int .i64 0, .int .i64 2]) h21) else (sliceStr s_0 (some from_10) (some (wrap .i64 (from_10 + t62))) fun t101 => ((t101.size + t84_0.size : Nat) : Int) ≤ IntKind.max .i64 ∧ st1 h19 (Addr.add r_9 3) (.string (t101 ++ t84_0)) fun h22 => ldS h22 r_9 fun t105_0 => ldI h22 (Addr.add r_9 1) .i64 fun t105_1 => ldI h22 (Addr.add r_9 2) .i64 fun t105_2 => ldS h22 (Addr.add r_9 3) fun t105_3 => stN h22 t4 [.string t105_0, .int .i64 t105_1, .int .i64 t105_2, .string t105_3] 0 fun h23 => ldS h23 t4 fun r0_0 => ldI h23 (Addr.add t4 1) .i64 fun r0_1 => ldI h23 (Addr.add t4 2) .i64 fun r0_2 => ldS h23 (Addr.add t4 3) fun r0_3 => Q (.tuple #[.agg #[.string r0_0, .int .i64 r0_1, .int .i64 r0_2, .string r0_3], .int .i64 (wrap .i64 (from_10 + t58)), .int .i64 0]) h23))))
def ref29_record_v (s_0 : ByteArray) (at_1 : Int) (Q : QT) (h : Heap) : Prop :=
 alV h (.cells #[.string (⟨#[]⟩ : ByteArray), .int .i64 0, .int .i64 0, .string (⟨#[]⟩ : ByteArray)] T_api_DnsRecord) fun t4 h1 => CallT Tryd.prog fn_ref29_question #[.string s_0, .int .i64 at_1] h1 fun v h2 => ∃ t18_0_0 : ByteArray, ∃ t18_0_1 : Int, ∃ t18_1 : Int, ∃ t18_2 : Int, v = .tuple #[.agg #[.string t18_0_0, .int .i64 t18_0_1], .int .i64 t18_1, .int .i64 t18_2] ∧ alV h2 (.cells #[.string (⟨#[]⟩ : ByteArray), .int .i64 0] T_api_DnsQuestion) fun t7 h3 => stN h3 t7 [.string t18_0_0, .int .i64 t18_0_1] 0 fun h4 => if (t18_2 != 0) = true then (stN h4 t4 [.string (⟨#[]⟩ : ByteArray), .int .i64 0, .int .i64 0, .string (⟨#[]⟩ : ByteArray)] 0 fun h5 => ldS h5 t4 fun r0_0 => ldI h5 (Addr.add t4 1) .i64 fun r0_1 => ldI h5 (Addr.add t4 2) .i64 fun r0_2 => ldS h5 (Addr.add t4 3) fun r0_3 => Q (.tuple #[.agg #[.string r0_0, .int .i64 r0_1, .int .i64 r0_2, .string r0_3], .int .i64 0, .int .i64 t18_2]) h5) else (if (decide ((wrap .i64 (t18_1 + 6)) > ((s_0.size : Nat) : Int))) = true then (ref29_record_b2 t4 Q h4) else (CallT Tryd.prog fn_ref29_number #[.string s_0, .int .i64 (wrap .i64 (t18_1 + 4)), .int .i64 2] h4 fun v h6 => ∃ t37 : Int, v = .int .i64 t37 ∧ if (decide ((wrap .i64 ((wrap .i64 (t18_1 + 6)) + t37)) > ((s_0.size : Nat) : Int))) = true then (ref29_record_b2 t4 Q h6) else (ldS h6 t7 fun t45 => ldI h6 (Addr.add t7 1) .i64 fun t47 => (CallT Tryd.prog fn_ref29_number #[.string s_0, .int .i64 t18_1, .int .i64 4] h6 fun v h7 => ∃ t50 : Int, v = .int .i64 t50 ∧ (ldS h7 t7 fun t945 => (.string t945 : Value) = .string t45) ∧ (ldI h7 (Addr.add t7 1) .i64 fun t947 => (.int .i64 t947 : Value) = .int .i64 t47) ∧ alV h7 (.cells #[.string (⟨#[]⟩ : ByteArray), .int .i64 0, .int .i64 0, .string (⟨#[]⟩ : ByteArray)] T_api_DnsRecord) fun t9 h8 => (ldS h8 t7 fun t945 => (.string t945 : Value) = .string t45) ∧ (ldI h8 (Addr.add t7 1) .i64 fun t947 => (.int .i64 t947 : Value) = .int .i64 t47) ∧ stN h8 t9 [.string t45, .int .i64 t47, .int .i64 t50, .string (⟨#[]⟩ : ByteArray)] 0 fun h9 => ref29_record_b1 s_0 t18_1 t4 t9 (wrap .i64 (t18_1 + 6)) Q h9) ∧ (alV h6 (.cells #[.string (⟨#[]⟩ : ByteArray), .int .i64 0, .int .i64 0, .string (⟨#[]⟩ : ByteArray)] T_api_DnsRecord) fun t9 h10 => (ldS h10 t7 fun t945 => (.string t945 : Value) = .string t45) ∧ (ldI h10 (Addr.add t7 1) .i64 fun t947 => (.int .i64 t947 : Value) = .int .i64 t47) ∧ CallT Tryd.prog fn_ref29_number #[.string s_0, .int .i64 t18_1, .int .i64 4] h10 fun v h11 => ∃ t50 : Int, v = .int .i64 t50 ∧ (ldS h11 t7 fun t945 => (.string t945 : Value) = .string t45) ∧ (ldI h11 (Addr.add t7 1) .i64 fun t947 => (.int .i64 t947 : Value) = .int .i64 t47) ∧ stN h11 t9 [.string t45, .int .i64 t47, .int .i64 t50, .string (⟨#[]⟩ : ByteArray)] 0 fun h12 => ref29_record_b1 s_0 t18_1 t4 t9 (wrap .i64 (t18_1 + 6)) Q h12))))
set_option maxRecDepth 100000 in
theorem ref29_record_s (s_0 : ByteArray) (at_1 : Int) {Q : QT} {h : Heap} (hk : ref29_record_v s_0 at_1 Q h) : CallT Tryd.prog fn_ref29_record #[.string s_0, .int .i64 at_1] h Q :=
 callU follows Tryd.func37 (Tryd.call37 _) rfl rfl [(13, fun e h => dA (e 4) fun t4 => ref29_record_b2 t4 Q h), (18, fun e h => dS (e 0) fun s_0 => dI .i64 (e 1) fun at_1 => dA (e 4) fun t4 => dA (e 9) fun r_9 => dI .i64 (e 10) fun from_10 => ref29_record_b1 s_0 at_1 t4 r_9 from_10 Q h)] []
 ⟨fun e h _ hk => by
 have F := Ag.nil (e := e)
 have ⟨t4, F, hk⟩ := eA F hk
 exact cutU F (by as_aux_lemma => kernel_rfl) hk, fun e h _ hk => by
 have F := Ag.nil (e := e)
 have ⟨s_0, F, hk⟩ := eS F hk
 have ⟨at_1, F, hk⟩ := eI F hk
 have ⟨t4, F, hk⟩ := eA F hk
 have ⟨r_9, F, hk⟩ := eA F hk
 have ⟨from_10, F, hk⟩ := eI F hk
 exact cutU F (by as_aux_lemma => kernel_rfl) hk, trivial⟩
 trivial (by as_aux_lemma => kernel_rfl) hk
/-! ### intrusion/dns.encode -/
def dns_encode_b6 (w_7 : Addr) (Q : QT) (h : Heap) : Prop :=
 ldL h w_7 fun t93a t93n t93c => if (decide (((t93n : Nat) : Int) > 65535)) = true then (Q (.tuple #[.string (⟨#[]⟩ : ByteArray), .int .i64 3]) h) else (ldL h w_7 fun t99a t99n t99c => convV Tryd.prog T_sl_uint8 T_string (.slice t99a t99n t99c) h fun v h20 => ∃ t100 : ByteArray, v = .string t100 ∧ Q (.tuple #[.string t100, .int .i64 0]) h20)
def dns_encode_l5 (w_7 : Addr) (t62a : Option Addr) (t62n t62c : Nat) (t63 : Int) (Q : QT) (t64 : Int) (h : Heap) (Kn5 : Int → Heap → Prop) : Prop :=
 if (decide (t64 < t63)) = true then (idxA t64 t62n (nn t62a fun t66 => ldS h (Addr.add t66 ((t64).toNat * 4)) fun t67_0 => ldI h (Addr.add (Addr.add t66 ((t64).toNat * 4)) 1) .i64 fun t67_1 => ldI h (Addr.add (Addr.add t66 ((t64).toNat * 4)) 2) .i64 fun t67_2 => ldS h (Addr.add (Addr.add t66 ((t64).toNat * 4)) 3) fun t67_3 => alV h (.cells #[.string (⟨#[]⟩ : ByteArray), .int .i64 0, .int .i64 0, .string (⟨#[]⟩ : ByteArray)] T_api_DnsRecord) fun t13 h12 => stN h12 t13 [.string t67_0, .int .i64 t67_1, .int .i64 t67_2, .string t67_3] 0 fun h13 => ldS h13 t13 fun t70 => CallT Tryd.prog fn_dns_lower #[.string t70] h13 fun v h14 => ∃ t71 : ByteArray, v = .string t71 ∧ CallT Tryd.prog fn_dns_writer_name #[.pointer (some w_7), .string t71] h14 fun v h15 => v = .tuple #[] ∧ ldI h15 (Addr.add t13 1) .i64 fun t75 => CallT Tryd.prog fn_dns_writer_number #[.pointer (some w_7), .int .i64 t75, .int .i64 2] h15 fun v h16 => v = .tuple #[] ∧ CallT Tryd.prog fn_dns_writer_number #[.pointer (some w_7), .int .i64 1, .int .i64 2] h16 fun v h17 => v = .tuple #[] ∧ ldI h17 (Addr.add t13 2) .i64 fun t81 => CallT Tryd.prog fn_dns_writer_number #[.pointer (some w_7), .int .i64 t81, .int .i64 4] h17 fun v h18 => v = .tuple #[] ∧ ldI h18 (Addr.add t13 1) .i64 fun t85 => ldS h18 (Addr.add t13 3) fun t87 => CallT Tryd.prog fn_dns_writer_data #[.pointer (some w_7), .int .i64 t85, .string t87] h18 fun v h19 => v = .tuple #[] ∧ Kn5 (wrap .i64 (t64 + 1)) h19)) else (dns_encode_b6 w_7 Q h)
def dns_encode_b4 (d_2 w_7 : Addr) (Q : QT) (h : Heap) : Prop :=
 ldL h (Addr.add d_2 3) fun t62a t62n t62c => LoopV (fun (s : Int) h Kn => dns_encode_l5 w_7 t62a t62n t62c ((t62n : Nat) : Int) Q s h Kn) 0 h
def dns_encode_l3 (d_2 w_7 : Addr) (t43a : Option Addr) (t43n t43c : Nat) (t44 : Int) (Q : QT) (t45 : Int) (h : Heap) (Kn3 : Int → Heap → Prop) : Prop :=
 if (decide (t45 < t44)) = true then (idxA t45 t43n (nn t43a fun t47 => ldS h (Addr.add t47 ((t45).toNat * 2)) fun t48_0 => ldI h (Addr.add (Addr.add t47 ((t45).toNat * 2)) 1) .i64 fun t48_1 => alV h (.cells #[.string (⟨#[]⟩ : ByteArray), .int .i64 0] T_api_DnsQuestion) fun t11 h6 => stN h6 t11 [.string t48_0, .int .i64 t48_1] 0 fun h7 => ldS h7 t11 fun t51 => CallT Tryd.prog fn_dns_lower #[.string t51] h7 fun v h8 => ∃ t52 : ByteArray, v = .string t52 ∧ CallT Tryd.prog fn_dns_writer_name #[.pointer (some w_7), .string t52] h8 fun v h9 => v = .tuple #[] ∧ ldI h9 (Addr.add t11 1) .i64 fun t56 => CallT Tryd.prog fn_dns_writer_number #[.pointer (some w_7), .int .i64 t56, .int .i64 2] h9 fun v h10 => v = .tuple #[] ∧ CallT Tryd.prog fn_dns_writer_number #[.pointer (some w_7), .int .i64 1, .int .i64 2] h10 fun v h11 => v = .tuple #[] ∧ Kn3 (wrap .i64 (t45 + 1)) h11)) else (dns_encode_b4 d_2 w_7 Q h)
def dns_encode_b2 (d_2 w_7 : Addr) (Q : QT) (h : Heap) : Prop :=
 ldL h (Addr.add d_2 2) fun t43a t43n t43c => LoopV (fun (s : Int) h Kn => dns_encode_l3 d_2 w_7 t43a t43n t43c ((t43n : Nat) : Int) Q s h Kn) 0 h
def dns_encode_l1 (d_2 w_7 : Addr) (t32a : Option Addr) (t32n t32c : Nat) (t33 : Int) (Q : QT) (t34 : Int) (h : Heap) (Kn1 : Int → Heap → Prop) : Prop :=
 if (decide (t34 < t33)) = true then (idxA t34 t32n (nn t32a fun t36 => ldI h (Addr.add t36 ((t34).toNat * 1)) .i64 fun t37 => CallT Tryd.prog fn_dns_writer_number #[.pointer (some w_7), .int .i64 t37, .int .i64 2] h fun v h5 => v = .tuple #[] ∧ Kn1 (wrap .i64 (t34 + 1)) h5)) else (dns_encode_b2 d_2 w_7 Q h)
def dns_encode_v (d_0_0 d_0_1 : Int) (d_0_2a : Option Addr) (d_0_2n d_0_2c : Nat) (d_0_3a : Option Addr) (d_0_3n d_0_3c : Nat) (seen_1 : Option Nat) (Q : QT) (h : Heap) : Prop :=
 alV h (.cells #[.int .i64 d_0_0, .int .i64 d_0_1, .slice d_0_2a d_0_2n d_0_2c, .slice d_0_3a d_0_3n d_0_3c] T_api_Dns) fun t2 h1 => ldI h1 t2 .i64 fun t14_0 => ldI h1 (Addr.add t2 1) .i64 fun t14_1 => ldL h1 (Addr.add t2 2) fun t14_2a t14_2n t14_2c => ldL h1 (Addr.add t2 3) fun t14_3a t14_3n t14_3c => CallT Tryd.prog fn_dns_check #[.agg #[.int .i64 t14_0, .int .i64 t14_1, .slice t14_2a t14_2n t14_2c, .slice t14_3a t14_3n t14_3c]] h1 fun v h2 => ∃ t15 : Int, v = .int .i64 t15 ∧ if (t15 != 0) = true then (Q (.tuple #[.string (⟨#[]⟩ : ByteArray), .int .i64 t15]) h2) else (alV h2 (.cells #[.slice none 0 0, .map seen_1] T_dns_writer) fun t21 h3 => ldI h3 t2 .i64 fun t23 => ldI h3 (Addr.add t2 1) .i64 fun t25 => ldL h3 (Addr.add t2 2) fun t27a t27n t27c => ldL h3 (Addr.add t2 3) fun t30a t30n t30c => alV h3 (.cells #[.int .i64 t23, .int .i64 t25, .int .i64 ((t27n : Nat) : Int), .int .i64 ((t30n : Nat) : Int), .int .i64 0, .int .i64 0] T_int) fun t32 h4 => LoopV (fun (s : Int) h Kn => dns_encode_l1 t2 t21 (some t32) 6 6 6 Q s h Kn) 0 h4)
set_option maxRecDepth 100000 in
theorem dns_encode_s (d_0_0 d_0_1 : Int) (d_0_2a : Option Addr) (d_0_2n d_0_2c : Nat) (d_0_3a : Option Addr) (d_0_3n d_0_3c : Nat) (seen_1 : Option Nat) {Q : QT} {h : Heap} (hk : dns_encode_v d_0_0 d_0_1 d_0_2a d_0_2n d_0_2c d_0_3a d_0_3n d_0_3c seen_1 Q h) : CallT Tryd.prog fn_dns_encode #[.agg #[.int .i64 d_0_0, .int .i64 d_0_1, .slice d_0_2a d_0_2n d_0_2c, .slice d_0_3a d_0_3n d_0_3c], .map seen_1] h Q :=
 callU follows Tryd.func38 (Tryd.call38 _) rfl rfl [(22, fun e h => dA (e 2) fun d_2 => dA (e 7) fun w_7 => dns_encode_b2 d_2 w_7 Q h), (36, fun e h => dA (e 2) fun d_2 => dA (e 7) fun w_7 => dns_encode_b4 d_2 w_7 Q h), (54, fun e h => dA (e 7) fun w_7 => dns_encode_b6 w_7 Q h)] [(14, fun e h => dA (e 2) fun d_2 => dA (e 7) fun w_7 => dL (e 32) fun t32a t32n t32c => dI .i64 (e 33) fun t33 => dI .i64 (e 34) fun t34 => LoopV (fun (s : Int) h Kn => dns_encode_l1 d_2 w_7 t32a t32n t32c t33 Q s h Kn) t34 h), (24, fun e h => dA (e 2) fun d_2 => dA (e 7) fun w_7 => dL (e 43) fun t43a t43n t43c => dI .i64 (e 44) fun t44 => dI .i64 (e 45) fun t45 => LoopV (fun (s : Int) h Kn => dns_encode_l3 d_2 w_7 t43a t43n t43c t44 Q s h Kn) t45 h), (38, fun e h => dA (e 7) fun w_7 => dL (e 62) fun t62a t62n t62c => dI .i64 (e 63) fun t63 => dI .i64 (e 64) fun t64 => LoopV (fun (s : Int) h Kn => dns_encode_l5 w_7 t62a t62n t62c t63 Q s h Kn) t64 h)]
 ⟨fun e h _ hk => by
 have F := Ag.nil (e := e)
 have ⟨d_2, F, hk⟩ := eA F hk
 have ⟨w_7, F, hk⟩ := eA F hk
 exact cutU F (by as_aux_lemma => kernel_rfl) hk, fun e h _ hk => by
 have F := Ag.nil (e := e)
 have ⟨d_2, F, hk⟩ := eA F hk
 have ⟨w_7, F, hk⟩ := eA F hk
 exact cutU F (by as_aux_lemma => kernel_rfl) hk, fun e h _ hk => by
 have F := Ag.nil (e := e)
 have ⟨w_7, F, hk⟩ := eA F hk
 exact cutU F (by as_aux_lemma => kernel_rfl) hk, trivial⟩
 ⟨⟨by kernel_rfl, fun e h he hk => by
 have F := Ag.nil (e := e)
 have ⟨d_2, F, hk⟩ := eA F hk
 have ⟨w_7, F, hk⟩ := eA F hk
 have ⟨t32a, t32n, t32c, F, hk⟩ := eL F hk
 have ⟨t33, F, hk⟩ := eI F hk
 have ⟨t34, F, hk⟩ := eI F hk
 exact loopU (s0 := t34) follows (fun _ h => by cases h) he F (fun s => [(34, .int .i64 s)]) (by kernel_rfl) (F.take 1) hk (fun Kn1 e h => dI .i64 (e 34) fun t34 => Kn1 t34 h) (fun Kn1 e h hk => by
  have F := Ag.nil (e := e)
  have ⟨t34, F, hk⟩ := eI F hk
  exact ⟨t34, F, hk⟩)
  (fun Kn1 => []) (fun Kn1 => [])
  (fun Kn1 => trivial)
  (fun Kn1 => trivial) (fun e s h Kn1 => by as_aux_lemma => kernel_rfl)⟩, ⟨by kernel_rfl, fun e h he hk => by
 have F := Ag.nil (e := e)
 have ⟨d_2, F, hk⟩ := eA F hk
 have ⟨w_7, F, hk⟩ := eA F hk
 have ⟨t43a, t43n, t43c, F, hk⟩ := eL F hk
 have ⟨t44, F, hk⟩ := eI F hk
 have ⟨t45, F, hk⟩ := eI F hk
 exact loopU (s0 := t45) follows (fun _ h => by cases h) he F (fun s => [(45, .int .i64 s)]) (by kernel_rfl) (F.take 1) hk (fun Kn3 e h => dI .i64 (e 45) fun t45 => Kn3 t45 h) (fun Kn3 e h hk => by
  have F := Ag.nil (e := e)
  have ⟨t45, F, hk⟩ := eI F hk
  exact ⟨t45, F, hk⟩)
  (fun Kn3 => []) (fun Kn3 => [])
  (fun Kn3 => trivial)
  (fun Kn3 => trivial) (fun e s h Kn3 => by as_aux_lemma => kernel_rfl)⟩, ⟨by kernel_rfl, fun e h he hk => by
 have F := Ag.nil (e := e)
 have ⟨w_7, F, hk⟩ := eA F hk
 have ⟨t62a, t62n, t62c, F, hk⟩ := eL F hk
 have ⟨t63, F, hk⟩ := eI F hk
 have ⟨t64, F, hk⟩ := eI F hk
 exact loopU (s0 := t64) follows (fun _ h => by cases h) he F (fun s => [(64, .int .i64 s)]) (by kernel_rfl) (F.take 1) hk (fun Kn5 e h => dI .i64 (e 64) fun t64 => Kn5 t64 h) (fun Kn5 e h hk => by
  have F := Ag.nil (e := e)
  have ⟨t64, F, hk⟩ := eI F hk
  exact ⟨t64, F, hk⟩)
  (fun Kn5 => []) (fun Kn5 => [])
  (fun Kn5 => trivial)
  (fun Kn5 => trivial) (fun e s h Kn5 => by as_aux_lemma => kernel_rfl)⟩, trivial⟩ (by as_aux_lemma => kernel_rfl) hk
/-! ### intrusion/intrusionref29.encode -/
def ref29_encode_b4 (d_2 w_7 : Addr) (i_9 at_11 : Int) (Q : QT) (Kn3 : Int → Heap → Prop) (h : Heap) : Prop :=
 ldS h w_7 fun t155 => sliceStr t155 none (some at_11) fun t157 => ldS h w_7 fun t161 => ldS h w_7 fun t171 => sliceStr t171 (some (wrap .i64 (at_11 + 2))) none fun t174 => CallT Tryd.prog fn_ref01_Put #[.int .i64 (wrap .i64 ((wrap .i64 (((t161.size : Nat) : Int) - at_11)) - 2)), .int .i64 2] h fun v h23 => ∃ t166 : ByteArray, v = .string t166 ∧ (ldS h23 w_7 fun t9155 => (.string t9155 : Value) = .string t155) ∧ (ldS h23 w_7 fun t9171 => (.string t9171 : Value) = .string t171) ∧ ((t157.size + t166.size : Nat) : Int) ≤ IntKind.max .i64 ∧ (((t157 ++ t166).size + t174.size : Nat) : Int) ≤ IntKind.max .i64 ∧ st1 h23 w_7 (.string ((t157 ++ t166) ++ t174)) fun h24 => Kn3 (wrap .i64 (i_9 + 1)) h24
def ref29_encode_b5 (w_7 : Addr) (Q : QT) (h : Heap) : Prop :=
 ldS h w_7 fun t181 => if (decide (((t181.size : Nat) : Int) > 65535)) = true then (Q (.tuple #[.string (⟨#[]⟩ : ByteArray), .int .i64 3]) h) else (ldS h w_7 fun t187 => Q (.tuple #[.string t187, .int .i64 0]) h)
def ref29_encode_l3 (d_2 w_7 : Addr) (Q : QT) (i_9 : Int) (h : Heap) (Kn3 : Int → Heap → Prop) : Prop :=
 ldL h (Addr.add d_2 3) fun t75a t75n t75c => if (decide (i_9 < ((t75n : Nat) : Int))) = true then (ldL h (Addr.add d_2 3) fun t81a t81n t81c => idxA i_9 t81n (nn t81a fun t83 => ldS h (Addr.add t83 ((i_9).toNat * 4)) fun t84_0 => ldI h (Addr.add (Addr.add t83 ((i_9).toNat * 4)) 1) .i64 fun t84_1 => ldI h (Addr.add (Addr.add t83 ((i_9).toNat * 4)) 2) .i64 fun t84_2 => ldS h (Addr.add (Addr.add t83 ((i_9).toNat * 4)) 3) fun t84_3 => alV h (.cells #[.string (⟨#[]⟩ : ByteArray), .int .i64 0, .int .i64 0, .string (⟨#[]⟩ : ByteArray)] T_api_DnsRecord) fun t10 h12 => stN h12 t10 [.string t84_0, .int .i64 t84_1, .int .i64 t84_2, .string t84_3] 0 fun h13 => ldS h13 t10 fun t87 => CallT Tryd.prog fn_ref29_writer_name #[.pointer (some w_7), .string t87] h13 fun v h14 => v = .tuple #[] ∧ ldS h14 w_7 fun t93 => ldI h14 (Addr.add t10 1) .i64 fun t95 => ldI h14 (Addr.add t10 2) .i64 fun t100 => CallT Tryd.prog fn_ref01_Put #[.int .i64 t95, .int .i64 2] h14 fun v h15 => ∃ t96 : ByteArray, v = .string t96 ∧ (ldS h15 w_7 fun t993 => (.string t993 : Value) = .string t93) ∧ (ldI h15 (Addr.add t10 2) .i64 fun t9100 => (.int .i64 t9100 : Value) = .int .i64 t100) ∧ ((t93.size + t96.size : Nat) : Int) ≤ IntKind.max .i64 ∧ (((t93 ++ t96).size + (⟨#[0, 1]⟩ : ByteArray).size : Nat) : Int) ≤ IntKind.max .i64 ∧ CallT Tryd.prog fn_ref01_Put #[.int .i64 t100, .int .i64 4] h15 fun v h16 => ∃ t101 : ByteArray, v = .string t101 ∧ (ldS h16 w_7 fun t993 => (.string t993 : Value) = .string t93) ∧ ((((t93 ++ t96) ++ (⟨#[0, 1]⟩ : ByteArray)).size + t101.size : Nat) : Int) ≤ IntKind.max .i64 ∧ st1 h16 w_7 (.string (((t93 ++ t96) ++ (⟨#[0, 1]⟩ : ByteArray)) ++ t101)) fun h17 => ldS h17 w_7 fun t108 => ldS h17 w_7 fun t114 => ((t114.size + (⟨#[0, 0]⟩ : ByteArray).size : Nat) : Int) ≤ IntKind.max .i64 ∧ st1 h17 w_7 (.string (t114 ++ (⟨#[0, 0]⟩ : ByteArray))) fun h18 => ldI h18 (Addr.add t10 1) .i64 fun t119 => CallT Tryd.prog fn_ref29_named #[.int .i64 t119] h18 fun v h19 => ∃ t120 : Int, v = .int .i64 t120 ∧ if (decide (t120 < 0)) = true then (ldS h19 w_7 fun t127 => ldS h19 (Addr.add t10 3) fun t129 => ((t127.size + t129.size : Nat) : Int) ≤ IntKind.max .i64 ∧ st1 h19 w_7 (.string (t127 ++ t129)) fun h20 => ref29_encode_b4 d_2 w_7 i_9 ((t108.size : Nat) : Int) Q Kn3 h20) else (ldS h19 w_7 fun t137 => ldS h19 (Addr.add t10 3) fun t139 => sliceStr t139 none (some t120) fun t141 => ((t137.size + t141.size : Nat) : Int) ≤ IntKind.max .i64 ∧ st1 h19 w_7 (.string (t137 ++ t141)) fun h21 => ldS h21 (Addr.add t10 3) fun t147 => sliceStr t147 (some t120) none fun t149 => CallT Tryd.prog fn_ref29_writer_name #[.pointer (some w_7), .string t149] h21 fun v h22 => v = .tuple #[] ∧ ref29_encode_b4 d_2 w_7 i_9 ((t108.size : Nat) : Int) Q Kn3 h22))) else (ref29_encode_b5 w_7 Q h)
def ref29_encode_b2 (d_2 w_7 : Addr) (Q : QT) (h : Heap) : Prop :=
 LoopV (fun (s : Int) h Kn => ref29_encode_l3 d_2 w_7 Q s h Kn) 0 h
def ref29_encode_l1 (d_2 w_7 : Addr) (Q : QT) (i_8 : Int) (h : Heap) (Kn1 : Int → Heap → Prop) : Prop :=
 ldL h (Addr.add d_2 2) fun t44a t44n t44c => if (decide (i_8 < ((t44n : Nat) : Int))) = true then (ldL h (Addr.add d_2 2) fun t51a t51n t51c => idxA i_8 t51n (nn t51a fun t53 => ldS h (Addr.add t53 ((i_8).toNat * 2)) fun t55 => CallT Tryd.prog fn_ref29_writer_name #[.pointer (some w_7), .string t55] h fun v h9 => v = .tuple #[] ∧ ldS h9 w_7 fun t61 => ldL h9 (Addr.add d_2 2) fun t63a t63n t63c => idxA i_8 t63n (nn t63a fun t65 => ldI h9 (Addr.add (Addr.add t65 ((i_8).toNat * 2)) 1) .i64 fun t67 => CallT Tryd.prog fn_ref01_Put #[.int .i64 t67, .int .i64 2] h9 fun v h10 => ∃ t68 : ByteArray, v = .string t68 ∧ (ldS h10 w_7 fun t961 => (.string t961 : Value) = .string t61) ∧ ((t61.size + t68.size : Nat) : Int) ≤ IntKind.max .i64 ∧ (((t61 ++ t68).size + (⟨#[0, 1]⟩ : ByteArray).size : Nat) : Int) ≤ IntKind.max .i64 ∧ st1 h10 w_7 (.string ((t61 ++ t68) ++ (⟨#[0, 1]⟩ : ByteArray))) fun h11 => Kn1 (wrap .i64 (i_8 + 1)) h11))) else (ref29_encode_b2 d_2 w_7 Q h)
def ref29_encode_v (d_0_0 d_0_1 : Int) (d_0_2a : Option Addr) (d_0_2n d_0_2c : Nat) (d_0_3a : Option Addr) (d_0_3n d_0_3c : Nat) (short_1 : Bool) (Q : QT) (h : Heap) : Prop :=
 alV h (.cells #[.int .i64 d_0_0, .int .i64 d_0_1, .slice d_0_2a d_0_2n d_0_2c, .slice d_0_3a d_0_3n d_0_3c] T_api_Dns) fun t2 h1 => ldI h1 t2 .i64 fun t13_0 => ldI h1 (Addr.add t2 1) .i64 fun t13_1 => ldL h1 (Addr.add t2 2) fun t13_2a t13_2n t13_2c => ldL h1 (Addr.add t2 3) fun t13_3a t13_3n t13_3c => CallT Tryd.prog fn_ref29_check #[.agg #[.int .i64 t13_0, .int .i64 t13_1, .slice t13_2a t13_2n t13_2c, .slice t13_3a t13_3n t13_3c]] h1 fun v h2 => ∃ t14 : Int, v = .int .i64 t14 ∧ if (t14 != 0) = true then (Q (.tuple #[.string (⟨#[]⟩ : ByteArray), .int .i64 t14]) h2) else (alV h2 (.cells #[.string (⟨#[]⟩ : ByteArray), .bool short_1, .slice none 0 0] T_intrusionref29_writer) fun t20 h3 => ldI h3 t2 .i64 fun t23 => ldI h3 (Addr.add t2 1) .i64 fun t26 => ldL h3 (Addr.add t2 2) fun t30a t30n t30c => ldL h3 (Addr.add t2 3) fun t35a t35n t35c => CallT Tryd.prog fn_ref01_Put #[.int .i64 t23, .int .i64 2] h3 fun v h4 => ∃ t24 : ByteArray, v = .string t24 ∧ (ldI h4 (Addr.add t2 1) .i64 fun t926 => (.int .i64 t926 : Value) = .int .i64 t26) ∧ (ldL h4 (Addr.add t2 2) fun t930a t930n t930c => (.slice t930a t930n t930c : Value) = .slice t30a t30n t30c) ∧ (ldL h4 (Addr.add t2 3) fun t935a t935n t935c => (.slice t935a t935n t935c : Value) = .slice t35a t35n t35c) ∧ CallT Tryd.prog fn_ref01_Put #[.int .i64 t26, .int .i64 2] h4 fun v h5 => ∃ t27 : ByteArray, v = .string t27 ∧ (ldL h5 (Addr.add t2 2) fun t930a t930n t930c => (.slice t930a t930n t930c : Value) = .slice t30a t30n t30c) ∧ (ldL h5 (Addr.add t2 3) fun t935a t935n t935c => (.slice t935a t935n t935c : Value) = .slice t35a t35n t35c) ∧ ((t24.size + t27.size : Nat) : Int) ≤ IntKind.max .i64 ∧ CallT Tryd.prog fn_ref01_Put #[.int .i64 ((t30n : Nat) : Int), .int .i64 2] h5 fun v h6 => ∃ t32 : ByteArray, v = .string t32 ∧ (ldL h6 (Addr.add t2 3) fun t935a t935n t935c => (.slice t935a t935n t935c : Value) = .slice t35a t35n t35c) ∧ (((t24 ++ t27).size + t32.size : Nat) : Int) ≤ IntKind.max .i64 ∧ CallT Tryd.prog fn_ref01_Put #[.int .i64 ((t35n : Nat) : Int), .int .i64 2] h6 fun v h7 => ∃ t37 : ByteArray, v = .string t37 ∧ ((((t24 ++ t27) ++ t32).size + t37.size : Nat) : Int) ≤ IntKind.max .i64 ∧ (((((t24 ++ t27) ++ t32) ++ t37).size + (⟨#[0, 0, 0, 0]⟩ : ByteArray).size : Nat) : Int) ≤ IntKind.max .i64 ∧ st1 h7 t20 (.string ((((t24 ++ t27) ++ t32) ++ t37) ++ (⟨#[0, 0, 0, 0]⟩ : ByteArray))) fun h8 => LoopV (fun (s : Int) h Kn => ref29_encode_l1 t2 t20 Q s h Kn) 0 h8)
set_option maxRecDepth 100000 in
theorem ref29_encode_s (d_0_0 d_0_1 : Int) (d_0_2a : Option Addr) (d_0_2n d_0_2c : Nat) (d_0_3a : Option Addr) (d_0_3n d_0_3c : Nat) (short_1 : Bool) {Q : QT} {h : Heap} (hk : ref29_encode_v d_0_0 d_0_1 d_0_2a d_0_2n d_0_2c d_0_3a d_0_3n d_0_3c short_1 Q h) : CallT Tryd.prog fn_ref29_encode #[.agg #[.int .i64 d_0_0, .int .i64 d_0_1, .slice d_0_2a d_0_2n d_0_2c, .slice d_0_3a d_0_3n d_0_3c], .bool short_1] h Q :=
 callU follows Tryd.func39 (Tryd.call39 _) rfl rfl [(24, fun e h => dA (e 2) fun d_2 => dA (e 7) fun w_7 => ref29_encode_b2 d_2 w_7 Q h), (52, fun e h => dA (e 7) fun w_7 => ref29_encode_b5 w_7 Q h)] [(16, fun e h => dA (e 2) fun d_2 => dA (e 7) fun w_7 => dI .i64 (e 8) fun i_8 => LoopV (fun (s : Int) h Kn => ref29_encode_l1 d_2 w_7 Q s h Kn) i_8 h), (26, fun e h => dA (e 2) fun d_2 => dA (e 7) fun w_7 => dI .i64 (e 9) fun i_9 => LoopV (fun (s : Int) h Kn => ref29_encode_l3 d_2 w_7 Q s h Kn) i_9 h)]
 ⟨fun e h _ hk => by
 have F := Ag.nil (e := e)
 have ⟨d_2, F, hk⟩ := eA F hk
 have ⟨w_7, F, hk⟩ := eA F hk
 exact cutU F (by as_aux_lemma => kernel_rfl) hk, fun e h _ hk => by
 have F := Ag.nil (e := e)
 have ⟨w_7, F, hk⟩ := eA F hk
 exact cutU F (by as_aux_lemma => kernel_rfl) hk, trivial⟩
 ⟨⟨by kernel_rfl, fun e h he hk => by
 have F := Ag.nil (e := e)
 have ⟨d_2, F, hk⟩ := eA F hk
 have ⟨w_7, F, hk⟩ := eA F hk
 have ⟨i_8, F, hk⟩ := eI F hk
 exact loopU (s0 := i_8) follows (fun _ h => by cases h) he F (fun s => [(8, .int .i64 s)]) (by kernel_rfl) (F.take 1) hk (fun Kn1 e h => dI .i64 (e 8) fun i_8 => Kn1 i_8 h) (fun Kn1 e h hk => by
  have F := Ag.nil (e := e)
  have ⟨i_8, F, hk⟩ := eI F hk
  exact ⟨i_8, F, hk⟩)
  (fun Kn1 => []) (fun Kn1 => [])
  (fun Kn1 => trivial)
  (fun Kn1 => trivial) (fun e s h Kn1 => by as_aux_lemma => kernel_rfl)⟩, ⟨by kernel_rfl, fun e h he hk => by
 have F := Ag.nil (e := e)
 have ⟨d_2, F, hk⟩ := eA F hk
 have ⟨w_7, F, hk⟩ := eA F hk
 have ⟨i_9, F, hk⟩ := eI F hk
 exact loopU (s0 := i_9) follows (fun _ h => by cases h) he F (fun s => [(9, .int .i64 s)]) (by kernel_rfl) (F.take 1) hk (fun Kn3 e h => dI .i64 (e 9) fun i_9 => Kn3 i_9 h) (fun Kn3 e h hk => by
  have F := Ag.nil (e := e)
  have ⟨i_9, F, hk⟩ := eI F hk
  exact ⟨i_9, F, hk⟩)
  (fun Kn3 => [(50, fun e h => dA (e 2) fun d_2 => dA (e 7) fun w_7 => dI .i64 (e 9) fun i_9 => dI .i64 (e 11) fun at_11 => ref29_encode_b4 d_2 w_7 i_9 at_11 Q Kn3 h)]) (fun Kn3 => [])
  (fun Kn3 => ⟨fun e h _ hk => by
 have F := Ag.nil (e := e)
 have ⟨d_2, F, hk⟩ := eA F hk
 have ⟨w_7, F, hk⟩ := eA F hk
 have ⟨i_9, F, hk⟩ := eI F hk
 have ⟨at_11, F, hk⟩ := eI F hk
 exact cutU F (by as_aux_lemma => kernel_rfl) hk, trivial⟩)
  (fun Kn3 => trivial) (fun e s h Kn3 => by as_aux_lemma => kernel_rfl)⟩, trivial⟩ (by as_aux_lemma => kernel_rfl) hk
/-! ### intrusion/intrusionlaw29.lower -/
def law29_lower_l1 (b_3a : Option Addr) (b_3n b_3c : Nat) (t8 : Int) (Q : QT) (t9 : Int) (h : Heap) (Kn1 : Int → Heap → Prop) : Prop :=
 if (decide (t9 < t8)) = true then (idxA t9 b_3n (nn b_3a fun t14 => ldI h (Addr.add t14 ((t9).toNat * 1)) .u8 fun t15 => if (decide (t15 ≥ 65)) = true then (idxA t9 b_3n (nn b_3a fun t20 => ldI h (Addr.add t20 ((t9).toNat * 1)) .u8 fun t21 => if (decide (t21 ≤ 90)) = true then (idxA t9 b_3n (nn b_3a fun t28 => ldI h (Addr.add t28 ((t9).toNat * 1)) .u8 fun t29 => idxA t9 b_3n (nn b_3a fun t31 => st1 h (Addr.add t31 ((t9).toNat * 1)) (.int .u8 (wrap .u8 (t29 + 32))) fun h2 => Kn1 (wrap .i64 (t9 + 1)) h2))) else (Kn1 (wrap .i64 (t9 + 1)) h))) else (Kn1 (wrap .i64 (t9 + 1)) h))) else (convV Tryd.prog T_sl_uint8 T_string (.slice b_3a b_3n b_3c) h fun v h3 => ∃ t34 : ByteArray, v = .string t34 ∧ Q (.string t34) h3)
def law29_lower_v (s_0 : ByteArray) (Q : QT) (h : Heap) : Prop :=
 convV Tryd.prog T_string T_sl_uint8 (.string s_0) h fun v h1 => ∃ t6a : Option Addr, ∃ t6n : Nat, ∃ t6c : Nat, v = .slice t6a t6n t6c ∧ LoopV (fun (s : Int) h Kn => law29_lower_l1 t6a t6n t6c ((t6n : Nat) : Int) Q s h Kn) 0 h1
set_option maxRecDepth 100000 in
theorem law29_lower_s (s_0 : ByteArray) {Q : QT} {h : Heap} (hk : law29_lower_v s_0 Q h) : CallT Tryd.prog fn_law29_lower #[.string s_0] h Q :=
 callU follows Tryd.func40 (Tryd.call40 _) rfl rfl [] [(8, fun e h => dL (e 3) fun b_3a b_3n b_3c => dI .i64 (e 8) fun t8 => dI .i64 (e 9) fun t9 => LoopV (fun (s : Int) h Kn => law29_lower_l1 b_3a b_3n b_3c t8 Q s h Kn) t9 h)]
 trivial
 ⟨⟨by kernel_rfl, fun e h he hk => by
 have F := Ag.nil (e := e)
 have ⟨b_3a, b_3n, b_3c, F, hk⟩ := eL F hk
 have ⟨t8, F, hk⟩ := eI F hk
 have ⟨t9, F, hk⟩ := eI F hk
 exact loopU (s0 := t9) follows (fun _ h => by cases h) he F (fun s => [(9, .int .i64 s)]) (by kernel_rfl) (F.take 1) hk (fun Kn1 e h => dI .i64 (e 9) fun t9 => Kn1 t9 h) (fun Kn1 e h hk => by
  have F := Ag.nil (e := e)
  have ⟨t9, F, hk⟩ := eI F hk
  exact ⟨t9, F, hk⟩)
  (fun Kn1 => []) (fun Kn1 => [])
  (fun Kn1 => trivial)
  (fun Kn1 => trivial) (fun e s h Kn1 => by as_aux_lemma => kernel_rfl)⟩, trivial⟩ (by as_aux_lemma => kernel_rfl) hk
/-! ### intrusion/field.valid -/
def field_valid_v (size_0 : Int) (Q : QT) (h : Heap) : Prop :=
 if (decide (size_0 ≥ 1)) = true then (Q (.bool (decide (size_0 ≤ 7))) h) else (Q (.bool false) h)
set_option maxRecDepth 100000 in
theorem field_valid_s (size_0 : Int) {Q : QT} {h : Heap} (hk : field_valid_v size_0 Q h) : CallT Tryd.prog fn_field_valid #[.int .i64 size_0] h Q :=
 callU follows Tryd.func41 (Tryd.call41 _) rfl rfl [] []
 trivial
 trivial (by as_aux_lemma => kernel_rfl) hk
/-! ### intrusion/dns.small -/
def dns_small_v (c_0 : Int) (Q : QT) (h : Heap) : Prop :=
 if (decide (65 ≤ c_0)) = true then (if (decide (c_0 ≤ 90)) = true then (Q (.int .u8 (wrap .u8 ((wrap .u8 (c_0 + 97)) - 65))) h) else (Q (.int .u8 c_0) h)) else (Q (.int .u8 c_0) h)
set_option maxRecDepth 100000 in
theorem dns_small_s (c_0 : Int) {Q : QT} {h : Heap} (hk : dns_small_v c_0 Q h) : CallT Tryd.prog fn_dns_small #[.int .u8 c_0] h Q :=
 callU follows Tryd.func43 (Tryd.call43 _) rfl rfl [] []
 trivial
 trivial (by as_aux_lemma => kernel_rfl) hk
/-! ### (*intrusion/dns.reader).next -/
def dns_reader_next_b1 (r_0 : Option Addr) (Q : QT) (h : Heap) : Prop :=
 nn r_0 fun t24 => ldI h (Addr.add t24 2) .i64 fun t26 => if (t26 != 0) = true then (Q (.int .i64 0) h) else (nn r_0 fun t29 => ldI h (Addr.add t29 1) .i64 fun t31 => nn r_0 fun t33 => st1 h (Addr.add t33 1) (.int .i64 (wrap .i64 (t31 + 1))) fun h2 => nn r_0 fun t36 => ldS h2 t36 fun t38 => nn r_0 fun t40 => ldI h2 (Addr.add t40 1) .i64 fun t42 => idxS t38 (wrap .i64 (t42 - 1)) fun t44 => Q (.int .i64 (wrap .i64 t44)) h2)
def dns_reader_next_v (r_0 : Option Addr) (Q : QT) (h : Heap) : Prop :=
 nn r_0 fun t4 => ldI h (Addr.add t4 2) .i64 fun t6 => if (t6 == 0) = true then (nn r_0 fun t10 => ldI h (Addr.add t10 1) .i64 fun t12 => nn r_0 fun t14 => ldS h t14 fun t16 => if (decide (t12 ≥ ((t16.size : Nat) : Int))) = true then (nn r_0 fun t21 => st1 h (Addr.add t21 2) (.int .i64 1) fun h1 => dns_reader_next_b1 r_0 Q h1) else (dns_reader_next_b1 r_0 Q h)) else (dns_reader_next_b1 r_0 Q h)
set_option maxRecDepth 100000 in
theorem dns_reader_next_s (r_0 : Option Addr) {Q : QT} {h : Heap} (hk : dns_reader_next_v r_0 Q h) : CallT Tryd.prog fn_dns_reader_next #[.pointer r_0] h Q :=
 callU follows Tryd.func44 (Tryd.call44 _) rfl rfl [(8, fun e h => dP (e 0) fun r_0 => dns_reader_next_b1 r_0 Q h)] []
 ⟨fun e h _ hk => by
 have F := Ag.nil (e := e)
 have ⟨r_0, F, hk⟩ := eP F hk
 exact cutU F (by as_aux_lemma => kernel_rfl) hk, trivial⟩
 trivial (by as_aux_lemma => kernel_rfl) hk
/-! ### (*intrusion/dns.reader).name$1 -/
def dns_reader_name_1_b3 (t2 t3 : Addr) (c_5 t28 t29 : Int) (Q : QT) (Kn2 : Int → Heap → Prop) (h : Heap) : Prop :=
 ldL h t2 fun t39a t39n t39c => CallT Tryd.prog fn_dns_small #[.int .u8 c_5] h fun v h10 => ∃ t41 : Int, v = .int .u8 t41 ∧ (ldL h10 t2 fun t939a t939n t939c => (.slice t939a t939n t939c : Value) = .slice t39a t39n t39c) ∧ alV h10 (.cells #[.int .u8 t41] T_uint8) fun t42 h11 => (ldL h11 t2 fun t939a t939n t939c => (.slice t939a t939n t939c : Value) = .slice t39a t39n t39c) ∧ bltV Tryd.prog .append #[T_sl_uint8, T_sl_uint8] T_sl_uint8 #[false, false] #[.slice t39a t39n t39c, .slice (some t42) 1 1] h11 fun v h12 => ∃ t43a : Option Addr, ∃ t43n : Nat, ∃ t43c : Nat, v = .slice t43a t43n t43c ∧ st1 h12 t2 (.slice t43a t43n t43c) fun h13 => Kn2 (wrap .i64 (t29 + 1)) h13
def dns_reader_name_1_l2 (t2 t3 : Addr) (t28 : Int) (Q : QT) (t29 : Int) (h : Heap) (Kn2 : Int → Heap → Prop) : Prop :=
 if (decide (t29 < t28)) = true then (ldP h t3 fun t31 => CallT Tryd.prog fn_dns_reader_next #[.pointer t31] h fun v h7 => ∃ t32 : Int, v = .int .i64 t32 ∧ CallT Tryd.prog fn_dns_allowed #[.int .u8 (wrap .u8 t32)] h7 fun v h8 => ∃ t35 : Bool, v = .bool t35 ∧ if (!t35) = true then (ldP h8 t3 fun t37 => CallT Tryd.prog fn_dns_reader_fail #[.pointer t37, .int .i64 2] h8 fun v h9 => v = .tuple #[] ∧ dns_reader_name_1_b3 t2 t3 (wrap .u8 t32) t28 t29 Q Kn2 h9) else (dns_reader_name_1_b3 t2 t3 (wrap .u8 t32) t28 t29 Q Kn2 h8)) else (Q (.tuple #[]) h)
def dns_reader_name_1_b1 (n_0 : Int) (t2 t3 : Addr) (Q : QT) (h : Heap) : Prop :=
 LoopV (fun (s : Int) h Kn => dns_reader_name_1_l2 t2 t3 n_0 Q s h Kn) 0 h
def dns_reader_name_1_v (n_0 : Int) (t1 t2 t3 : Addr) (Q : QT) (h : Heap) : Prop :=
 ldI h t1 .i64 fun t6 => st1 h t1 (.int .i64 (wrap .i64 (t6 + 1))) fun h1 => ldI h1 t1 .i64 fun t8 => if (decide (t8 > 24)) = true then (ldP h1 t3 fun t21 => CallT Tryd.prog fn_dns_reader_fail #[.pointer t21, .int .i64 2] h1 fun v h2 => v = .tuple #[] ∧ Q (.tuple #[]) h2) else (ldL h1 t2 fun t11a t11n t11c => ldL h1 t2 fun t13a t13n t13c => if (decide ((wrap .i64 ((wrap .i64 (((t11n : Nat) : Int) + (if (1 : Int) < ((t13n : Nat) : Int) then (1 : Int) else ((t13n : Nat) : Int)))) + n_0)) > 253)) = true then (ldP h1 t3 fun t21 => CallT Tryd.prog fn_dns_reader_fail #[.pointer t21, .int .i64 2] h1 fun v h3 => v = .tuple #[] ∧ Q (.tuple #[]) h3) else (ldI h1 t1 .i64 fun t23 => if (decide (t23 > 1)) = true then (ldL h1 t2 fun t25a t25n t25c => alV h1 (.cells #[.int .u8 46] T_uint8) fun t26 h4 => bltV Tryd.prog .append #[T_sl_uint8, T_sl_uint8] T_sl_uint8 #[false, false] #[.slice t25a t25n t25c, .slice (some t26) 1 1] h4 fun v h5 => ∃ t27a : Option Addr, ∃ t27n : Nat, ∃ t27c : Nat, v = .slice t27a t27n t27c ∧ st1 h5 t2 (.slice t27a t27n t27c) fun h6 => dns_reader_name_1_b1 n_0 t2 t3 Q h6) else (dns_reader_name_1_b1 n_0 t2 t3 Q h1)))
set_option maxRecDepth 100000 in
theorem dns_reader_name_1_s (n_0 : Int) (t1 t2 t3 : Addr) {Q : QT} {h : Heap} (hk : dns_reader_name_1_v n_0 t1 t2 t3 Q h) : CallT Tryd.prog fn_dns_reader_name_1 #[.int .i64 n_0, .pointer (some t1), .pointer (some t2), .pointer (some t3)] h Q :=
 callU follows Tryd.func45 (Tryd.call45 _) rfl rfl [(12, fun e h => dI .i64 (e 0) fun n_0 => dA (e 2) fun t2 => dA (e 3) fun t3 => dns_reader_name_1_b1 n_0 t2 t3 Q h)] [(14, fun e h => dA (e 2) fun t2 => dA (e 3) fun t3 => dI .i64 (e 28) fun t28 => dI .i64 (e 29) fun t29 => LoopV (fun (s : Int) h Kn => dns_reader_name_1_l2 t2 t3 t28 Q s h Kn) t29 h)]
 ⟨fun e h _ hk => by
 have F := Ag.nil (e := e)
 have ⟨n_0, F, hk⟩ := eI F hk
 have ⟨t2, F, hk⟩ := eA F hk
 have ⟨t3, F, hk⟩ := eA F hk
 exact cutU F (by as_aux_lemma => kernel_rfl) hk, trivial⟩
 ⟨⟨by kernel_rfl, fun e h he hk => by
 have F := Ag.nil (e := e)
 have ⟨t2, F, hk⟩ := eA F hk
 have ⟨t3, F, hk⟩ := eA F hk
 have ⟨t28, F, hk⟩ := eI F hk
 have ⟨t29, F, hk⟩ := eI F hk
 exact loopU (s0 := t29) follows (fun _ h => by cases h) he F (fun s => [(29, .int .i64 s)]) (by kernel_rfl) (F.take 1) hk (fun Kn2 e h => dI .i64 (e 29) fun t29 => Kn2 t29 h) (fun Kn2 e h hk => by
  have F := Ag.nil (e := e)
  have ⟨t29, F, hk⟩ := eI F hk
  exact ⟨t29, F, hk⟩)
  (fun Kn2 => [(22, fun e h => dA (e 2) fun t2 => dA (e 3) fun t3 => dI .u8 (e 5) fun c_5 => dI .i64 (e 28) fun t28 => dI .i64 (e 29) fun t29 => dns_reader_name_1_b3 t2 t3 c_5 t28 t29 Q Kn2 h)]) (fun Kn2 => [])
  (fun Kn2 => ⟨fun e h _ hk => by
 have F := Ag.nil (e := e)
 have ⟨t2, F, hk⟩ := eA F hk
 have ⟨t3, F, hk⟩ := eA F hk
 have ⟨c_5, F, hk⟩ := eI F hk
 have ⟨t28, F, hk⟩ := eI F hk
 have ⟨t29, F, hk⟩ := eI F hk
 exact cutU F (by as_aux_lemma => kernel_rfl) hk, trivial⟩)
  (fun Kn2 => trivial) (fun e s h Kn2 => by as_aux_lemma => kernel_rfl)⟩, trivial⟩ (by as_aux_lemma => kernel_rfl) hk
/-! ### (*intrusion/dns.reader).fail -/
def dns_reader_fail_v (r_0 : Option Addr) (e_1 : Int) (Q : QT) (h : Heap) : Prop :=
 nn r_0 fun t5 => ldI h (Addr.add t5 2) .i64 fun t7 => if (t7 == 0) = true then (nn r_0 fun t11 => st1 h (Addr.add t11 2) (.int .i64 e_1) fun h1 => Q (.tuple #[]) h1) else (Q (.tuple #[]) h)
set_option maxRecDepth 100000 in
theorem dns_reader_fail_s (r_0 : Option Addr) (e_1 : Int) {Q : QT} {h : Heap} (hk : dns_reader_fail_v r_0 e_1 Q h) : CallT Tryd.prog fn_dns_reader_fail #[.pointer r_0, .int .i64 e_1] h Q :=
 callU follows Tryd.func46 (Tryd.call46 _) rfl rfl [] []
 trivial
 trivial (by as_aux_lemma => kernel_rfl) hk
/-! ### intrusion/intrusionref01.Get -/
def ref01_Get_v (s_0 : ByteArray) (at_1 size_2 : Int) (Q : QT) (h : Heap) : Prop :=
 if (decide (size_2 < 1)) = true then (Q (.tuple #[.int .i64 0, .int .i64 4]) h) else (if (decide (size_2 > 7)) = true then (Q (.tuple #[.int .i64 0, .int .i64 4]) h) else (if (decide (at_1 < 0)) = true then (Q (.tuple #[.int .i64 0, .int .i64 4]) h) else (if (decide (at_1 > ((s_0.size : Nat) : Int))) = true then (Q (.tuple #[.int .i64 0, .int .i64 1]) h) else (if (decide ((wrap .i64 (((s_0.size : Nat) : Int) - at_1)) < size_2)) = true then (Q (.tuple #[.int .i64 0, .int .i64 1]) h) else (sliceStr s_0 (some at_1) (some (wrap .i64 (at_1 + size_2))) fun t35 => CallT Tryd.prog fn_ref01_Value #[.string t35] h fun v h1 => ∃ t36 : Int, v = .int .i64 t36 ∧ Q (.tuple #[.int .i64 t36, .int .i64 0]) h1)))))
set_option maxRecDepth 100000 in
theorem ref01_Get_s (s_0 : ByteArray) (at_1 size_2 : Int) {Q : QT} {h : Heap} (hk : ref01_Get_v s_0 at_1 size_2 Q h) : CallT Tryd.prog fn_ref01_Get #[.string s_0, .int .i64 at_1, .int .i64 size_2] h Q :=
 callU follows Tryd.func47 (Tryd.call47 _) rfl rfl [] []
 trivial
 trivial (by as_aux_lemma => kernel_rfl) hk
/-! ### intrusion/intrusionref29.name -/
def ref29_name_b2 (out_7 : ByteArray) (end_10 : Int) (Q : QT) (Kn1 : Int × ByteArray × Int × Int × Int × Int → Heap → Prop) (h : Heap) : Prop :=
 CallT Tryd.prog fn_ref29_small #[.string out_7] h fun v h2 => ∃ t79 : ByteArray, v = .string t79 ∧ Q (.tuple #[.string t79, .int .i64 end_10, .int .i64 0]) h2
def ref29_name_b3 (s_0 out_7 : ByteArray) (count_8 jumps_9 end_10 to_13 : Int) (Q : QT) (Kn1 : Int × ByteArray × Int × Int × Int × Int → Heap → Prop) (h : Heap) : Prop :=
 Kn1 (to_13, out_7, count_8, jumps_9, end_10, to_13) h
def ref29_name_b6 (s_0 : ByteArray) (at_1 : Int) (out_7 : ByteArray) (count_8 jumps_9 end_10 begin_11 n_12 : Int) (Q : QT) (Kn1 : Int × ByteArray × Int × Int × Int × Int → Heap → Prop) (h : Heap) : Prop :=
 sliceStr s_0 (some (wrap .i64 (at_1 + 1))) (some (wrap .i64 ((wrap .i64 (at_1 + 1)) + n_12))) fun t65 => ((out_7.size + t65.size : Nat) : Int) ≤ IntKind.max .i64 ∧ Kn1 (wrap .i64 ((wrap .i64 (at_1 + 1)) + n_12), out_7 ++ t65, count_8, jumps_9, end_10, begin_11) h
def ref29_name_l5 (s_0 : ByteArray) (at_1 : Int) (out_7 : ByteArray) (count_8 jumps_9 end_10 begin_11 n_12 : Int) (Q : QT) (Kn1 : Int × ByteArray × Int × Int × Int × Int → Heap → Prop) (i_14 : Int) (h : Heap) (Kn5 : Int → Heap → Prop) : Prop :=
 if (decide (i_14 ≤ n_12)) = true then (if (decide ((wrap .i64 (at_1 + i_14)) ≥ ((s_0.size : Nat) : Int))) = true then (Q (.tuple #[.string (⟨#[]⟩ : ByteArray), .int .i64 0, .int .i64 1]) h) else (idxS s_0 (wrap .i64 (at_1 + i_14)) fun t54 => CallT Tryd.prog fn_ref29_letter #[.int .u8 t54] h fun v h3 => ∃ t55 : Bool, v = .bool t55 ∧ if (!t55) = true then (Q (.tuple #[.string (⟨#[]⟩ : ByteArray), .int .i64 0, .int .i64 2]) h3) else (Kn5 (wrap .i64 (i_14 + 1)) h3))) else (ref29_name_b6 s_0 at_1 out_7 count_8 jumps_9 end_10 begin_11 n_12 Q Kn1 h)
def ref29_name_b4 (s_0 : ByteArray) (at_1 : Int) (out_7 : ByteArray) (count_8 jumps_9 end_10 begin_11 n_12 : Int) (Q : QT) (Kn1 : Int × ByteArray × Int × Int × Int × Int → Heap → Prop) (h : Heap) : Prop :=
 if (decide ((wrap .i64 (count_8 + 1)) > 24)) = true then (Q (.tuple #[.string (⟨#[]⟩ : ByteArray), .int .i64 0, .int .i64 2]) h) else (if (decide ((wrap .i64 (((out_7.size : Nat) : Int) + n_12)) > 253)) = true then (Q (.tuple #[.string (⟨#[]⟩ : ByteArray), .int .i64 0, .int .i64 2]) h) else (LoopV (fun (s : Int) h Kn => ref29_name_l5 s_0 at_1 out_7 (wrap .i64 (count_8 + 1)) jumps_9 end_10 begin_11 n_12 Q Kn1 s h Kn) 1 h))
def ref29_name_l1 (s_0 : ByteArray) (Q : QT) (at_1 : Int) (out_7 : ByteArray) (count_8 jumps_9 end_10 begin_11 : Int) (h : Heap) (Kn1 : Int × ByteArray × Int × Int × Int × Int → Heap → Prop) : Prop :=
 if (decide (at_1 ≥ ((s_0.size : Nat) : Int))) = true then (Q (.tuple #[.string (⟨#[]⟩ : ByteArray), .int .i64 0, .int .i64 1]) h) else (idxS s_0 at_1 fun t22 => if ((wrap .i64 t22) == 0) = true then (if (decide (end_10 < 0)) = true then (ref29_name_b2 out_7 (wrap .i64 (at_1 + 1)) Q Kn1 h) else (ref29_name_b2 out_7 end_10 Q Kn1 h)) else (if (decide ((wrap .i64 t22) ≥ 192)) = true then (if (decide ((wrap .i64 (at_1 + 1)) ≥ ((s_0.size : Nat) : Int))) = true then (Q (.tuple #[.string (⟨#[]⟩ : ByteArray), .int .i64 0, .int .i64 1]) h) else (CallT Tryd.prog fn_ref29_number #[.string s_0, .int .i64 at_1, .int .i64 2] h fun v h1 => ∃ t91 : Int, v = .int .i64 t91 ∧ (16384 : Int) ≠ 0 ∧ if (decide ((Int.tmod t91 16384) ≥ begin_11)) = true then (Q (.tuple #[.string (⟨#[]⟩ : ByteArray), .int .i64 0, .int .i64 2]) h1) else (if (decide ((wrap .i64 (jumps_9 + 1)) > 24)) = true then (Q (.tuple #[.string (⟨#[]⟩ : ByteArray), .int .i64 0, .int .i64 2]) h1) else (if (decide (end_10 < 0)) = true then (ref29_name_b3 s_0 out_7 count_8 (wrap .i64 (jumps_9 + 1)) (wrap .i64 (at_1 + 2)) (Int.tmod t91 16384) Q Kn1 h1) else (ref29_name_b3 s_0 out_7 count_8 (wrap .i64 (jumps_9 + 1)) end_10 (Int.tmod t91 16384) Q Kn1 h1))))) else (if (decide ((wrap .i64 t22) ≥ 64)) = true then (Q (.tuple #[.string (⟨#[]⟩ : ByteArray), .int .i64 0, .int .i64 2]) h) else (if (!(out_7.toList == (⟨#[]⟩ : ByteArray).toList)) = true then (((out_7.size + (⟨#[46]⟩ : ByteArray).size : Nat) : Int) ≤ IntKind.max .i64 ∧ ref29_name_b4 s_0 at_1 (out_7 ++ (⟨#[46]⟩ : ByteArray)) count_8 jumps_9 end_10 begin_11 (wrap .i64 t22) Q Kn1 h) else (ref29_name_b4 s_0 at_1 out_7 count_8 jumps_9 end_10 begin_11 (wrap .i64 t22) Q Kn1 h)))))
def ref29_name_v (s_0 : ByteArray) (at_1 : Int) (Q : QT) (h : Heap) : Prop :=
 LoopV (fun (s : Int × ByteArray × Int × Int × Int × Int) h Kn => ref29_name_l1 s_0 Q s.1 s.2.1 s.2.2.1 s.2.2.2.1 s.2.2.2.2.1 s.2.2.2.2.2 h Kn) (at_1, (⟨#[]⟩ : ByteArray), 0, 0, (-1), at_1) h
set_option maxRecDepth 100000 in
theorem ref29_name_s (s_0 : ByteArray) (at_1 : Int) {Q : QT} {h : Heap} (hk : ref29_name_v s_0 at_1 Q h) : CallT Tryd.prog fn_ref29_name #[.string s_0, .int .i64 at_1] h Q :=
 callU follows Tryd.func48 (Tryd.call48 _) rfl rfl [] [(12, fun e h => dS (e 0) fun s_0 => dI .i64 (e 1) fun at_1 => dS (e 7) fun out_7 => dI .i64 (e 8) fun count_8 => dI .i64 (e 9) fun jumps_9 => dI .i64 (e 10) fun end_10 => dI .i64 (e 11) fun begin_11 => LoopV (fun (s : Int × ByteArray × Int × Int × Int × Int) h Kn => ref29_name_l1 s_0 Q s.1 s.2.1 s.2.2.1 s.2.2.2.1 s.2.2.2.2.1 s.2.2.2.2.2 h Kn) (at_1, out_7, count_8, jumps_9, end_10, begin_11) h)]
 trivial
 ⟨⟨by kernel_rfl, fun e h he hk => by
 have F := Ag.nil (e := e)
 have ⟨s_0, F, hk⟩ := eS F hk
 have ⟨at_1, F, hk⟩ := eI F hk
 have ⟨out_7, F, hk⟩ := eS F hk
 have ⟨count_8, F, hk⟩ := eI F hk
 have ⟨jumps_9, F, hk⟩ := eI F hk
 have ⟨end_10, F, hk⟩ := eI F hk
 have ⟨begin_11, F, hk⟩ := eI F hk
 exact loopU (s0 := (at_1, out_7, count_8, jumps_9, end_10, begin_11)) follows (fun _ h => by cases h) he F (fun s => [(11, .int .i64 s.2.2.2.2.2), (10, .int .i64 s.2.2.2.2.1), (9, .int .i64 s.2.2.2.1), (8, .int .i64 s.2.2.1), (7, .string s.2.1), (1, .int .i64 s.1)]) (by kernel_rfl) (F.take 6) hk (fun Kn1 e h => dI .i64 (e 1) fun at_1 => dS (e 7) fun out_7 => dI .i64 (e 8) fun count_8 => dI .i64 (e 9) fun jumps_9 => dI .i64 (e 10) fun end_10 => dI .i64 (e 11) fun begin_11 => Kn1 (at_1, out_7, count_8, jumps_9, end_10, begin_11) h) (fun Kn1 e h hk => by
  have F := Ag.nil (e := e)
  have ⟨at_1, F, hk⟩ := eI F hk
  have ⟨out_7, F, hk⟩ := eS F hk
  have ⟨count_8, F, hk⟩ := eI F hk
  have ⟨jumps_9, F, hk⟩ := eI F hk
  have ⟨end_10, F, hk⟩ := eI F hk
  have ⟨begin_11, F, hk⟩ := eI F hk
  exact ⟨(at_1, out_7, count_8, jumps_9, end_10, begin_11), F, hk⟩)
  (fun Kn1 => [(52, fun e h => dS (e 7) fun out_7 => dI .i64 (e 10) fun end_10 => ref29_name_b2 out_7 end_10 Q Kn1 h), (72, fun e h => dS (e 0) fun s_0 => dS (e 7) fun out_7 => dI .i64 (e 8) fun count_8 => dI .i64 (e 9) fun jumps_9 => dI .i64 (e 10) fun end_10 => dI .i64 (e 13) fun to_13 => ref29_name_b3 s_0 out_7 count_8 jumps_9 end_10 to_13 Q Kn1 h), (22, fun e h => dS (e 0) fun s_0 => dI .i64 (e 1) fun at_1 => dS (e 7) fun out_7 => dI .i64 (e 8) fun count_8 => dI .i64 (e 9) fun jumps_9 => dI .i64 (e 10) fun end_10 => dI .i64 (e 11) fun begin_11 => dI .i64 (e 12) fun n_12 => ref29_name_b4 s_0 at_1 out_7 count_8 jumps_9 end_10 begin_11 n_12 Q Kn1 h), (42, fun e h => dS (e 0) fun s_0 => dI .i64 (e 1) fun at_1 => dS (e 7) fun out_7 => dI .i64 (e 8) fun count_8 => dI .i64 (e 9) fun jumps_9 => dI .i64 (e 10) fun end_10 => dI .i64 (e 11) fun begin_11 => dI .i64 (e 12) fun n_12 => ref29_name_b6 s_0 at_1 out_7 count_8 jumps_9 end_10 begin_11 n_12 Q Kn1 h)]) (fun Kn1 => [(30, fun e h => dS (e 0) fun s_0 => dI .i64 (e 1) fun at_1 => dS (e 7) fun out_7 => dI .i64 (e 8) fun count_8 => dI .i64 (e 9) fun jumps_9 => dI .i64 (e 10) fun end_10 => dI .i64 (e 11) fun begin_11 => dI .i64 (e 12) fun n_12 => dI .i64 (e 14) fun i_14 => LoopV (fun (s : Int) h Kn => ref29_name_l5 s_0 at_1 out_7 count_8 jumps_9 end_10 begin_11 n_12 Q Kn1 s h Kn) i_14 h)])
  (fun Kn1 => ⟨fun e h _ hk => by
 have F := Ag.nil (e := e)
 have ⟨out_7, F, hk⟩ := eS F hk
 have ⟨end_10, F, hk⟩ := eI F hk
 exact cutU F (by as_aux_lemma => kernel_rfl) hk, fun e h _ hk => by
 have F := Ag.nil (e := e)
 have ⟨s_0, F, hk⟩ := eS F hk
 have ⟨out_7, F, hk⟩ := eS F hk
 have ⟨count_8, F, hk⟩ := eI F hk
 have ⟨jumps_9, F, hk⟩ := eI F hk
 have ⟨end_10, F, hk⟩ := eI F hk
 have ⟨to_13, F, hk⟩ := eI F hk
 exact cutU F (by as_aux_lemma => kernel_rfl) hk, fun e h _ hk => by
 have F := Ag.nil (e := e)
 have ⟨s_0, F, hk⟩ := eS F hk
 have ⟨at_1, F, hk⟩ := eI F hk
 have ⟨out_7, F, hk⟩ := eS F hk
 have ⟨count_8, F, hk⟩ := eI F hk
 have ⟨jumps_9, F, hk⟩ := eI F hk
 have ⟨end_10, F, hk⟩ := eI F hk
 have ⟨begin_11, F, hk⟩ := eI F hk
 have ⟨n_12, F, hk⟩ := eI F hk
 exact cutU F (by as_aux_lemma => kernel_rfl) hk, fun e h _ hk => by
 have F := Ag.nil (e := e)
 have ⟨s_0, F, hk⟩ := eS F hk
 have ⟨at_1, F, hk⟩ := eI F hk
 have ⟨out_7, F, hk⟩ := eS F hk
 have ⟨count_8, F, hk⟩ := eI F hk
 have ⟨jumps_9, F, hk⟩ := eI F hk
 have ⟨end_10, F, hk⟩ := eI F hk
 have ⟨begin_11, F, hk⟩ := eI F hk
 have ⟨n_12, F, hk⟩ := eI F hk
 exact cutU F (by as_aux_lemma => kernel_rfl) hk, trivial⟩)
  (fun Kn1 => ⟨⟨by kernel_rfl, fun e h he hk => by
 have F := Ag.nil (e := e)
 have ⟨s_0, F, hk⟩ := eS F hk
 have ⟨at_1, F, hk⟩ := eI F hk
 have ⟨out_7, F, hk⟩ := eS F hk
 have ⟨count_8, F, hk⟩ := eI F hk
 have ⟨jumps_9, F, hk⟩ := eI F hk
 have ⟨end_10, F, hk⟩ := eI F hk
 have ⟨begin_11, F, hk⟩ := eI F hk
 have ⟨n_12, F, hk⟩ := eI F hk
 have ⟨i_14, F, hk⟩ := eI F hk
 exact loopU (s0 := i_14) follows (keep_sub (by kernel_rfl)) he F (fun s => [(14, .int .i64 s)]) (by kernel_rfl) (F.take 1) hk (fun Kn5 e h => dI .i64 (e 14) fun i_14 => Kn5 i_14 h) (fun Kn5 e h hk => by
  have F := Ag.nil (e := e)
  have ⟨i_14, F, hk⟩ := eI F hk
  exact ⟨i_14, F, hk⟩)
  (fun Kn5 => []) (fun Kn5 => [])
  (fun Kn5 => trivial)
  (fun Kn5 => trivial) (fun e s h Kn5 => by as_aux_lemma => kernel_rfl)⟩, trivial⟩) (fun e s h Kn1 => by as_aux_lemma => kernel_rfl)⟩, trivial⟩ (by as_aux_lemma => kernel_rfl) hk
/-! ### intrusion/intrusionref29.named -/
def ref29_named_v (kind_0 : Int) (Q : QT) (h : Heap) : Prop :=
 if (kind_0 == 2) = true then (if (kind_0 == 2) = true then (Q (.int .i64 0) h) else (if (kind_0 == 15) = true then (Q (.int .i64 2) h) else (Q (.int .i64 (-1)) h))) else (if (kind_0 == 5) = true then (if (kind_0 == 5) = true then (Q (.int .i64 0) h) else (if (kind_0 == 15) = true then (Q (.int .i64 2) h) else (Q (.int .i64 (-1)) h))) else (if (kind_0 == 12) = true then (Q (.int .i64 0) h) else (if (kind_0 == 15) = true then (Q (.int .i64 2) h) else (Q (.int .i64 (-1)) h))))
set_option maxRecDepth 100000 in
theorem ref29_named_s (kind_0 : Int) {Q : QT} {h : Heap} (hk : ref29_named_v kind_0 Q h) : CallT Tryd.prog fn_ref29_named #[.int .i64 kind_0] h Q :=
 callU follows Tryd.func49 (Tryd.call49 _) rfl rfl [] []
 trivial
 trivial (by as_aux_lemma => kernel_rfl) hk
/-! ### intrusion/dns.check -/
def dns_check_b4 (x_6 : Addr) (t46a : Option Addr) (t46n t46c : Nat) (t47 t48 : Int) (Q : QT) (Kn3 : Int → Heap → Prop) (h : Heap) : Prop :=
 ldI h (Addr.add x_6 1) .i64 fun t70 => ldS h (Addr.add x_6 3) fun t72 => CallT Tryd.prog fn_dns_named #[.int .i64 t70, .string t72] h fun v h12 => ∃ t73 : Bool, v = .bool t73 ∧ if (!t73) = true then (Q (.int .i64 5) h12) else (ldS h12 (Addr.add x_6 3) fun t77 => if (decide (((t77.size : Nat) : Int) > 65535)) = true then (Q (.int .i64 3) h12) else (Kn3 (wrap .i64 (t48 + 1)) h12))
def dns_check_l3 (t46a : Option Addr) (t46n t46c : Nat) (t47 : Int) (Q : QT) (t48 : Int) (h : Heap) (Kn3 : Int → Heap → Prop) : Prop :=
 if (decide (t48 < t47)) = true then (idxA t48 t46n (nn t46a fun t50 => ldS h (Addr.add t50 ((t48).toNat * 4)) fun t51_0 => ldI h (Addr.add (Addr.add t50 ((t48).toNat * 4)) 1) .i64 fun t51_1 => ldI h (Addr.add (Addr.add t50 ((t48).toNat * 4)) 2) .i64 fun t51_2 => ldS h (Addr.add (Addr.add t50 ((t48).toNat * 4)) 3) fun t51_3 => alV h (.cells #[.string (⟨#[]⟩ : ByteArray), .int .i64 0, .int .i64 0, .string (⟨#[]⟩ : ByteArray)] T_api_DnsRecord) fun t6 h8 => stN h8 t6 [.string t51_0, .int .i64 t51_1, .int .i64 t51_2, .string t51_3] 0 fun h9 => ldS h9 t6 fun t54 => CallT Tryd.prog fn_dns_IsName #[.string t54] h9 fun v h10 => ∃ t55 : Bool, v = .bool t55 ∧ if (!t55) = true then (Q (.int .i64 5) h10) else (ldI h10 (Addr.add t6 1) .i64 fun t59 => CallT Tryd.prog fn_dns_word #[.int .i64 t59] h10 fun v h11 => ∃ t60 : Bool, v = .bool t60 ∧ if (!t60) = true then (if (!t60) = true then (Q (.int .i64 4) h11) else (dns_check_b4 t6 t46a t46n t46c t47 t48 Q Kn3 h11)) else (ldI h11 (Addr.add t6 2) .i64 fun t63 => if (decide (t63 < 0)) = true then (if (decide (t63 < 0)) = true then (Q (.int .i64 4) h11) else (dns_check_b4 t6 t46a t46n t46c t47 t48 Q Kn3 h11)) else (ldI h11 (Addr.add t6 2) .i64 fun t66 => if (decide (t66 > 4294967295)) = true then (Q (.int .i64 4) h11) else (dns_check_b4 t6 t46a t46n t46c t47 t48 Q Kn3 h11)))))) else (Q (.int .i64 0) h)
def dns_check_b2 (d_1 : Addr) (Q : QT) (h : Heap) : Prop :=
 ldL h (Addr.add d_1 3) fun t46a t46n t46c => LoopV (fun (s : Int) h Kn => dns_check_l3 t46a t46n t46c ((t46n : Nat) : Int) Q s h Kn) 0 h
def dns_check_l1 (d_1 : Addr) (t28a : Option Addr) (t28n t28c : Nat) (t29 : Int) (Q : QT) (t30 : Int) (h : Heap) (Kn1 : Int → Heap → Prop) : Prop :=
 if (decide (t30 < t29)) = true then (idxA t30 t28n (nn t28a fun t32 => ldS h (Addr.add t32 ((t30).toNat * 2)) fun t33_0 => ldI h (Addr.add (Addr.add t32 ((t30).toNat * 2)) 1) .i64 fun t33_1 => alV h (.cells #[.string (⟨#[]⟩ : ByteArray), .int .i64 0] T_api_DnsQuestion) fun t4 h4 => stN h4 t4 [.string t33_0, .int .i64 t33_1] 0 fun h5 => ldS h5 t4 fun t36 => CallT Tryd.prog fn_dns_IsName #[.string t36] h5 fun v h6 => ∃ t37 : Bool, v = .bool t37 ∧ if (!t37) = true then (Q (.int .i64 5) h6) else (ldI h6 (Addr.add t4 1) .i64 fun t41 => CallT Tryd.prog fn_dns_word #[.int .i64 t41] h6 fun v h7 => ∃ t42 : Bool, v = .bool t42 ∧ if (!t42) = true then (Q (.int .i64 4) h7) else (Kn1 (wrap .i64 (t30 + 1)) h7)))) else (dns_check_b2 d_1 Q h)
def dns_check_v (d_0_0 d_0_1 : Int) (d_0_2a : Option Addr) (d_0_2n d_0_2c : Nat) (d_0_3a : Option Addr) (d_0_3n d_0_3c : Nat) (Q : QT) (h : Heap) : Prop :=
 alV h (.cells #[.int .i64 d_0_0, .int .i64 d_0_1, .slice d_0_2a d_0_2n d_0_2c, .slice d_0_3a d_0_3n d_0_3c] T_api_Dns) fun t1 h1 => ldL h1 (Addr.add t1 2) fun t8a t8n t8c => if (decide (((t8n : Nat) : Int) > 8)) = true then (Q (.int .i64 3) h1) else (ldL h1 (Addr.add t1 3) fun t13a t13n t13c => if (decide (((t13n : Nat) : Int) > 32)) = true then (Q (.int .i64 3) h1) else (ldI h1 t1 .i64 fun t18 => CallT Tryd.prog fn_dns_word #[.int .i64 t18] h1 fun v h2 => ∃ t19 : Bool, v = .bool t19 ∧ if (!t19) = true then (Q (.int .i64 4) h2) else (ldI h2 (Addr.add t1 1) .i64 fun t23 => CallT Tryd.prog fn_dns_word #[.int .i64 t23] h2 fun v h3 => ∃ t24 : Bool, v = .bool t24 ∧ if (!t24) = true then (Q (.int .i64 4) h3) else (ldL h3 (Addr.add t1 2) fun t28a t28n t28c => LoopV (fun (s : Int) h Kn => dns_check_l1 t1 t28a t28n t28c ((t28n : Nat) : Int) Q s h Kn) 0 h3))))
set_option maxRecDepth 100000 in
theorem dns_check_s (d_0_0 d_0_1 : Int) (d_0_2a : Option Addr) (d_0_2n d_0_2c : Nat) (d_0_3a : Option Addr) (d_0_3n d_0_3c : Nat) {Q : QT} {h : Heap} (hk : dns_check_v d_0_0 d_0_1 d_0_2a d_0_2n d_0_2c d_0_3a d_0_3n d_0_3c Q h) : CallT Tryd.prog fn_dns_check #[.agg #[.int .i64 d_0_0, .int .i64 d_0_1, .slice d_0_2a d_0_2n d_0_2c, .slice d_0_3a d_0_3n d_0_3c]] h Q :=
 callU follows Tryd.func50 (Tryd.call50 _) rfl rfl [(28, fun e h => dA (e 1) fun d_1 => dns_check_b2 d_1 Q h)] [(14, fun e h => dA (e 1) fun d_1 => dL (e 28) fun t28a t28n t28c => dI .i64 (e 29) fun t29 => dI .i64 (e 30) fun t30 => LoopV (fun (s : Int) h Kn => dns_check_l1 d_1 t28a t28n t28c t29 Q s h Kn) t30 h), (30, fun e h => dL (e 46) fun t46a t46n t46c => dI .i64 (e 47) fun t47 => dI .i64 (e 48) fun t48 => LoopV (fun (s : Int) h Kn => dns_check_l3 t46a t46n t46c t47 Q s h Kn) t48 h)]
 ⟨fun e h _ hk => by
 have F := Ag.nil (e := e)
 have ⟨d_1, F, hk⟩ := eA F hk
 exact cutU F (by as_aux_lemma => kernel_rfl) hk, trivial⟩
 ⟨⟨by kernel_rfl, fun e h he hk => by
 have F := Ag.nil (e := e)
 have ⟨d_1, F, hk⟩ := eA F hk
 have ⟨t28a, t28n, t28c, F, hk⟩ := eL F hk
 have ⟨t29, F, hk⟩ := eI F hk
 have ⟨t30, F, hk⟩ := eI F hk
 exact loopU (s0 := t30) follows (fun _ h => by cases h) he F (fun s => [(30, .int .i64 s)]) (by kernel_rfl) (F.take 1) hk (fun Kn1 e h => dI .i64 (e 30) fun t30 => Kn1 t30 h) (fun Kn1 e h hk => by
  have F := Ag.nil (e := e)
  have ⟨t30, F, hk⟩ := eI F hk
  exact ⟨t30, F, hk⟩)
  (fun Kn1 => []) (fun Kn1 => [])
  (fun Kn1 => trivial)
  (fun Kn1 => trivial) (fun e s h Kn1 => by as_aux_lemma => kernel_rfl)⟩, ⟨by kernel_rfl, fun e h he hk => by
 have F := Ag.nil (e := e)
 have ⟨t46a, t46n, t46c, F, hk⟩ := eL F hk
 have ⟨t47, F, hk⟩ := eI F hk
 have ⟨t48, F, hk⟩ := eI F hk
 exact loopU (s0 := t48) follows (fun _ h => by cases h) he F (fun s => [(48, .int .i64 s)]) (by kernel_rfl) (F.take 1) hk (fun Kn3 e h => dI .i64 (e 48) fun t48 => Kn3 t48 h) (fun Kn3 e h hk => by
  have F := Ag.nil (e := e)
  have ⟨t48, F, hk⟩ := eI F hk
  exact ⟨t48, F, hk⟩)
  (fun Kn3 => [(47, fun e h => dA (e 6) fun x_6 => dL (e 46) fun t46a t46n t46c => dI .i64 (e 47) fun t47 => dI .i64 (e 48) fun t48 => dns_check_b4 x_6 t46a t46n t46c t47 t48 Q Kn3 h)]) (fun Kn3 => [])
  (fun Kn3 => ⟨fun e h _ hk => by
 have F := Ag.nil (e := e)
 have ⟨x_6, F, hk⟩ := eA F hk
 have ⟨t46a, t46n, t46c, F, hk⟩ := eL F hk
 have ⟨t47, F, hk⟩ := eI F hk
 have ⟨t48, F, hk⟩ := eI F hk
 exact cutU F (by as_aux_lemma => kernel_rfl) hk, trivial⟩)
  (fun Kn3 => trivial) (fun e s h Kn3 => by as_aux_lemma => kernel_rfl)⟩, trivial⟩ (by as_aux_lemma => kernel_rfl) hk
/-! ### (*intrusion/dns.writer).number -/
def dns_writer_number_v (w_0 : Option Addr) (n_1 size_2 : Int) (Q : QT) (h : Heap) : Prop :=
 nn w_0 fun t8 => ldL h t8 fun t10a t10n t10c => CallT Tryd.prog fn_field_Put #[.int .i64 n_1, .int .i64 size_2] h fun v h1 => ∃ t13 : ByteArray, v = .string t13 ∧ (ldL h1 t8 fun t910a t910n t910c => (.slice t910a t910n t910c : Value) = .slice t10a t10n t10c) ∧ bltV Tryd.prog .append #[T_sl_uint8, T_string] T_sl_uint8 #[false, false] #[.slice t10a t10n t10c, .string t13] h1 fun v h2 => ∃ t14a : Option Addr, ∃ t14n : Nat, ∃ t14c : Nat, v = .slice t14a t14n t14c ∧ nn w_0 fun t15 => st1 h2 t15 (.slice t14a t14n t14c) fun h3 => Q (.tuple #[]) h3
set_option maxRecDepth 100000 in
theorem dns_writer_number_s (w_0 : Option Addr) (n_1 size_2 : Int) {Q : QT} {h : Heap} (hk : dns_writer_number_v w_0 n_1 size_2 Q h) : CallT Tryd.prog fn_dns_writer_number #[.pointer w_0, .int .i64 n_1, .int .i64 size_2] h Q :=
 callU follows Tryd.func51 (Tryd.call51 _) rfl rfl [] []
 trivial
 trivial (by as_aux_lemma => kernel_rfl) hk
/-! ### (*intrusion/dns.writer).name -/
def dns_writer_name_b2 (w_0 : Option Addr) (s_1 : ByteArray) (Q : QT) (Kn1 : ByteArray → Heap → Prop) (h : Heap) : Prop :=
 CallT Tryd.prog fn_strings_Cut #[.string s_1, .string (⟨#[46]⟩ : ByteArray)] h fun v h4 => ∃ t50_0 : ByteArray, ∃ t50_1 : ByteArray, ∃ t50_2 : Bool, v = .tuple #[.string t50_0, .string t50_1, .bool t50_2] ∧ CallT Tryd.prog fn_dns_writer_number #[.pointer w_0, .int .i64 ((t50_0.size : Nat) : Int), .int .i64 1] h4 fun v h5 => v = .tuple #[] ∧ nn w_0 fun t60 => ldL h5 t60 fun t62a t62n t62c => bltV Tryd.prog .append #[T_sl_uint8, T_string] T_sl_uint8 #[false, false] #[.slice t62a t62n t62c, .string t50_0] h5 fun v h6 => ∃ t64a : Option Addr, ∃ t64n : Nat, ∃ t64c : Nat, v = .slice t64a t64n t64c ∧ nn w_0 fun t65 => st1 h6 t65 (.slice t64a t64n t64c) fun h7 => Kn1 t50_1 h7
def dns_writer_name_b3 (w_0 : Option Addr) (Q : QT) (h : Heap) : Prop :=
 CallT Tryd.prog fn_dns_writer_number #[.pointer w_0, .int .i64 0, .int .i64 1] h fun v h8 => v = .tuple #[] ∧ Q (.tuple #[]) h8
def dns_writer_name_l1 (w_0 : Option Addr) (Q : QT) (s_1 : ByteArray) (h : Heap) (Kn1 : ByteArray → Heap → Prop) : Prop :=
 if (!(s_1.toList == (⟨#[]⟩ : ByteArray).toList)) = true then (nn w_0 fun t13 => ldM h (Addr.add t13 1) fun t15 => lookV Tryd.prog T_map_string_int (.map t15) (.string s_1) true h fun v h1 => ∃ t17_0 : Int, ∃ t17_1 : Bool, v = .tuple #[.int .i64 t17_0, .bool t17_1] ∧ if t17_1 = true then (CallT Tryd.prog fn_dns_writer_number #[.pointer w_0, .int .i64 (wrap .i64 (BitVec.toNat (BitVec.ofInt (IntKind.bits .i64) 49152 ||| BitVec.ofInt (IntKind.bits .i64) t17_0) : Int)), .int .i64 2] h1 fun v h2 => v = .tuple #[] ∧ Q (.tuple #[]) h2) else (nn w_0 fun t26 => ldM h1 (Addr.add t26 1) fun t28 => if (!(Option.isNone t28)) = true then (nn w_0 fun t32 => ldL h1 t32 fun t34a t34n t34c => if (decide (((t34n : Nat) : Int) < 16384)) = true then (nn w_0 fun t39 => ldM h1 (Addr.add t39 1) fun t41 => nn w_0 fun t44 => ldL h1 t44 fun t46a t46n t46c => mapUpdV Tryd.prog T_map_string_int (.map t41) (.string s_1) (.int .i64 ((t46n : Nat) : Int)) h1 fun h3 => dns_writer_name_b2 w_0 s_1 Q Kn1 h3) else (dns_writer_name_b2 w_0 s_1 Q Kn1 h1)) else (dns_writer_name_b2 w_0 s_1 Q Kn1 h1))) else (dns_writer_name_b3 w_0 Q h)
def dns_writer_name_v (w_0 : Option Addr) (s_1 : ByteArray) (Q : QT) (h : Heap) : Prop :=
 LoopV (fun (s : ByteArray) h Kn => dns_writer_name_l1 w_0 Q s h Kn) s_1 h
set_option maxRecDepth 100000 in
theorem dns_writer_name_s (w_0 : Option Addr) (s_1 : ByteArray) {Q : QT} {h : Heap} (hk : dns_writer_name_v w_0 s_1 Q h) : CallT Tryd.prog fn_dns_writer_name #[.pointer w_0, .string s_1] h Q :=
 callU follows Tryd.func52 (Tryd.call52 _) rfl rfl [(22, fun e h => dP (e 0) fun w_0 => dns_writer_name_b3 w_0 Q h)] [(2, fun e h => dP (e 0) fun w_0 => dS (e 1) fun s_1 => LoopV (fun (s : ByteArray) h Kn => dns_writer_name_l1 w_0 Q s h Kn) s_1 h)]
 ⟨fun e h _ hk => by
 have F := Ag.nil (e := e)
 have ⟨w_0, F, hk⟩ := eP F hk
 exact cutU F (by as_aux_lemma => kernel_rfl) hk, trivial⟩
 ⟨⟨by kernel_rfl, fun e h he hk => by
 have F := Ag.nil (e := e)
 have ⟨w_0, F, hk⟩ := eP F hk
 have ⟨s_1, F, hk⟩ := eS F hk
 exact loopU (s0 := s_1) follows (fun _ h => by cases h) he F (fun s => [(1, .string s)]) (by kernel_rfl) (F.take 1) hk (fun Kn1 e h => dS (e 1) fun s_1 => Kn1 s_1 h) (fun Kn1 e h hk => by
  have F := Ag.nil (e := e)
  have ⟨s_1, F, hk⟩ := eS F hk
  exact ⟨s_1, F, hk⟩)
  (fun Kn1 => [(14, fun e h => dP (e 0) fun w_0 => dS (e 1) fun s_1 => dns_writer_name_b2 w_0 s_1 Q Kn1 h)]) (fun Kn1 => [])
  (fun Kn1 => ⟨fun e h _ hk => by
 have F := Ag.nil (e := e)
 have ⟨w_0, F, hk⟩ := eP F hk
 have ⟨s_1, F, hk⟩ := eS F hk
 exact cutU F (by as_aux_lemma => kernel_rfl) hk, trivial⟩)
  (fun Kn1 => trivial) (fun e s h Kn1 => by as_aux_lemma => kernel_rfl)⟩, trivial⟩ (by as_aux_lemma => kernel_rfl) hk
/-! ### intrusion/dns.lower -/
def dns_lower_l1 (out_3a : Option Addr) (out_3n out_3c : Nat) (t8a : Option Addr) (t8n t8c : Nat) (t9 : Int) (Q : QT) (t10 : Int) (h : Heap) (Kn1 : Int → Heap → Prop) : Prop :=
 if (decide (t10 < t9)) = true then (idxA t10 t8n (nn t8a fun t13 => ldI h (Addr.add t13 ((t10).toNat * 1)) .u8 fun t14 => CallT Tryd.prog fn_dns_small #[.int .u8 t14] h fun v h2 => ∃ t18 : Int, v = .int .u8 t18 ∧ idxA t10 out_3n (nn out_3a fun t19 => st1 h2 (Addr.add t19 ((t10).toNat * 1)) (.int .u8 t18) fun h3 => Kn1 (wrap .i64 (t10 + 1)) h3))) else (convV Tryd.prog T_sl_uint8 T_string (.slice out_3a out_3n out_3c) h fun v h4 => ∃ t22 : ByteArray, v = .string t22 ∧ Q (.string t22) h4)
def dns_lower_v (s_0 : ByteArray) (Q : QT) (h : Heap) : Prop :=
 convV Tryd.prog T_string T_sl_uint8 (.string s_0) h fun v h1 => ∃ t7a : Option Addr, ∃ t7n : Nat, ∃ t7c : Nat, v = .slice t7a t7n t7c ∧ LoopV (fun (s : Int) h Kn => dns_lower_l1 t7a t7n t7c t7a t7n t7c ((t7n : Nat) : Int) Q s h Kn) 0 h1
set_option maxRecDepth 100000 in
theorem dns_lower_s (s_0 : ByteArray) {Q : QT} {h : Heap} (hk : dns_lower_v s_0 Q h) : CallT Tryd.prog fn_dns_lower #[.string s_0] h Q :=
 callU follows Tryd.func53 (Tryd.call53 _) rfl rfl [] [(8, fun e h => dL (e 3) fun out_3a out_3n out_3c => dL (e 8) fun t8a t8n t8c => dI .i64 (e 9) fun t9 => dI .i64 (e 10) fun t10 => LoopV (fun (s : Int) h Kn => dns_lower_l1 out_3a out_3n out_3c t8a t8n t8c t9 Q s h Kn) t10 h)]
 trivial
 ⟨⟨by kernel_rfl, fun e h he hk => by
 have F := Ag.nil (e := e)
 have ⟨out_3a, out_3n, out_3c, F, hk⟩ := eL F hk
 have ⟨t8a, t8n, t8c, F, hk⟩ := eL F hk
 have ⟨t9, F, hk⟩ := eI F hk
 have ⟨t10, F, hk⟩ := eI F hk
 exact loopU (s0 := t10) follows (fun _ h => by cases h) he F (fun s => [(10, .int .i64 s)]) (by kernel_rfl) (F.take 1) hk (fun Kn1 e h => dI .i64 (e 10) fun t10 => Kn1 t10 h) (fun Kn1 e h hk => by
  have F := Ag.nil (e := e)
  have ⟨t10, F, hk⟩ := eI F hk
  exact ⟨t10, F, hk⟩)
  (fun Kn1 => []) (fun Kn1 => [])
  (fun Kn1 => trivial)
  (fun Kn1 => trivial) (fun e s h Kn1 => by as_aux_lemma => kernel_rfl)⟩, trivial⟩ (by as_aux_lemma => kernel_rfl) hk
/-! ### (*intrusion/dns.writer).data -/
def dns_writer_data_b1 (w_0 : Option Addr) (at_6 : Int) (Q : QT) (h : Heap) : Prop :=
 nn w_0 fun t50 => ldL h t50 fun t52a t52n t52c => sliceSl 1 t52a t52n t52c (some at_6) none none fun t54a t54n t54c => nn w_0 fun t56 => ldL h t56 fun t58a t58n t58c => CallT Tryd.prog fn_field_Put #[.int .i64 (wrap .i64 ((wrap .i64 (((t58n : Nat) : Int) - at_6)) - 2)), .int .i64 2] h fun v h12 => ∃ t63 : ByteArray, v = .string t63 ∧ (ldL h12 t50 fun t952a t952n t952c => (.slice t952a t952n t952c : Value) = .slice t52a t52n t52c) ∧ bltV Tryd.prog .copy #[T_sl_uint8, T_string] T_int #[false, false] #[.slice t54a t54n t54c, .string t63] h12 fun v h13 => ∃ t64 : Int, v = .int .i64 t64 ∧ Q (.tuple #[]) h13
def dns_writer_data_b2 (w_0 : Option Addr) (s_2 : ByteArray) (at_6 : Int) (Q : QT) (h : Heap) : Prop :=
 nn w_0 fun t17 => ldL h t17 fun t19a t19n t19c => bltV Tryd.prog .append #[T_sl_uint8, T_string] T_sl_uint8 #[false, false] #[.slice t19a t19n t19c, .string s_2] h fun v h14 => ∃ t21a : Option Addr, ∃ t21n : Nat, ∃ t21c : Nat, v = .slice t21a t21n t21c ∧ nn w_0 fun t22 => st1 h14 t22 (.slice t21a t21n t21c) fun h15 => dns_writer_data_b1 w_0 at_6 Q h15
def dns_writer_data_v (w_0 : Option Addr) (kind_1 : Int) (s_2 : ByteArray) (Q : QT) (h : Heap) : Prop :=
 nn w_0 fun t8 => ldL h t8 fun t10a t10n t10c => CallT Tryd.prog fn_dns_writer_number #[.pointer w_0, .int .i64 0, .int .i64 2] h fun v h1 => v = .tuple #[] ∧ if (kind_1 == 15) = true then (nn w_0 fun t28 => ldL h1 t28 fun t30a t30n t30c => sliceStr s_2 none (some (2 : Int)) fun t32 => bltV Tryd.prog .append #[T_sl_uint8, T_string] T_sl_uint8 #[false, false] #[.slice t30a t30n t30c, .string t32] h1 fun v h2 => ∃ t33a : Option Addr, ∃ t33n : Nat, ∃ t33c : Nat, v = .slice t33a t33n t33c ∧ nn w_0 fun t34 => st1 h2 t34 (.slice t33a t33n t33c) fun h3 => sliceStr s_2 (some (2 : Int)) none fun t38 => CallT Tryd.prog fn_dns_lower #[.string t38] h3 fun v h4 => ∃ t39 : ByteArray, v = .string t39 ∧ CallT Tryd.prog fn_dns_writer_name #[.pointer w_0, .string t39] h4 fun v h5 => v = .tuple #[] ∧ dns_writer_data_b1 w_0 ((t10n : Nat) : Int) Q h5) else (if (kind_1 == 2) = true then (if (kind_1 == 2) = true then (CallT Tryd.prog fn_dns_lower #[.string s_2] h1 fun v h6 => ∃ t47 : ByteArray, v = .string t47 ∧ CallT Tryd.prog fn_dns_writer_name #[.pointer w_0, .string t47] h6 fun v h7 => v = .tuple #[] ∧ dns_writer_data_b1 w_0 ((t10n : Nat) : Int) Q h7) else (dns_writer_data_b2 w_0 s_2 ((t10n : Nat) : Int) Q h1)) else (if (kind_1 == 5) = true then (if (kind_1 == 5) = true then (CallT Tryd.prog fn_dns_lower #[.string s_2] h1 fun v h8 => ∃ t47 : ByteArray, v = .string t47 ∧ CallT Tryd.prog fn_dns_writer_name #[.pointer w_0, .string t47] h8 fun v h9 => v = .tuple #[] ∧ dns_writer_data_b1 w_0 ((t10n : Nat) : Int) Q h9) else (dns_writer_data_b2 w_0 s_2 ((t10n : Nat) : Int) Q h1)) else (if (kind_1 == 12) = true then (CallT Tryd.prog fn_dns_lower #[.string s_2] h1 fun v h10 => ∃ t47 : ByteArray, v = .string t47 ∧ CallT Tryd.prog fn_dns_writer_name #[.pointer w_0, .string t47] h10 fun v h11 => v = .tuple #[] ∧ dns_writer_data_b1 w_0 ((t10n : Nat) : Int) Q h11) else (dns_writer_data_b2 w_0 s_2 ((t10n : Nat) : Int) Q h1))))
set_option maxRecDepth 100000 in
theorem dns_writer_data_s (w_0 : Option Addr) (kind_1 : Int) (s_2 : ByteArray) {Q : QT} {h : Heap} (hk : dns_writer_data_v w_0 kind_1 s_2 Q h) : CallT Tryd.prog fn_dns_writer_data #[.pointer w_0, .int .i64 kind_1, .string s_2] h Q :=
 callU follows Tryd.func54 (Tryd.call54 _) rfl rfl [(24, fun e h => dP (e 0) fun w_0 => dI .i64 (e 6) fun at_6 => dns_writer_data_b1 w_0 at_6 Q h), (9, fun e h => dP (e 0) fun w_0 => dS (e 2) fun s_2 => dI .i64 (e 6) fun at_6 => dns_writer_data_b2 w_0 s_2 at_6 Q h)] []
 ⟨fun e h _ hk => by
 have F := Ag.nil (e := e)
 have ⟨w_0, F, hk⟩ := eP F hk
 have ⟨at_6, F, hk⟩ := eI F hk
 exact cutU F (by as_aux_lemma => kernel_rfl) hk, fun e h _ hk => by
 have F := Ag.nil (e := e)
 have ⟨w_0, F, hk⟩ := eP F hk
 have ⟨s_2, F, hk⟩ := eS F hk
 have ⟨at_6, F, hk⟩ := eI F hk
 exact cutU F (by as_aux_lemma => kernel_rfl) hk, trivial⟩
 trivial (by as_aux_lemma => kernel_rfl) hk
/-! ### intrusion/intrusionref29.check -/
def ref29_check_l3 (d_1 : Addr) (Q : QT) (i_4 : Int) (h : Heap) (Kn3 : Int → Heap → Prop) : Prop :=
 ldL h (Addr.add d_1 3) fun t52a t52n t52c => if (decide (i_4 < ((t52n : Nat) : Int))) = true then (ldL h (Addr.add d_1 3) fun t58a t58n t58c => idxA i_4 t58n (nn t58a fun t60 => ldS h (Addr.add t60 ((i_4).toNat * 4)) fun t61_0 => ldI h (Addr.add (Addr.add t60 ((i_4).toNat * 4)) 1) .i64 fun t61_1 => ldI h (Addr.add (Addr.add t60 ((i_4).toNat * 4)) 2) .i64 fun t61_2 => ldS h (Addr.add (Addr.add t60 ((i_4).toNat * 4)) 3) fun t61_3 => alV h (.cells #[.string (⟨#[]⟩ : ByteArray), .int .i64 0, .int .i64 0, .string (⟨#[]⟩ : ByteArray)] T_api_DnsRecord) fun t5 h6 => stN h6 t5 [.string t61_0, .int .i64 t61_1, .int .i64 t61_2, .string t61_3] 0 fun h7 => ldI h7 (Addr.add t5 1) .i64 fun t63 => CallT Tryd.prog fn_ref29_named #[.int .i64 t63] h7 fun v h8 => ∃ t64 : Int, v = .int .i64 t64 ∧ ldS h8 t5 fun t67 => CallT Tryd.prog fn_ref29_IsName #[.string t67] h8 fun v h9 => ∃ t68 : Bool, v = .bool t68 ∧ if (!t68) = true then (Q (.int .i64 5) h9) else (ldI h9 (Addr.add t5 1) .i64 fun t72 => CallT Tryd.prog fn_ref29_word #[.int .i64 t72] h9 fun v h10 => ∃ t73 : Bool, v = .bool t73 ∧ if (!t73) = true then (Q (.int .i64 4) h10) else (ldI h10 (Addr.add t5 2) .i64 fun t77 => if (decide (t77 < 0)) = true then (Q (.int .i64 4) h10) else (ldI h10 (Addr.add t5 2) .i64 fun t82 => if (decide (t82 > 4294967295)) = true then (Q (.int .i64 4) h10) else (ldS h10 (Addr.add t5 3) fun t88 => if (decide (t64 > ((t88.size : Nat) : Int))) = true then (Q (.int .i64 5) h10) else (if (decide (t64 ≥ 0)) = true then (ldS h10 (Addr.add t5 3) fun t96 => sliceStr t96 (some t64) none fun t98 => CallT Tryd.prog fn_ref29_IsName #[.string t98] h10 fun v h11 => ∃ t99 : Bool, v = .bool t99 ∧ if (!t99) = true then (Q (.int .i64 5) h11) else (ldS h11 (Addr.add t5 3) fun t105 => if (decide (((t105.size : Nat) : Int) > 65535)) = true then (Q (.int .i64 3) h11) else (Kn3 (wrap .i64 (i_4 + 1)) h11))) else (ldS h10 (Addr.add t5 3) fun t105 => if (decide (((t105.size : Nat) : Int) > 65535)) = true then (Q (.int .i64 3) h10) else (Kn3 (wrap .i64 (i_4 + 1)) h10))))))))) else (Q (.int .i64 0) h)
def ref29_check_b2 (d_1 : Addr) (Q : QT) (h : Heap) : Prop :=
 LoopV (fun (s : Int) h Kn => ref29_check_l3 d_1 Q s h Kn) 0 h
def ref29_check_l1 (d_1 : Addr) (Q : QT) (i_3 : Int) (h : Heap) (Kn1 : Int → Heap → Prop) : Prop :=
 ldL h (Addr.add d_1 2) fun t29a t29n t29c => if (decide (i_3 < ((t29n : Nat) : Int))) = true then (ldL h (Addr.add d_1 2) fun t35a t35n t35c => idxA i_3 t35n (nn t35a fun t37 => ldS h (Addr.add t37 ((i_3).toNat * 2)) fun t39 => CallT Tryd.prog fn_ref29_IsName #[.string t39] h fun v h4 => ∃ t40 : Bool, v = .bool t40 ∧ if (!t40) = true then (Q (.int .i64 5) h4) else (ldL h4 (Addr.add d_1 2) fun t43a t43n t43c => idxA i_3 t43n (nn t43a fun t45 => ldI h4 (Addr.add (Addr.add t45 ((i_3).toNat * 2)) 1) .i64 fun t47 => CallT Tryd.prog fn_ref29_word #[.int .i64 t47] h4 fun v h5 => ∃ t48 : Bool, v = .bool t48 ∧ if (!t48) = true then (Q (.int .i64 4) h5) else (Kn1 (wrap .i64 (i_3 + 1)) h5))))) else (ref29_check_b2 d_1 Q h)
def ref29_check_v (d_0_0 d_0_1 : Int) (d_0_2a : Option Addr) (d_0_2n d_0_2c : Nat) (d_0_3a : Option Addr) (d_0_3n d_0_3c : Nat) (Q : QT) (h : Heap) : Prop :=
 alV h (.cells #[.int .i64 d_0_0, .int .i64 d_0_1, .slice d_0_2a d_0_2n d_0_2c, .slice d_0_3a d_0_3n d_0_3c] T_api_Dns) fun t1 h1 => ldL h1 (Addr.add t1 2) fun t8a t8n t8c => if (decide (((t8n : Nat) : Int) > 8)) = true then (Q (.int .i64 3) h1) else (ldL h1 (Addr.add t1 3) fun t13a t13n t13c => if (decide (((t13n : Nat) : Int) > 32)) = true then (Q (.int .i64 3) h1) else (ldI h1 t1 .i64 fun t18 => CallT Tryd.prog fn_ref29_word #[.int .i64 t18] h1 fun v h2 => ∃ t19 : Bool, v = .bool t19 ∧ if (!t19) = true then (Q (.int .i64 4) h2) else (ldI h2 (Addr.add t1 1) .i64 fun t23 => CallT Tryd.prog fn_ref29_word #[.int .i64 t23] h2 fun v h3 => ∃ t24 : Bool, v = .bool t24 ∧ if (!t24) = true then (Q (.int .i64 4) h3) else (LoopV (fun (s : Int) h Kn => ref29_check_l1 t1 Q s h Kn) 0 h3))))
set_option maxRecDepth 100000 in
theorem ref29_check_s (d_0_0 d_0_1 : Int) (d_0_2a : Option Addr) (d_0_2n d_0_2c : Nat) (d_0_3a : Option Addr) (d_0_3n d_0_3c : Nat) {Q : QT} {h : Heap} (hk : ref29_check_v d_0_0 d_0_1 d_0_2a d_0_2n d_0_2c d_0_3a d_0_3n d_0_3c Q h) : CallT Tryd.prog fn_ref29_check #[.agg #[.int .i64 d_0_0, .int .i64 d_0_1, .slice d_0_2a d_0_2n d_0_2c, .slice d_0_3a d_0_3n d_0_3c]] h Q :=
 callU follows Tryd.func55 (Tryd.call55 _) rfl rfl [(26, fun e h => dA (e 1) fun d_1 => ref29_check_b2 d_1 Q h)] [(14, fun e h => dA (e 1) fun d_1 => dI .i64 (e 3) fun i_3 => LoopV (fun (s : Int) h Kn => ref29_check_l1 d_1 Q s h Kn) i_3 h), (28, fun e h => dA (e 1) fun d_1 => dI .i64 (e 4) fun i_4 => LoopV (fun (s : Int) h Kn => ref29_check_l3 d_1 Q s h Kn) i_4 h)]
 ⟨fun e h _ hk => by
 have F := Ag.nil (e := e)
 have ⟨d_1, F, hk⟩ := eA F hk
 exact cutU F (by as_aux_lemma => kernel_rfl) hk, trivial⟩
 ⟨⟨by kernel_rfl, fun e h he hk => by
 have F := Ag.nil (e := e)
 have ⟨d_1, F, hk⟩ := eA F hk
 have ⟨i_3, F, hk⟩ := eI F hk
 exact loopU (s0 := i_3) follows (fun _ h => by cases h) he F (fun s => [(3, .int .i64 s)]) (by kernel_rfl) (F.take 1) hk (fun Kn1 e h => dI .i64 (e 3) fun i_3 => Kn1 i_3 h) (fun Kn1 e h hk => by
  have F := Ag.nil (e := e)
  have ⟨i_3, F, hk⟩ := eI F hk
  exact ⟨i_3, F, hk⟩)
  (fun Kn1 => []) (fun Kn1 => [])
  (fun Kn1 => trivial)
  (fun Kn1 => trivial) (fun e s h Kn1 => by as_aux_lemma => kernel_rfl)⟩, ⟨by kernel_rfl, fun e h he hk => by
 have F := Ag.nil (e := e)
 have ⟨d_1, F, hk⟩ := eA F hk
 have ⟨i_4, F, hk⟩ := eI F hk
 exact loopU (s0 := i_4) follows (fun _ h => by cases h) he F (fun s => [(4, .int .i64 s)]) (by kernel_rfl) (F.take 1) hk (fun Kn3 e h => dI .i64 (e 4) fun i_4 => Kn3 i_4 h) (fun Kn3 e h hk => by
  have F := Ag.nil (e := e)
  have ⟨i_4, F, hk⟩ := eI F hk
  exact ⟨i_4, F, hk⟩)
  (fun Kn3 => []) (fun Kn3 => [])
  (fun Kn3 => trivial)
  (fun Kn3 => trivial) (fun e s h Kn3 => by as_aux_lemma => kernel_rfl)⟩, trivial⟩ (by as_aux_lemma => kernel_rfl) hk
/-! ### intrusion/intrusionref01.Put -/
def ref01_Put_v (n_0 size_1 : Int) (Q : QT) (h : Heap) : Prop :=
 if (decide (size_1 < 1)) = true then (Q (.string (⟨#[]⟩ : ByteArray)) h) else (if (decide (size_1 > 7)) = true then (Q (.string (⟨#[]⟩ : ByteArray)) h) else (if (decide (n_0 < 0)) = true then (Q (.string (⟨#[]⟩ : ByteArray)) h) else (CallT Tryd.prog fn_ref01_Power #[.int .i64 size_1] h fun v h1 => ∃ t18 : Int, v = .int .i64 t18 ∧ if (decide (n_0 ≥ t18)) = true then (Q (.string (⟨#[]⟩ : ByteArray)) h1) else (if (size_1 == 1) = true then (alV h1 (.cells #[.int .u8 (wrap .u8 n_0)] T_uint8) fun t25 h2 => convV Tryd.prog T_sl_uint8 T_string (.slice (some t25) 1 1) h2 fun v h3 => ∃ t26 : ByteArray, v = .string t26 ∧ Q (.string t26) h3) else ((256 : Int) ≠ 0 ∧ (256 : Int) ≠ 0 ∧ (CallT Tryd.prog fn_ref01_Put #[.int .i64 (wrap .i64 (Int.tdiv n_0 256)), .int .i64 (wrap .i64 (size_1 - 1))] h1 fun v h4 => ∃ t31 : ByteArray, v = .string t31 ∧ alV h4 (.cells #[.int .u8 (wrap .u8 (Int.tmod n_0 256))] T_uint8) fun t35 h5 => convV Tryd.prog T_sl_uint8 T_string (.slice (some t35) 1 1) h5 fun v h6 => ∃ t36 : ByteArray, v = .string t36 ∧ ((t31.size + t36.size : Nat) : Int) ≤ IntKind.max .i64 ∧ Q (.string (t31 ++ t36)) h6) ∧ (alV h1 (.cells #[.int .u8 (wrap .u8 (Int.tmod n_0 256))] T_uint8) fun t35 h7 => (CallT Tryd.prog fn_ref01_Put #[.int .i64 (wrap .i64 (Int.tdiv n_0 256)), .int .i64 (wrap .i64 (size_1 - 1))] h7 fun v h8 => ∃ t31 : ByteArray, v = .string t31 ∧ convV Tryd.prog T_sl_uint8 T_string (.slice (some t35) 1 1) h8 fun v h9 => ∃ t36 : ByteArray, v = .string t36 ∧ ((t31.size + t36.size : Nat) : Int) ≤ IntKind.max .i64 ∧ Q (.string (t31 ++ t36)) h9) ∧ (convV Tryd.prog T_sl_uint8 T_string (.slice (some t35) 1 1) h7 fun v h10 => ∃ t36 : ByteArray, v = .string t36 ∧ CallT Tryd.prog fn_ref01_Put #[.int .i64 (wrap .i64 (Int.tdiv n_0 256)), .int .i64 (wrap .i64 (size_1 - 1))] h10 fun v h11 => ∃ t31 : ByteArray, v = .string t31 ∧ ((t31.size + t36.size : Nat) : Int) ≤ IntKind.max .i64 ∧ Q (.string (t31 ++ t36)) h11)))))))
set_option maxRecDepth 100000 in
theorem ref01_Put_s (n_0 size_1 : Int) {Q : QT} {h : Heap} (hk : ref01_Put_v n_0 size_1 Q h) : CallT Tryd.prog fn_ref01_Put #[.int .i64 n_0, .int .i64 size_1] h Q :=
 callU follows Tryd.func56 (Tryd.call56 _) rfl rfl [] []
 trivial
 trivial (by as_aux_lemma => kernel_rfl) hk
/-! ### (*intrusion/intrusionref29.writer).name -/
def ref29_writer_name_b3 (w_0 : Option Addr) (s_1 : ByteArray) (mine_4a : Option Addr) (mine_4n mine_4c : Nat) (Q : QT) (Kn1 : ByteArray × (Option Addr) × Nat × Nat → Heap → Prop) (h : Heap) : Prop :=
 nn w_0 fun t46 => ldS h t46 fun t48 => alV h (.cells #[.string s_1, .int .i64 ((t48.size : Nat) : Int)] T_intrusionref29_place) fun t51 h8 => bltV Tryd.prog .append #[T_sl_intrusionref29_place, T_sl_intrusionref29_place] T_sl_intrusionref29_place #[false, false] #[.slice mine_4a mine_4n mine_4c, .slice (some t51) 1 1] h8 fun v h9 => ∃ t52a : Option Addr, ∃ t52n : Nat, ∃ t52c : Nat, v = .slice t52a t52n t52c ∧ CallT Tryd.prog fn_ref29_labels #[.string s_1] h9 fun v h10 => ∃ t54a : Option Addr, ∃ t54n : Nat, ∃ t54c : Nat, v = .slice t54a t54n t54c ∧ nn w_0 fun t57 => ldS h10 t57 fun t59 => idxA (0 : Int) t54n (nn t54a fun t61 => ldS h10 (Addr.add t61 (((0 : Int)).toNat * 1)) fun t62 => idxA (0 : Int) t54n (nn t54a fun t69 => ldS h10 (Addr.add t69 (((0 : Int)).toNat * 1)) fun t70 => alV h10 (.cells #[.int .u8 (wrap .u8 ((t62.size : Nat) : Int))] T_uint8) fun t65 h11 => (ldS h11 t57 fun t959 => (.string t959 : Value) = .string t59) ∧ (ldS h11 (Addr.add t69 (((0 : Int)).toNat * 1)) fun t970 => (.string t970 : Value) = .string t70) ∧ convV Tryd.prog T_sl_uint8 T_string (.slice (some t65) 1 1) h11 fun v h12 => ∃ t66 : ByteArray, v = .string t66 ∧ (ldS h12 t57 fun t959 => (.string t959 : Value) = .string t59) ∧ (ldS h12 (Addr.add t69 (((0 : Int)).toNat * 1)) fun t970 => (.string t970 : Value) = .string t70) ∧ ((t59.size + t66.size : Nat) : Int) ≤ IntKind.max .i64 ∧ (((t59 ++ t66).size + t70.size : Nat) : Int) ≤ IntKind.max .i64 ∧ nn w_0 fun t72 => st1 h12 t72 (.string ((t59 ++ t66) ++ t70)) fun h13 => idxA (0 : Int) t54n (nn t54a fun t76 => ldS h13 (Addr.add t76 (((0 : Int)).toNat * 1)) fun t77 => sliceStr s_1 (some ((t77.size : Nat) : Int)) none fun t79 => if (!(t79.toList == (⟨#[]⟩ : ByteArray).toList)) = true then (sliceStr t79 (some (1 : Int)) none fun t83 => Kn1 (t83, t52a, t52n, t52c) h13) else (Kn1 (t79, t52a, t52n, t52c) h13))))
def ref29_writer_name_b2 (w_0 mine_4a : Option Addr) (mine_4n mine_4c : Nat) (Q : QT) (h : Heap) : Prop :=
 nn w_0 fun t86 => ldS h t86 fun t88 => ((t88.size + (⟨#[0]⟩ : ByteArray).size : Nat) : Int) ≤ IntKind.max .i64 ∧ nn w_0 fun t90 => st1 h t90 (.string (t88 ++ (⟨#[0]⟩ : ByteArray))) fun h14 => nn w_0 fun t94 => ldL h14 (Addr.add t94 2) fun t96a t96n t96c => bltV Tryd.prog .append #[T_sl_intrusionref29_place, T_sl_intrusionref29_place] T_sl_intrusionref29_place #[false, false] #[.slice t96a t96n t96c, .slice mine_4a mine_4n mine_4c] h14 fun v h15 => ∃ t98a : Option Addr, ∃ t98n : Nat, ∃ t98c : Nat, v = .slice t98a t98n t98c ∧ nn w_0 fun t99 => st1 h15 (Addr.add t99 2) (.slice t98a t98n t98c) fun h16 => Q (.tuple #[]) h16
def ref29_writer_name_l1 (w_0 : Option Addr) (Q : QT) (s_1 : ByteArray) (mine_4a : Option Addr) (mine_4n mine_4c : Nat) (h : Heap) (Kn1 : ByteArray × (Option Addr) × Nat × Nat → Heap → Prop) : Prop :=
 if (!(s_1.toList == (⟨#[]⟩ : ByteArray).toList)) = true then (CallT Tryd.prog fn_ref29_writer_find #[.pointer w_0, .string s_1] h fun v h3 => ∃ t14 : Int, v = .int .i64 t14 ∧ nn w_0 fun t16 => ldB h3 (Addr.add t16 1) fun t18 => if t18 = true then (if (decide (t14 ≥ 0)) = true then (nn w_0 fun t25 => ldS h3 t25 fun t27 => CallT Tryd.prog fn_ref01_Put #[.int .i64 (wrap .i64 (49152 + t14)), .int .i64 2] h3 fun v h4 => ∃ t30 : ByteArray, v = .string t30 ∧ (ldS h4 t25 fun t927 => (.string t927 : Value) = .string t27) ∧ ((t27.size + t30.size : Nat) : Int) ≤ IntKind.max .i64 ∧ nn w_0 fun t32 => st1 h4 t32 (.string (t27 ++ t30)) fun h5 => nn w_0 fun t36 => ldL h5 (Addr.add t36 2) fun t38a t38n t38c => bltV Tryd.prog .append #[T_sl_intrusionref29_place, T_sl_intrusionref29_place] T_sl_intrusionref29_place #[false, false] #[.slice t38a t38n t38c, .slice mine_4a mine_4n mine_4c] h5 fun v h6 => ∃ t40a : Option Addr, ∃ t40n : Nat, ∃ t40c : Nat, v = .slice t40a t40n t40c ∧ nn w_0 fun t41 => st1 h6 (Addr.add t41 2) (.slice t40a t40n t40c) fun h7 => Q (.tuple #[]) h7) else (ref29_writer_name_b3 w_0 s_1 mine_4a mine_4n mine_4c Q Kn1 h3)) else (ref29_writer_name_b3 w_0 s_1 mine_4a mine_4n mine_4c Q Kn1 h3)) else (ref29_writer_name_b2 w_0 mine_4a mine_4n mine_4c Q h)
def ref29_writer_name_v (w_0 : Option Addr) (s_1 : ByteArray) (Q : QT) (h : Heap) : Prop :=
 CallT Tryd.prog fn_ref29_small #[.string s_1] h fun v h1 => ∃ t8 : ByteArray, v = .string t8 ∧ alV h1 (.cells #[] T_intrusionref29_place) fun t9 h2 => LoopV (fun (s : ByteArray × (Option Addr) × Nat × Nat) h Kn => ref29_writer_name_l1 w_0 Q s.1 s.2.1 s.2.2.1 s.2.2.2 h Kn) (t8, some t9, 0, 0) h2
set_option maxRecDepth 100000 in
theorem ref29_writer_name_s (w_0 : Option Addr) (s_1 : ByteArray) {Q : QT} {h : Heap} (hk : ref29_writer_name_v w_0 s_1 Q h) : CallT Tryd.prog fn_ref29_writer_name #[.pointer w_0, .string s_1] h Q :=
 callU follows Tryd.func57 (Tryd.call57 _) rfl rfl [(28, fun e h => dP (e 0) fun w_0 => dL (e 4) fun mine_4a mine_4n mine_4c => ref29_writer_name_b2 w_0 mine_4a mine_4n mine_4c Q h)] [(6, fun e h => dP (e 0) fun w_0 => dS (e 1) fun s_1 => dL (e 4) fun mine_4a mine_4n mine_4c => LoopV (fun (s : ByteArray × (Option Addr) × Nat × Nat) h Kn => ref29_writer_name_l1 w_0 Q s.1 s.2.1 s.2.2.1 s.2.2.2 h Kn) (s_1, mine_4a, mine_4n, mine_4c) h)]
 ⟨fun e h _ hk => by
 have F := Ag.nil (e := e)
 have ⟨w_0, F, hk⟩ := eP F hk
 have ⟨mine_4a, mine_4n, mine_4c, F, hk⟩ := eL F hk
 exact cutU F (by as_aux_lemma => kernel_rfl) hk, trivial⟩
 ⟨⟨by kernel_rfl, fun e h he hk => by
 have F := Ag.nil (e := e)
 have ⟨w_0, F, hk⟩ := eP F hk
 have ⟨s_1, F, hk⟩ := eS F hk
 have ⟨mine_4a, mine_4n, mine_4c, F, hk⟩ := eL F hk
 exact loopU (s0 := (s_1, mine_4a, mine_4n, mine_4c)) follows (fun _ h => by cases h) he F (fun s => [(4, .slice s.2.1 s.2.2.1 s.2.2.2), (1, .string s.1)]) (by kernel_rfl) (F.take 2) hk (fun Kn1 e h => dS (e 1) fun s_1 => dL (e 4) fun mine_4a mine_4n mine_4c => Kn1 (s_1, mine_4a, mine_4n, mine_4c) h) (fun Kn1 e h hk => by
  have F := Ag.nil (e := e)
  have ⟨s_1, F, hk⟩ := eS F hk
  have ⟨mine_4a, mine_4n, mine_4c, F, hk⟩ := eL F hk
  exact ⟨(s_1, mine_4a, mine_4n, mine_4c), F, hk⟩)
  (fun Kn1 => [(16, fun e h => dP (e 0) fun w_0 => dS (e 1) fun s_1 => dL (e 4) fun mine_4a mine_4n mine_4c => ref29_writer_name_b3 w_0 s_1 mine_4a mine_4n mine_4c Q Kn1 h)]) (fun Kn1 => [])
  (fun Kn1 => ⟨fun e h _ hk => by
 have F := Ag.nil (e := e)
 have ⟨w_0, F, hk⟩ := eP F hk
 have ⟨s_1, F, hk⟩ := eS F hk
 have ⟨mine_4a, mine_4n, mine_4c, F, hk⟩ := eL F hk
 exact cutU F (by as_aux_lemma => kernel_rfl) hk, trivial⟩)
  (fun Kn1 => trivial) (fun e s h Kn1 => by as_aux_lemma => kernel_rfl)⟩, trivial⟩ (by as_aux_lemma => kernel_rfl) hk
/-! ### intrusion/intrusionref01.Value -/
def ref01_Value_l1 (s_0 : ByteArray) (Q : QT) (n_3 i_4 : Int) (h : Heap) (Kn1 : Int × Int → Heap → Prop) : Prop :=
 if (decide (i_4 < ((s_0.size : Nat) : Int))) = true then (idxS s_0 i_4 fun t15 => Kn1 (wrap .i64 ((wrap .i64 (n_3 * 256)) + (wrap .i64 t15)), wrap .i64 (i_4 + 1)) h) else (Q (.int .i64 n_3) h)
def ref01_Value_v (s_0 : ByteArray) (Q : QT) (h : Heap) : Prop :=
 LoopV (fun (s : Int × Int) h Kn => ref01_Value_l1 s_0 Q s.1 s.2 h Kn) (0, 0) h
set_option maxRecDepth 100000 in
theorem ref01_Value_s (s_0 : ByteArray) {Q : QT} {h : Heap} (hk : ref01_Value_v s_0 Q h) : CallT Tryd.prog fn_ref01_Value #[.string s_0] h Q :=
 callU follows Tryd.func61 (Tryd.call61 _) rfl rfl [] [(8, fun e h => dS (e 0) fun s_0 => dI .i64 (e 3) fun n_3 => dI .i64 (e 4) fun i_4 => LoopV (fun (s : Int × Int) h Kn => ref01_Value_l1 s_0 Q s.1 s.2 h Kn) (n_3, i_4) h)]
 trivial
 ⟨⟨by kernel_rfl, fun e h he hk => by
 have F := Ag.nil (e := e)
 have ⟨s_0, F, hk⟩ := eS F hk
 have ⟨n_3, F, hk⟩ := eI F hk
 have ⟨i_4, F, hk⟩ := eI F hk
 exact loopU (s0 := (n_3, i_4)) follows (fun _ h => by cases h) he F (fun s => [(4, .int .i64 s.2), (3, .int .i64 s.1)]) (by kernel_rfl) (F.take 2) hk (fun Kn1 e h => dI .i64 (e 3) fun n_3 => dI .i64 (e 4) fun i_4 => Kn1 (n_3, i_4) h) (fun Kn1 e h hk => by
  have F := Ag.nil (e := e)
  have ⟨n_3, F, hk⟩ := eI F hk
  have ⟨i_4, F, hk⟩ := eI F hk
  exact ⟨(n_3, i_4), F, hk⟩)
  (fun Kn1 => []) (fun Kn1 => [])
  (fun Kn1 => trivial)
  (fun Kn1 => trivial) (fun e s h Kn1 => by as_aux_lemma => kernel_rfl)⟩, trivial⟩ (by as_aux_lemma => kernel_rfl) hk
/-! ### intrusion/intrusionref29.small -/
def ref29_small_v (s_0 : ByteArray) (Q : QT) (h : Heap) : Prop :=
 CallT Tryd.prog fn_ref26_Apply #[.int .i64 1, .string s_0] h fun v h1 => ∃ t4 : ByteArray, v = .string t4 ∧ Q (.string t4) h1
set_option maxRecDepth 100000 in
theorem ref29_small_s (s_0 : ByteArray) {Q : QT} {h : Heap} (hk : ref29_small_v s_0 Q h) : CallT Tryd.prog fn_ref29_small #[.string s_0] h Q :=
 callU follows Tryd.func62 (Tryd.call62 _) rfl rfl [] []
 trivial
 trivial (by as_aux_lemma => kernel_rfl) hk
/-! ### intrusion/dns.word -/
def dns_word_v (n_0 : Int) (Q : QT) (h : Heap) : Prop :=
 if (decide (n_0 ≥ 0)) = true then (Q (.bool (decide (n_0 ≤ 65535))) h) else (Q (.bool false) h)
set_option maxRecDepth 100000 in
theorem dns_word_s (n_0 : Int) {Q : QT} {h : Heap} (hk : dns_word_v n_0 Q h) : CallT Tryd.prog fn_dns_word #[.int .i64 n_0] h Q :=
 callU follows Tryd.func63 (Tryd.call63 _) rfl rfl [] []
 trivial
 trivial (by as_aux_lemma => kernel_rfl) hk
/-! ### intrusion/dns.named -/
def dns_named_v (kind_0 : Int) (s_1 : ByteArray) (Q : QT) (h : Heap) : Prop :=
 if (kind_0 == 15) = true then (if (decide (((s_1.size : Nat) : Int) ≥ 2)) = true then (sliceStr s_1 (some (2 : Int)) none fun t13 => CallT Tryd.prog fn_dns_IsName #[.string t13] h fun v h1 => ∃ t14 : Bool, v = .bool t14 ∧ Q (.bool t14) h1) else (Q (.bool false) h)) else (if (kind_0 == 2) = true then (if (kind_0 == 2) = true then (CallT Tryd.prog fn_dns_IsName #[.string s_1] h fun v h2 => ∃ t21 : Bool, v = .bool t21 ∧ Q (.bool t21) h2) else (Q (.bool true) h)) else (if (kind_0 == 5) = true then (if (kind_0 == 5) = true then (CallT Tryd.prog fn_dns_IsName #[.string s_1] h fun v h3 => ∃ t21 : Bool, v = .bool t21 ∧ Q (.bool t21) h3) else (Q (.bool true) h)) else (if (kind_0 == 12) = true then (CallT Tryd.prog fn_dns_IsName #[.string s_1] h fun v h4 => ∃ t21 : Bool, v = .bool t21 ∧ Q (.bool t21) h4) else (Q (.bool true) h))))
set_option maxRecDepth 100000 in
theorem dns_named_s (kind_0 : Int) (s_1 : ByteArray) {Q : QT} {h : Heap} (hk : dns_named_v kind_0 s_1 Q h) : CallT Tryd.prog fn_dns_named #[.int .i64 kind_0, .string s_1] h Q :=
 callU follows Tryd.func64 (Tryd.call64 _) rfl rfl [] []
 trivial
 trivial (by as_aux_lemma => kernel_rfl) hk
/-! ### strings.Cut -/
def strings_Cut_v (s_0 sep_1 : ByteArray) (Q : QT) (h : Heap) : Prop :=
 CallT Tryd.prog fn_internal_stringslite_Cut #[.string s_0, .string sep_1] h fun v h1 => ∃ t9_0 : ByteArray, ∃ t9_1 : ByteArray, ∃ t9_2 : Bool, v = .tuple #[.string t9_0, .string t9_1, .bool t9_2] ∧ Q (.tuple #[.string t9_0, .string t9_1, .bool t9_2]) h1
set_option maxRecDepth 100000 in
theorem strings_Cut_s (s_0 sep_1 : ByteArray) {Q : QT} {h : Heap} (hk : strings_Cut_v s_0 sep_1 Q h) : CallT Tryd.prog fn_strings_Cut #[.string s_0, .string sep_1] h Q :=
 callU follows Tryd.func65 (Tryd.call65 _) rfl rfl [] []
 trivial
 trivial (by as_aux_lemma => kernel_rfl) hk
/-! ### intrusion/intrusionref29.word -/
def ref29_word_v (n_0 : Int) (Q : QT) (h : Heap) : Prop :=
 if (decide (n_0 ≥ 0)) = true then (Q (.bool (decide (n_0 ≤ 65535))) h) else (Q (.bool false) h)
set_option maxRecDepth 100000 in
theorem ref29_word_s (n_0 : Int) {Q : QT} {h : Heap} (hk : ref29_word_v n_0 Q h) : CallT Tryd.prog fn_ref29_word #[.int .i64 n_0] h Q :=
 callU follows Tryd.func66 (Tryd.call66 _) rfl rfl [] []
 trivial
 trivial (by as_aux_lemma => kernel_rfl) hk
/-! ### intrusion/intrusionref01.Power -/
def ref01_Power_l1 (k_0 : Int) (Q : QT) (n_3 i_4 : Int) (h : Heap) (Kn1 : Int × Int → Heap → Prop) : Prop :=
 if (decide (i_4 < k_0)) = true then (Kn1 (wrap .i64 (n_3 * 256), wrap .i64 (i_4 + 1)) h) else (Q (.int .i64 n_3) h)
def ref01_Power_v (k_0 : Int) (Q : QT) (h : Heap) : Prop :=
 LoopV (fun (s : Int × Int) h Kn => ref01_Power_l1 k_0 Q s.1 s.2 h Kn) (1, 0) h
set_option maxRecDepth 100000 in
theorem ref01_Power_s (k_0 : Int) {Q : QT} {h : Heap} (hk : ref01_Power_v k_0 Q h) : CallT Tryd.prog fn_ref01_Power #[.int .i64 k_0] h Q :=
 callU follows Tryd.func67 (Tryd.call67 _) rfl rfl [] [(8, fun e h => dI .i64 (e 0) fun k_0 => dI .i64 (e 3) fun n_3 => dI .i64 (e 4) fun i_4 => LoopV (fun (s : Int × Int) h Kn => ref01_Power_l1 k_0 Q s.1 s.2 h Kn) (n_3, i_4) h)]
 trivial
 ⟨⟨by kernel_rfl, fun e h he hk => by
 have F := Ag.nil (e := e)
 have ⟨k_0, F, hk⟩ := eI F hk
 have ⟨n_3, F, hk⟩ := eI F hk
 have ⟨i_4, F, hk⟩ := eI F hk
 exact loopU (s0 := (n_3, i_4)) follows (fun _ h => by cases h) he F (fun s => [(4, .int .i64 s.2), (3, .int .i64 s.1)]) (by kernel_rfl) (F.take 2) hk (fun Kn1 e h => dI .i64 (e 3) fun n_3 => dI .i64 (e 4) fun i_4 => Kn1 (n_3, i_4) h) (fun Kn1 e h hk => by
  have F := Ag.nil (e := e)
  have ⟨n_3, F, hk⟩ := eI F hk
  have ⟨i_4, F, hk⟩ := eI F hk
  exact ⟨(n_3, i_4), F, hk⟩)
  (fun Kn1 => []) (fun Kn1 => [])
  (fun Kn1 => trivial)
  (fun Kn1 => trivial) (fun e s h Kn1 => by as_aux_lemma => kernel_rfl)⟩, trivial⟩ (by as_aux_lemma => kernel_rfl) hk
/-! ### (*intrusion/intrusionref29.writer).find -/
def ref29_writer_find_l1 (w_0 : Option Addr) (suffix_1 : ByteArray) (Q : QT) (i_5 : Int) (h : Heap) (Kn1 : Int → Heap → Prop) : Prop :=
 nn w_0 fun t8 => ldL h (Addr.add t8 2) fun t10a t10n t10c => if (decide (i_5 < ((t10n : Nat) : Int))) = true then (nn w_0 fun t16 => ldL h (Addr.add t16 2) fun t18a t18n t18c => idxA i_5 t18n (nn t18a fun t20 => ldS h (Addr.add t20 ((i_5).toNat * 2)) fun t22 => if (t22.toList == suffix_1.toList) = true then (nn w_0 fun t27 => ldL h (Addr.add t27 2) fun t29a t29n t29c => idxA i_5 t29n (nn t29a fun t31 => ldI h (Addr.add (Addr.add t31 ((i_5).toNat * 2)) 1) .i64 fun t33 => if (decide (t33 < 16384)) = true then (nn w_0 fun t37 => ldL h (Addr.add t37 2) fun t39a t39n t39c => idxA i_5 t39n (nn t39a fun t41 => ldI h (Addr.add (Addr.add t41 ((i_5).toNat * 2)) 1) .i64 fun t43 => Q (.int .i64 t43) h)) else (Kn1 (wrap .i64 (i_5 + 1)) h))) else (Kn1 (wrap .i64 (i_5 + 1)) h))) else (Q (.int .i64 (-1)) h)
def ref29_writer_find_v (w_0 : Option Addr) (suffix_1 : ByteArray) (Q : QT) (h : Heap) : Prop :=
 LoopV (fun (s : Int) h Kn => ref29_writer_find_l1 w_0 suffix_1 Q s h Kn) 0 h
set_option maxRecDepth 100000 in
theorem ref29_writer_find_s (w_0 : Option Addr) (suffix_1 : ByteArray) {Q : QT} {h : Heap} (hk : ref29_writer_find_v w_0 suffix_1 Q h) : CallT Tryd.prog fn_ref29_writer_find #[.pointer w_0, .string suffix_1] h Q :=
 callU follows Tryd.func68 (Tryd.call68 _) rfl rfl [] [(6, fun e h => dP (e 0) fun w_0 => dS (e 1) fun suffix_1 => dI .i64 (e 5) fun i_5 => LoopV (fun (s : Int) h Kn => ref29_writer_find_l1 w_0 suffix_1 Q s h Kn) i_5 h)]
 trivial
 ⟨⟨by kernel_rfl, fun e h he hk => by
 have F := Ag.nil (e := e)
 have ⟨w_0, F, hk⟩ := eP F hk
 have ⟨suffix_1, F, hk⟩ := eS F hk
 have ⟨i_5, F, hk⟩ := eI F hk
 exact loopU (s0 := i_5) follows (fun _ h => by cases h) he F (fun s => [(5, .int .i64 s)]) (by kernel_rfl) (F.take 1) hk (fun Kn1 e h => dI .i64 (e 5) fun i_5 => Kn1 i_5 h) (fun Kn1 e h hk => by
  have F := Ag.nil (e := e)
  have ⟨i_5, F, hk⟩ := eI F hk
  exact ⟨i_5, F, hk⟩)
  (fun Kn1 => []) (fun Kn1 => [])
  (fun Kn1 => trivial)
  (fun Kn1 => trivial) (fun e s h Kn1 => by as_aux_lemma => kernel_rfl)⟩, trivial⟩ (by as_aux_lemma => kernel_rfl) hk
/-! ### intrusion/intrusionref26.Apply -/
def ref26_Apply_v (kind_0 : Int) (s_1 : ByteArray) (Q : QT) (h : Heap) : Prop :=
 if (kind_0 == 1) = true then (CallT Tryd.prog fn_ref26_lower #[.string s_1] h fun v h1 => ∃ t9 : ByteArray, v = .string t9 ∧ Q (.string t9) h1) else (if (kind_0 == 2) = true then (CallT Tryd.prog fn_ref26_strip #[.string s_1] h fun v h2 => ∃ t13 : ByteArray, v = .string t13 ∧ Q (.string t13) h2) else (if (kind_0 == 3) = true then (CallT Tryd.prog fn_ref26_percent #[.string s_1] h fun v h3 => ∃ t17 : ByteArray, v = .string t17 ∧ Q (.string t17) h3) else (if (kind_0 == 4) = true then (CallT Tryd.prog fn_ref26_base64 #[.string s_1] h fun v h4 => ∃ t21 : ByteArray, v = .string t21 ∧ Q (.string t21) h4) else (if (kind_0 == 5) = true then (CallT Tryd.prog fn_ref26_path #[.string s_1] h fun v h5 => ∃ t25 : ByteArray, v = .string t25 ∧ Q (.string t25) h5) else (if (kind_0 == 6) = true then (CallT Tryd.prog fn_ref26_hex #[.string s_1] h fun v h6 => ∃ t29 : ByteArray, v = .string t29 ∧ Q (.string t29) h6) else (Q (.string s_1) h))))))
set_option maxRecDepth 100000 in
theorem ref26_Apply_s (kind_0 : Int) (s_1 : ByteArray) {Q : QT} {h : Heap} (hk : ref26_Apply_v kind_0 s_1 Q h) : CallT Tryd.prog fn_ref26_Apply #[.int .i64 kind_0, .string s_1] h Q :=
 callU follows Tryd.func73 (Tryd.call73 _) rfl rfl [] []
 trivial
 trivial (by as_aux_lemma => kernel_rfl) hk
/-! ### internal/stringslite.Cut -/
def internal_stringslite_Cut_v (s_0 sep_1 : ByteArray) (Q : QT) (h : Heap) : Prop :=
 CallT Tryd.prog fn_internal_stringslite_Index #[.string s_0, .string sep_1] h fun v h1 => ∃ t10 : Int, v = .int .i64 t10 ∧ if (decide (t10 ≥ 0)) = true then (sliceStr s_0 none (some t10) fun t15 => sliceStr s_0 (some (wrap .i64 (t10 + ((sep_1.size : Nat) : Int)))) none fun t21 => Q (.tuple #[.string t15, .string t21, .bool true]) h1) else (Q (.tuple #[.string s_0, .string (⟨#[]⟩ : ByteArray), .bool false]) h1)
set_option maxRecDepth 100000 in
theorem internal_stringslite_Cut_s (s_0 sep_1 : ByteArray) {Q : QT} {h : Heap} (hk : internal_stringslite_Cut_v s_0 sep_1 Q h) : CallT Tryd.prog fn_internal_stringslite_Cut #[.string s_0, .string sep_1] h Q :=
 callU follows Tryd.func74 (Tryd.call74 _) rfl rfl [] []
 trivial
 trivial (by as_aux_lemma => kernel_rfl) hk
/-! ### intrusion/intrusionref26.lower -/
def ref26_lower_b2 (s_0 : ByteArray) (out_3a : Option Addr) (out_3n out_3c : Nat) (i_4 c_5 : Int) (Q : QT) (Kn1 : (Option Addr) × Nat × Nat × Int → Heap → Prop) (h : Heap) : Prop :=
 alV h (.cells #[.int .u8 c_5] T_uint8) fun t26 h3 => bltV Tryd.prog .append #[T_sl_uint8, T_sl_uint8] T_sl_uint8 #[false, false] #[.slice out_3a out_3n out_3c, .slice (some t26) 1 1] h3 fun v h4 => ∃ t27a : Option Addr, ∃ t27n : Nat, ∃ t27c : Nat, v = .slice t27a t27n t27c ∧ Kn1 (t27a, t27n, t27c, wrap .i64 (i_4 + 1)) h4
def ref26_lower_l1 (s_0 : ByteArray) (Q : QT) (out_3a : Option Addr) (out_3n out_3c : Nat) (i_4 : Int) (h : Heap) (Kn1 : (Option Addr) × Nat × Nat × Int → Heap → Prop) : Prop :=
 if (decide (i_4 < ((s_0.size : Nat) : Int))) = true then (idxS s_0 i_4 fun t15 => if (decide (t15 ≥ 65)) = true then (if (decide (t15 ≤ 90)) = true then (ref26_lower_b2 s_0 out_3a out_3n out_3c i_4 (wrap .u8 (t15 + 32)) Q Kn1 h) else (ref26_lower_b2 s_0 out_3a out_3n out_3c i_4 t15 Q Kn1 h)) else (ref26_lower_b2 s_0 out_3a out_3n out_3c i_4 t15 Q Kn1 h)) else (convV Tryd.prog T_sl_uint8 T_string (.slice out_3a out_3n out_3c) h fun v h2 => ∃ t29 : ByteArray, v = .string t29 ∧ Q (.string t29) h2)
def ref26_lower_v (s_0 : ByteArray) (Q : QT) (h : Heap) : Prop :=
 alV h (.cells #[] T_uint8) fun t6 h1 => LoopV (fun (s : (Option Addr) × Nat × Nat × Int) h Kn => ref26_lower_l1 s_0 Q s.1 s.2.1 s.2.2.1 s.2.2.2 h Kn) (some t6, 0, 0, 0) h1
set_option maxRecDepth 100000 in
theorem ref26_lower_s (s_0 : ByteArray) {Q : QT} {h : Heap} (hk : ref26_lower_v s_0 Q h) : CallT Tryd.prog fn_ref26_lower #[.string s_0] h Q :=
 callU follows Tryd.func80 (Tryd.call80 _) rfl rfl [] [(8, fun e h => dS (e 0) fun s_0 => dL (e 3) fun out_3a out_3n out_3c => dI .i64 (e 4) fun i_4 => LoopV (fun (s : (Option Addr) × Nat × Nat × Int) h Kn => ref26_lower_l1 s_0 Q s.1 s.2.1 s.2.2.1 s.2.2.2 h Kn) (out_3a, out_3n, out_3c, i_4) h)]
 trivial
 ⟨⟨by kernel_rfl, fun e h he hk => by
 have F := Ag.nil (e := e)
 have ⟨s_0, F, hk⟩ := eS F hk
 have ⟨out_3a, out_3n, out_3c, F, hk⟩ := eL F hk
 have ⟨i_4, F, hk⟩ := eI F hk
 exact loopU (s0 := (out_3a, out_3n, out_3c, i_4)) follows (fun _ h => by cases h) he F (fun s => [(4, .int .i64 s.2.2.2), (3, .slice s.1 s.2.1 s.2.2.1)]) (by kernel_rfl) (F.take 2) hk (fun Kn1 e h => dL (e 3) fun out_3a out_3n out_3c => dI .i64 (e 4) fun i_4 => Kn1 (out_3a, out_3n, out_3c, i_4) h) (fun Kn1 e h hk => by
  have F := Ag.nil (e := e)
  have ⟨out_3a, out_3n, out_3c, F, hk⟩ := eL F hk
  have ⟨i_4, F, hk⟩ := eI F hk
  exact ⟨(out_3a, out_3n, out_3c, i_4), F, hk⟩)
  (fun Kn1 => [(18, fun e h => dS (e 0) fun s_0 => dL (e 3) fun out_3a out_3n out_3c => dI .i64 (e 4) fun i_4 => dI .u8 (e 5) fun c_5 => ref26_lower_b2 s_0 out_3a out_3n out_3c i_4 c_5 Q Kn1 h)]) (fun Kn1 => [])
  (fun Kn1 => ⟨fun e h _ hk => by
 have F := Ag.nil (e := e)
 have ⟨s_0, F, hk⟩ := eS F hk
 have ⟨out_3a, out_3n, out_3c, F, hk⟩ := eL F hk
 have ⟨i_4, F, hk⟩ := eI F hk
 have ⟨c_5, F, hk⟩ := eI F hk
 exact cutU F (by as_aux_lemma => kernel_rfl) hk, trivial⟩)
  (fun Kn1 => trivial) (fun e s h Kn1 => by as_aux_lemma => kernel_rfl)⟩, trivial⟩ (by as_aux_lemma => kernel_rfl) hk
end Go.Proofs.YtmjbcnbjedipdaaDoor
