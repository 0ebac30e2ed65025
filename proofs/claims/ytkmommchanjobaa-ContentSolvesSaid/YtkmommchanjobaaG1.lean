/-
  Printed by wip/tool/gen.py: verification conditions, and the proof that each suffices.
-/
import Derived.Test.YtkmommchanjobaaProg
import Derived.Test.YtkmommchanjobaaVcDraw
namespace Go.Proofs.Ytkmommchanjobaa
set_option linter.unusedSimpArgs false
set_option linter.unusedVariables false
open Go
abbrev fn_main_main : FuncId := 0
abbrev fn_gosem_cut : FuncId := 1
abbrev fn_gosem_cut_init : FuncId := 2
abbrev fn_law44_ContentPlaces : FuncId := 3
abbrev fn_law44_ContentTests : FuncId := 4
abbrev fn_law44_ContentExact : FuncId := 5
abbrev fn_law44_ContentSolves : FuncId := 6
abbrev fn_law44_ContentBudgets : FuncId := 7
abbrev fn_law44_sound : FuncId := 8
abbrev fn_law44_within : FuncId := 9
abbrev fn_law44_awake : FuncId := 10
abbrev fn_content_Bounds : FuncId := 11
abbrev fn_ref44_Bounds : FuncId := 12
abbrev fn_content_At : FuncId := 13
abbrev fn_ref44_At : FuncId := 14
abbrev fn_content_Test : FuncId := 15
abbrev fn_ref44_Test : FuncId := 16
abbrev fn_content_Match : FuncId := 17
abbrev fn_ref44_Match : FuncId := 18
abbrev fn_content_small : FuncId := 19
abbrev fn_ref44_small : FuncId := 20
abbrev fn_content_search_from : FuncId := 21
abbrev fn_ref44_search_from : FuncId := 22
abbrev fn_content_search_from_1 : FuncId := 23
abbrev fn_content_search_compare : FuncId := 24
abbrev fn_ref44_search_step : FuncId := 25
abbrev fn_runtime_boundsError_Error : FuncId := 26
abbrev fn_runtime_boundsError_RuntimeError : FuncId := 27
abbrev fn_runtime_errorString_Error : FuncId := 28
abbrev fn_runtime_errorString_RuntimeError : FuncId := 29
abbrev fn_runtime_plainError_Error : FuncId := 30
abbrev fn_runtime_plainError_RuntimeError : FuncId := 31
abbrev fn_runtime_errorAddressString_Error : FuncId := 32
abbrev fn_runtime_errorAddressString_RuntimeError : FuncId := 33
abbrev fn_runtime_TypeAssertionError_Error : FuncId := 34
abbrev fn_runtime_TypeAssertionError_RuntimeError : FuncId := 35
abbrev fn_runtime_PanicNilError_Error : FuncId := 36
abbrev fn_runtime_PanicNilError_RuntimeError : FuncId := 37
abbrev fn_internal_abi_Type_Align : FuncId := 38
abbrev fn_internal_runtime_maps_unhashableTypeError_Error : FuncId := 39
abbrev fn_internal_runtime_maps_unhashableTypeError_RuntimeError : FuncId := 40
abbrev fn_api_Errno_Error : FuncId := 41
abbrev fn_internal_abi_Kind_String : FuncId := 42
variable [Gh]
/-! ### intrusion/intrusionlaw44.ContentPlaces -/
def law44_ContentPlaces_b3 (Q : Value → Heap → Prop) (h : Heap) : Prop :=
  CallT Try.prog fn_law44_awake #[] h fun v h5 => ∃ t38 : Bool, v = Value.bool t38 ∧ Q (Value.bool t38) h5
def law44_ContentPlaces_b6 (data_1 : ByteArray) (c_3 : Addr) (numbers_5 : Addr) (a_7 : Int) (b_8 : Int) (x_9 : Int) (y_10 : Int) (Q : Value → Heap → Prop) (h : Heap) : Prop :=
  ldS h c_3 fun t57_0 => ldB h (Addr.add c_3 1) fun t57_1 => ldB h (Addr.add c_3 2) fun t57_2 => ldB h (Addr.add c_3 3) fun t57_3 => ldI h (Addr.add c_3 4) .i64 fun t57_4 => ldI h (Addr.add c_3 5) .i64 fun t57_5 => ldB h (Addr.add c_3 6) fun t57_6 => idxA (0 : Int) 3 (ldI h (Addr.add numbers_5 (((0 : Int)).toNat * 1)) .i64 fun t60 => ldS h c_3 fun t62_0 => ldB h (Addr.add c_3 1) fun t62_1 => ldB h (Addr.add c_3 2) fun t62_2 => ldB h (Addr.add c_3 3) fun t62_3 => ldI h (Addr.add c_3 4) .i64 fun t62_4 => ldI h (Addr.add c_3 5) .i64 fun t62_5 => ldB h (Addr.add c_3 6) fun t62_6 => idxA (0 : Int) 3 (ldI h (Addr.add numbers_5 (((0 : Int)).toNat * 1)) .i64 fun t65 => CallT Try.prog fn_content_At #[Value.agg #[Value.string t57_0, Value.bool t57_1, Value.bool t57_2, Value.bool t57_3, Value.int .i64 t57_4, Value.int .i64 t57_5, Value.bool t57_6], Value.string data_1, Value.int .i64 t60] h fun v h10 => ∃ t61 : Bool, v = Value.bool t61 ∧ (ldS h10 c_3 fun t962_0 => ldB h10 (Addr.add c_3 1) fun t962_1 => ldB h10 (Addr.add c_3 2) fun t962_2 => ldB h10 (Addr.add c_3 3) fun t962_3 => ldI h10 (Addr.add c_3 4) .i64 fun t962_4 => ldI h10 (Addr.add c_3 5) .i64 fun t962_5 => ldB h10 (Addr.add c_3 6) fun t962_6 => Value.agg #[Value.string t962_0, Value.bool t962_1, Value.bool t962_2, Value.bool t962_3, Value.int .i64 t962_4, Value.int .i64 t962_5, Value.bool t962_6] = Value.agg #[Value.string t62_0, Value.bool t62_1, Value.bool t62_2, Value.bool t62_3, Value.int .i64 t62_4, Value.int .i64 t62_5, Value.bool t62_6]) ∧ (ldI h10 (Addr.add numbers_5 (((0 : Int)).toNat * 1)) .i64 fun t965 => Value.int .i64 t965 = Value.int .i64 t65) ∧ CallT Try.prog fn_ref44_At #[Value.agg #[Value.string t62_0, Value.bool t62_1, Value.bool t62_2, Value.bool t62_3, Value.int .i64 t62_4, Value.int .i64 t62_5, Value.bool t62_6], Value.string data_1, Value.int .i64 t65] h10 fun v h11 => ∃ t66 : Bool, v = Value.bool t66 ∧ if (t61 == t66) = true then (if (a_7 == x_9) = true then (if (b_8 == y_10) = true then (CallT Try.prog fn_law44_awake #[] h11 fun v h12 => ∃ t79 : Bool, v = Value.bool t79 ∧ Q (Value.bool t79) h12) else (Q (Value.bool false) h11)) else (Q (Value.bool false) h11)) else (Q (Value.bool false) h11)))
def law44_ContentPlaces_b5 (data_1 : ByteArray) (c_3 : Addr) (numbers_5 : Addr) (a_7 : Int) (b_8 : Int) (Q : Value → Heap → Prop) (h : Heap) : Prop :=
  ldS h c_3 fun t49_0 => ldB h (Addr.add c_3 1) fun t49_1 => ldB h (Addr.add c_3 2) fun t49_2 => ldB h (Addr.add c_3 3) fun t49_3 => ldI h (Addr.add c_3 4) .i64 fun t49_4 => ldI h (Addr.add c_3 5) .i64 fun t49_5 => ldB h (Addr.add c_3 6) fun t49_6 => idxA (1 : Int) 3 (ldI h (Addr.add numbers_5 (((1 : Int)).toNat * 1)) .i64 fun t51 => idxA (2 : Int) 3 (ldI h (Addr.add numbers_5 (((2 : Int)).toNat * 1)) .i64 fun t53 => CallT Try.prog fn_ref44_Bounds #[Value.agg #[Value.string t49_0, Value.bool t49_1, Value.bool t49_2, Value.bool t49_3, Value.int .i64 t49_4, Value.int .i64 t49_5, Value.bool t49_6], Value.int .i64 t51, Value.int .i64 t53] h fun v h9 => ∃ t54_0 : Int, ∃ t54_1 : Int, v = Value.tuple #[Value.int .i64 t54_0, Value.int .i64 t54_1] ∧ law44_ContentPlaces_b6 data_1 c_3 numbers_5 a_7 b_8 t54_0 t54_1 Q h9))
def law44_ContentPlaces_b4 (data_1 : ByteArray) (c_3 : Addr) (numbers_5 : Addr) (Q : Value → Heap → Prop) (h : Heap) : Prop :=
  ldS h c_3 fun t40_0 => ldB h (Addr.add c_3 1) fun t40_1 => ldB h (Addr.add c_3 2) fun t40_2 => ldB h (Addr.add c_3 3) fun t40_3 => ldI h (Addr.add c_3 4) .i64 fun t40_4 => ldI h (Addr.add c_3 5) .i64 fun t40_5 => ldB h (Addr.add c_3 6) fun t40_6 => idxA (1 : Int) 3 (ldI h (Addr.add numbers_5 (((1 : Int)).toNat * 1)) .i64 fun t42 => idxA (2 : Int) 3 (ldI h (Addr.add numbers_5 (((2 : Int)).toNat * 1)) .i64 fun t44 => CallT Try.prog fn_content_Bounds #[Value.agg #[Value.string t40_0, Value.bool t40_1, Value.bool t40_2, Value.bool t40_3, Value.int .i64 t40_4, Value.int .i64 t40_5, Value.bool t40_6], Value.int .i64 t42, Value.int .i64 t44] h fun v h8 => ∃ t45_0 : Int, ∃ t45_1 : Int, v = Value.tuple #[Value.int .i64 t45_0, Value.int .i64 t45_1] ∧ law44_ContentPlaces_b5 data_1 c_3 numbers_5 t45_0 t45_1 Q h8))
def law44_ContentPlaces_b2 (data_1 : ByteArray) (c_3 : Addr) (numbers_5 : Addr) (Q : Value → Heap → Prop) (h : Heap) : Prop :=
  ldS h c_3 fun t11_0 => ldB h (Addr.add c_3 1) fun t11_1 => ldB h (Addr.add c_3 2) fun t11_2 => ldB h (Addr.add c_3 3) fun t11_3 => ldI h (Addr.add c_3 4) .i64 fun t11_4 => ldI h (Addr.add c_3 5) .i64 fun t11_5 => ldB h (Addr.add c_3 6) fun t11_6 => alV h (.cells #[Value.string t11_0, Value.bool t11_1, Value.bool t11_2, Value.bool t11_3, Value.int .i64 t11_4, Value.int .i64 t11_5, Value.bool t11_6] 23) fun t12 h3 => CallT Try.prog fn_law44_sound #[Value.slice (some t12) 1 1, Value.slice none 0 0, Value.string data_1] h3 fun v h4 => ∃ t14 : Bool, v = Value.bool t14 ∧ if (!t14) = true then (law44_ContentPlaces_b3 Q h4) else (idxA (1 : Int) 3 (ldI h4 (Addr.add numbers_5 (((1 : Int)).toNat * 1)) .i64 fun t18 => CallT Try.prog fn_law44_within #[Value.int .i64 t18] h4 fun v h6 => ∃ t19 : Bool, v = Value.bool t19 ∧ if (!t19) = true then (law44_ContentPlaces_b3 Q h6) else (idxA (2 : Int) 3 (ldI h6 (Addr.add numbers_5 (((2 : Int)).toNat * 1)) .i64 fun t24 => CallT Try.prog fn_law44_within #[Value.int .i64 t24] h6 fun v h7 => ∃ t25 : Bool, v = Value.bool t25 ∧ if (!t25) = true then (law44_ContentPlaces_b3 Q h7) else (idxA (1 : Int) 3 (ldI h7 (Addr.add numbers_5 (((1 : Int)).toNat * 1)) .i64 fun t30 => if (decide (t30 < (0 : Int))) = true then (law44_ContentPlaces_b3 Q h7) else (idxA (2 : Int) 3 (ldI h7 (Addr.add numbers_5 (((2 : Int)).toNat * 1)) .i64 fun t35 => if (decide (t35 < (0 : Int))) = true then (law44_ContentPlaces_b3 Q h7) else (law44_ContentPlaces_b4 data_1 c_3 numbers_5 Q h7)))))))))
def law44_ContentPlaces_b1 (c_0_0 : ByteArray) (c_0_1 : Bool) (c_0_2 : Bool) (c_0_3 : Bool) (c_0_4 : Int) (c_0_5 : Int) (c_0_6 : Bool) (data_1 : ByteArray) (numbers_2_0 : Int) (numbers_2_1 : Int) (numbers_2_2 : Int) (Q : Value → Heap → Prop) (h : Heap) : Prop :=
  alV h (.cells #[Value.string c_0_0, Value.bool c_0_1, Value.bool c_0_2, Value.bool c_0_3, Value.int .i64 c_0_4, Value.int .i64 c_0_5, Value.bool c_0_6] 23) fun t3 h1 => alV h1 (.cells #[Value.int .i64 numbers_2_0, Value.int .i64 numbers_2_1, Value.int .i64 numbers_2_2] 24) fun t5 h2 => law44_ContentPlaces_b2 data_1 t3 t5 Q h2
def law44_ContentPlaces_v (c_0_0 : ByteArray) (c_0_1 : Bool) (c_0_2 : Bool) (c_0_3 : Bool) (c_0_4 : Int) (c_0_5 : Int) (c_0_6 : Bool) (data_1 : ByteArray) (numbers_2_0 : Int) (numbers_2_1 : Int) (numbers_2_2 : Int) (Q : Value → Heap → Prop) (h : Heap) : Prop :=
  law44_ContentPlaces_b1 c_0_0 c_0_1 c_0_2 c_0_3 c_0_4 c_0_5 c_0_6 data_1 numbers_2_0 numbers_2_1 numbers_2_2 Q h
set_option maxRecDepth 100000 in
theorem law44_ContentPlaces_e (c_0_0 : ByteArray) (c_0_1 : Bool) (c_0_2 : Bool) (c_0_3 : Bool) (c_0_4 : Int) (c_0_5 : Int) (c_0_6 : Bool) (data_1 : ByteArray) (numbers_2_0 : Int) (numbers_2_1 : Int) (numbers_2_2 : Int) (Q : Value → Heap → Prop) (h : Heap) (hk : law44_ContentPlaces_v c_0_0 c_0_1 c_0_2 c_0_3 c_0_4 c_0_5 c_0_6 data_1 numbers_2_0 numbers_2_1 numbers_2_2 Q h) :
    ∃ c, Try.f3.body = some c ∧ EWP Try.prog 81 c (fnPost Try.prog Try.f3 Q) (env0 #[Value.agg #[Value.string c_0_0, Value.bool c_0_1, Value.bool c_0_2, Value.bool c_0_3, Value.int .i64 c_0_4, Value.int .i64 c_0_5, Value.bool c_0_6], Value.string data_1, Value.agg #[Value.int .i64 numbers_2_0, Value.int .i64 numbers_2_1, Value.int .i64 numbers_2_2]]) [] h := by
  refine ⟨_, rfl, ?_⟩
  have hk : law44_ContentPlaces_b1 c_0_0 c_0_1 c_0_2 c_0_3 c_0_4 c_0_5 c_0_6 data_1 numbers_2_0 numbers_2_1 numbers_2_2 Q h := hk
  have f0 : env0 #[Value.agg #[Value.string c_0_0, Value.bool c_0_1, Value.bool c_0_2, Value.bool c_0_3, Value.int .i64 c_0_4, Value.int .i64 c_0_5, Value.bool c_0_6], Value.string data_1, Value.agg #[Value.int .i64 numbers_2_0, Value.int .i64 numbers_2_1, Value.int .i64 numbers_2_2]] 0 = Value.agg #[Value.string c_0_0, Value.bool c_0_1, Value.bool c_0_2, Value.bool c_0_3, Value.int .i64 c_0_4, Value.int .i64 c_0_5, Value.bool c_0_6] := rfl
  have f1 : env0 #[Value.agg #[Value.string c_0_0, Value.bool c_0_1, Value.bool c_0_2, Value.bool c_0_3, Value.int .i64 c_0_4, Value.int .i64 c_0_5, Value.bool c_0_6], Value.string data_1, Value.agg #[Value.int .i64 numbers_2_0, Value.int .i64 numbers_2_1, Value.int .i64 numbers_2_2]] 1 = Value.string data_1 := rfl
  have f2 : env0 #[Value.agg #[Value.string c_0_0, Value.bool c_0_1, Value.bool c_0_2, Value.bool c_0_3, Value.int .i64 c_0_4, Value.int .i64 c_0_5, Value.bool c_0_6], Value.string data_1, Value.agg #[Value.int .i64 numbers_2_0, Value.int .i64 numbers_2_1, Value.int .i64 numbers_2_2]] 2 = Value.agg #[Value.int .i64 numbers_2_0, Value.int .i64 numbers_2_1, Value.int .i64 numbers_2_2] := rfl
  generalize env0 #[Value.agg #[Value.string c_0_0, Value.bool c_0_1, Value.bool c_0_2, Value.bool c_0_3, Value.int .i64 c_0_4, Value.int .i64 c_0_5, Value.bool c_0_6], Value.string data_1, Value.agg #[Value.int .i64 numbers_2_0, Value.int .i64 numbers_2_1, Value.int .i64 numbers_2_2]] = e at *
  have he : upd (upd e 0 (Value.agg #[Value.string c_0_0, Value.bool c_0_1, Value.bool c_0_2, Value.bool c_0_3, Value.int .i64 c_0_4, Value.int .i64 c_0_5, Value.bool c_0_6])) 2 (Value.agg #[Value.int .i64 numbers_2_0, Value.int .i64 numbers_2_1, Value.int .i64 numbers_2_2]) = e := by rw [upd_self f0, upd_self f2]
  refine EWP.seqR (fun e h => dA (e 3) fun c_3 => dA (e 5) fun numbers_5 => law44_ContentPlaces_b2 data_1 c_3 numbers_5 Q h) ?_ ?_ ?_
  · kernel_rfl
  · rw [← he]
    exact eqMp (by as_aux_lemma => kernel_rfl : _ = law44_ContentPlaces_b1 c_0_0 c_0_1 c_0_2 c_0_3 c_0_4 c_0_5 c_0_6 data_1 numbers_2_0 numbers_2_1 numbers_2_2 Q h) hk
  · intro e h hp hk
    have f1 := (hp 1 (by kernel_rfl)).trans f1
    clear hp
    obtain ⟨c_3, f3, hk⟩ := dA_elim hk
    obtain ⟨numbers_5, f5, hk⟩ := dA_elim hk
    refine EWP.seqC (fun e h => e 1 = Value.string data_1 ∧ e 3 = Value.pointer (some c_3) ∧ e 5 = Value.pointer (some numbers_5) ∧ law44_ContentPlaces_b4 data_1 c_3 numbers_5 Q h) ?_ ?_
    · have he : upd (upd (upd e 1 (Value.string data_1)) 3 (Value.pointer (some c_3))) 5 (Value.pointer (some numbers_5)) = e := by rw [upd_self f1, upd_self f3, upd_self f5]
      refine EWP.seqR (fun e h => dB (e 37) fun t37 => if t37 = true then (law44_ContentPlaces_b3 Q h) else (law44_ContentPlaces_b4 data_1 c_3 numbers_5 Q h)) ?_ ?_ ?_
      · kernel_rfl
      · rw [← he]
        exact eqMp (by as_aux_lemma => kernel_rfl : _ = law44_ContentPlaces_b2 data_1 c_3 numbers_5 Q h) hk
      · intro e h hp hk
        have f1 := (hp 1 (by kernel_rfl)).trans f1
        have f3 := (hp 3 (by kernel_rfl)).trans f3
        have f5 := (hp 5 (by kernel_rfl)).trans f5
        clear hp
        obtain ⟨t37, f37, hk⟩ := dB_elim hk
        have fc : eev e (.tmp 37) = .bool t37 := f37
        refine EWP.condI fc hk ?_ ?_
        · intro hk
          refine EWP.seqR (fun e h => dB (e 6) fun t6 => Q (Value.bool t6) h) ?_ ?_ ?_
          · kernel_rfl
          · skip
            exact eqMp (by as_aux_lemma => kernel_rfl : _ = law44_ContentPlaces_b3 Q h) hk
          · intro e h hp hk
            clear hp
            obtain ⟨t6, f6, hk⟩ := dB_elim hk
            refine EWP.ret ?_
            have he : upd e 6 (Value.bool t6) = e := by rw [upd_self f6]
            refine (show _ ∧ _ from ⟨rfl, ?_⟩)
            rw [← he]
            exact eqMp (by as_aux_lemma => kernel_rfl : _ = (Q (Value.bool t6) h)) hk
        · intro hk
          refine EWP.skip ?_
          exact (show _ ∧ _ from ⟨rfl, f1, f3, f5, hk⟩)
    · rintro e h ⟨f1, f3, f5, hk⟩
      have he : upd (upd e 3 (Value.pointer (some c_3))) 5 (Value.pointer (some numbers_5)) = e := by rw [upd_self f3, upd_self f5]
      refine EWP.seqR (fun e h => dI .i64 (e 7) fun a_7 => dI .i64 (e 8) fun b_8 => law44_ContentPlaces_b5 data_1 c_3 numbers_5 a_7 b_8 Q h) ?_ ?_ ?_
      · kernel_rfl
      · rw [← he]
        exact eqMp (by as_aux_lemma => kernel_rfl : _ = law44_ContentPlaces_b4 data_1 c_3 numbers_5 Q h) hk
      · intro e h hp hk
        have f1 := (hp 1 (by kernel_rfl)).trans f1
        have f3 := (hp 3 (by kernel_rfl)).trans f3
        have f5 := (hp 5 (by kernel_rfl)).trans f5
        clear hp
        obtain ⟨a_7, f7, hk⟩ := dI_elim hk
        obtain ⟨b_8, f8, hk⟩ := dI_elim hk
        have he : upd (upd e 3 (Value.pointer (some c_3))) 5 (Value.pointer (some numbers_5)) = e := by rw [upd_self f3, upd_self f5]
        refine EWP.seqR (fun e h => dI .i64 (e 9) fun x_9 => dI .i64 (e 10) fun y_10 => law44_ContentPlaces_b6 data_1 c_3 numbers_5 a_7 b_8 x_9 y_10 Q h) ?_ ?_ ?_
        · kernel_rfl
        · rw [← he]
          exact eqMp (by as_aux_lemma => kernel_rfl : _ = law44_ContentPlaces_b5 data_1 c_3 numbers_5 a_7 b_8 Q h) hk
        · intro e h hp hk
          have f1 := (hp 1 (by kernel_rfl)).trans f1
          have f3 := (hp 3 (by kernel_rfl)).trans f3
          have f5 := (hp 5 (by kernel_rfl)).trans f5
          have f7 := (hp 7 (by kernel_rfl)).trans f7
          have f8 := (hp 8 (by kernel_rfl)).trans f8
          clear hp
          obtain ⟨x_9, f9, hk⟩ := dI_elim hk
          obtain ⟨y_10, f10, hk⟩ := dI_elim hk
          have he : upd (upd (upd (upd (upd (upd (upd e 1 (Value.string data_1)) 3 (Value.pointer (some c_3))) 5 (Value.pointer (some numbers_5))) 7 (Value.int .i64 a_7)) 8 (Value.int .i64 b_8)) 9 (Value.int .i64 x_9)) 10 (Value.int .i64 y_10) = e := by rw [upd_self f1, upd_self f3, upd_self f5, upd_self f7, upd_self f8, upd_self f9, upd_self f10]
          refine EWP.seqD (fun e h => dB (e 6) fun t6 => Q (Value.bool t6) h) ?_ ?_ ?_ ?_
          · kernel_rfl
          · kernel_rfl
          · rw [← he]
            exact eqMp (by as_aux_lemma => kernel_rfl : _ = law44_ContentPlaces_b6 data_1 c_3 numbers_5 a_7 b_8 x_9 y_10 Q h) hk
          · intro e h hp hk
            clear hp
            obtain ⟨t6, f6, hk⟩ := dB_elim hk
            refine EWP.ret ?_
            have he : upd e 6 (Value.bool t6) = e := by rw [upd_self f6]
            refine (show _ ∧ _ from ⟨rfl, ?_⟩)
            rw [← he]
            exact eqMp (by as_aux_lemma => kernel_rfl : _ = (Q (Value.bool t6) h)) hk
theorem law44_ContentPlaces_s (c_0_0 : ByteArray) (c_0_1 : Bool) (c_0_2 : Bool) (c_0_3 : Bool) (c_0_4 : Int) (c_0_5 : Int) (c_0_6 : Bool) (data_1 : ByteArray) (numbers_2_0 : Int) (numbers_2_1 : Int) (numbers_2_2 : Int) {Q : Value → Heap → Prop} {h : Heap} (hk : law44_ContentPlaces_v c_0_0 c_0_1 c_0_2 c_0_3 c_0_4 c_0_5 c_0_6 data_1 numbers_2_0 numbers_2_1 numbers_2_2 Q h) : CallT Try.prog fn_law44_ContentPlaces #[Value.agg #[Value.string c_0_0, Value.bool c_0_1, Value.bool c_0_2, Value.bool c_0_3, Value.int .i64 c_0_4, Value.int .i64 c_0_5, Value.bool c_0_6], Value.string data_1, Value.agg #[Value.int .i64 numbers_2_0, Value.int .i64 numbers_2_1, Value.int .i64 numbers_2_2]] h Q := by
  obtain ⟨c, hb, he⟩ := law44_ContentPlaces_e c_0_0 c_0_1 c_0_2 c_0_3 c_0_4 c_0_5 c_0_6 data_1 numbers_2_0 numbers_2_1 numbers_2_2 Q h hk
  exact callT_of (N := 81) Try.func3 hb rfl (Try.call3 _) (Nat.le_of_ble_eq_true rfl) he
/-! ### intrusion/intrusionlaw44.ContentTests -/
def law44_ContentTests_b3 (Q : Value → Heap → Prop) (h : Heap) : Prop :=
  CallT Try.prog fn_law44_awake #[] h fun v h4 => ∃ t21 : Bool, v = Value.bool t21 ∧ Q (Value.bool t21) h4
def law44_ContentTests_b4 (data_1 : ByteArray) (cursor_2 : Int) (t_3 : Addr) (Q : Value → Heap → Prop) (h : Heap) : Prop :=
  ldI h t_3 .i64 fun t22_0 => ldI h (Addr.add t_3 1) .i64 fun t22_1 => ldI h (Addr.add t_3 2) .i64 fun t22_2 => ldI h (Addr.add t_3 3) .i64 fun t22_3 => ldB h (Addr.add t_3 4) fun t22_4 => ldB h (Addr.add t_3 5) fun t22_5 => ldB h (Addr.add t_3 6) fun t22_6 => ldI h t_3 .i64 fun t26_0 => ldI h (Addr.add t_3 1) .i64 fun t26_1 => ldI h (Addr.add t_3 2) .i64 fun t26_2 => ldI h (Addr.add t_3 3) .i64 fun t26_3 => ldB h (Addr.add t_3 4) fun t26_4 => ldB h (Addr.add t_3 5) fun t26_5 => ldB h (Addr.add t_3 6) fun t26_6 => CallT Try.prog fn_content_Test #[Value.agg #[Value.int .i64 t22_0, Value.int .i64 t22_1, Value.int .i64 t22_2, Value.int .i64 t22_3, Value.bool t22_4, Value.bool t22_5, Value.bool t22_6], Value.string data_1, Value.int .i64 cursor_2] h fun v h6 => ∃ t25 : Bool, v = Value.bool t25 ∧ (ldI h6 t_3 .i64 fun t926_0 => ldI h6 (Addr.add t_3 1) .i64 fun t926_1 => ldI h6 (Addr.add t_3 2) .i64 fun t926_2 => ldI h6 (Addr.add t_3 3) .i64 fun t926_3 => ldB h6 (Addr.add t_3 4) fun t926_4 => ldB h6 (Addr.add t_3 5) fun t926_5 => ldB h6 (Addr.add t_3 6) fun t926_6 => Value.agg #[Value.int .i64 t926_0, Value.int .i64 t926_1, Value.int .i64 t926_2, Value.int .i64 t926_3, Value.bool t926_4, Value.bool t926_5, Value.bool t926_6] = Value.agg #[Value.int .i64 t26_0, Value.int .i64 t26_1, Value.int .i64 t26_2, Value.int .i64 t26_3, Value.bool t26_4, Value.bool t26_5, Value.bool t26_6]) ∧ CallT Try.prog fn_ref44_Test #[Value.agg #[Value.int .i64 t26_0, Value.int .i64 t26_1, Value.int .i64 t26_2, Value.int .i64 t26_3, Value.bool t26_4, Value.bool t26_5, Value.bool t26_6], Value.string data_1, Value.int .i64 cursor_2] h6 fun v h7 => ∃ t29 : Bool, v = Value.bool t29 ∧ if (t25 == t29) = true then (CallT Try.prog fn_law44_awake #[] h7 fun v h8 => ∃ t32 : Bool, v = Value.bool t32 ∧ Q (Value.bool t32) h8) else (Q (Value.bool false) h7)
def law44_ContentTests_b2 (data_1 : ByteArray) (cursor_2 : Int) (t_3 : Addr) (Q : Value → Heap → Prop) (h : Heap) : Prop :=
  ldI h t_3 .i64 fun t7_0 => ldI h (Addr.add t_3 1) .i64 fun t7_1 => ldI h (Addr.add t_3 2) .i64 fun t7_2 => ldI h (Addr.add t_3 3) .i64 fun t7_3 => ldB h (Addr.add t_3 4) fun t7_4 => ldB h (Addr.add t_3 5) fun t7_5 => ldB h (Addr.add t_3 6) fun t7_6 => alV h (.cells #[Value.int .i64 t7_0, Value.int .i64 t7_1, Value.int .i64 t7_2, Value.int .i64 t7_3, Value.bool t7_4, Value.bool t7_5, Value.bool t7_6] 34) fun t8 h2 => CallT Try.prog fn_law44_sound #[Value.slice none 0 0, Value.slice (some t8) 1 1, Value.string data_1] h2 fun v h3 => ∃ t10 : Bool, v = Value.bool t10 ∧ if (!t10) = true then (law44_ContentTests_b3 Q h3) else (CallT Try.prog fn_law44_within #[Value.int .i64 cursor_2] h3 fun v h5 => ∃ t14 : Bool, v = Value.bool t14 ∧ if (!t14) = true then (law44_ContentTests_b3 Q h5) else (if (decide (cursor_2 < (0 : Int))) = true then (law44_ContentTests_b3 Q h5) else (law44_ContentTests_b4 data_1 cursor_2 t_3 Q h5)))
def law44_ContentTests_b1 (t_0_0 : Int) (t_0_1 : Int) (t_0_2 : Int) (t_0_3 : Int) (t_0_4 : Bool) (t_0_5 : Bool) (t_0_6 : Bool) (data_1 : ByteArray) (cursor_2 : Int) (Q : Value → Heap → Prop) (h : Heap) : Prop :=
  alV h (.cells #[Value.int .i64 t_0_0, Value.int .i64 t_0_1, Value.int .i64 t_0_2, Value.int .i64 t_0_3, Value.bool t_0_4, Value.bool t_0_5, Value.bool t_0_6] 34) fun t3 h1 => law44_ContentTests_b2 data_1 cursor_2 t3 Q h1
def law44_ContentTests_v (t_0_0 : Int) (t_0_1 : Int) (t_0_2 : Int) (t_0_3 : Int) (t_0_4 : Bool) (t_0_5 : Bool) (t_0_6 : Bool) (data_1 : ByteArray) (cursor_2 : Int) (Q : Value → Heap → Prop) (h : Heap) : Prop :=
  law44_ContentTests_b1 t_0_0 t_0_1 t_0_2 t_0_3 t_0_4 t_0_5 t_0_6 data_1 cursor_2 Q h
set_option maxRecDepth 100000 in
theorem law44_ContentTests_e (t_0_0 : Int) (t_0_1 : Int) (t_0_2 : Int) (t_0_3 : Int) (t_0_4 : Bool) (t_0_5 : Bool) (t_0_6 : Bool) (data_1 : ByteArray) (cursor_2 : Int) (Q : Value → Heap → Prop) (h : Heap) (hk : law44_ContentTests_v t_0_0 t_0_1 t_0_2 t_0_3 t_0_4 t_0_5 t_0_6 data_1 cursor_2 Q h) :
    ∃ c, Try.f4.body = some c ∧ EWP Try.prog 34 c (fnPost Try.prog Try.f4 Q) (env0 #[Value.agg #[Value.int .i64 t_0_0, Value.int .i64 t_0_1, Value.int .i64 t_0_2, Value.int .i64 t_0_3, Value.bool t_0_4, Value.bool t_0_5, Value.bool t_0_6], Value.string data_1, Value.int .i64 cursor_2]) [] h := by
  refine ⟨_, rfl, ?_⟩
  have hk : law44_ContentTests_b1 t_0_0 t_0_1 t_0_2 t_0_3 t_0_4 t_0_5 t_0_6 data_1 cursor_2 Q h := hk
  have f0 : env0 #[Value.agg #[Value.int .i64 t_0_0, Value.int .i64 t_0_1, Value.int .i64 t_0_2, Value.int .i64 t_0_3, Value.bool t_0_4, Value.bool t_0_5, Value.bool t_0_6], Value.string data_1, Value.int .i64 cursor_2] 0 = Value.agg #[Value.int .i64 t_0_0, Value.int .i64 t_0_1, Value.int .i64 t_0_2, Value.int .i64 t_0_3, Value.bool t_0_4, Value.bool t_0_5, Value.bool t_0_6] := rfl
  have f1 : env0 #[Value.agg #[Value.int .i64 t_0_0, Value.int .i64 t_0_1, Value.int .i64 t_0_2, Value.int .i64 t_0_3, Value.bool t_0_4, Value.bool t_0_5, Value.bool t_0_6], Value.string data_1, Value.int .i64 cursor_2] 1 = Value.string data_1 := rfl
  have f2 : env0 #[Value.agg #[Value.int .i64 t_0_0, Value.int .i64 t_0_1, Value.int .i64 t_0_2, Value.int .i64 t_0_3, Value.bool t_0_4, Value.bool t_0_5, Value.bool t_0_6], Value.string data_1, Value.int .i64 cursor_2] 2 = Value.int .i64 cursor_2 := rfl
  generalize env0 #[Value.agg #[Value.int .i64 t_0_0, Value.int .i64 t_0_1, Value.int .i64 t_0_2, Value.int .i64 t_0_3, Value.bool t_0_4, Value.bool t_0_5, Value.bool t_0_6], Value.string data_1, Value.int .i64 cursor_2] = e at *
  have he : upd e 0 (Value.agg #[Value.int .i64 t_0_0, Value.int .i64 t_0_1, Value.int .i64 t_0_2, Value.int .i64 t_0_3, Value.bool t_0_4, Value.bool t_0_5, Value.bool t_0_6]) = e := by rw [upd_self f0]
  refine EWP.seqR (fun e h => dA (e 3) fun t_3 => law44_ContentTests_b2 data_1 cursor_2 t_3 Q h) ?_ ?_ ?_
  · kernel_rfl
  · rw [← he]
    exact eqMp (by as_aux_lemma => kernel_rfl : _ = law44_ContentTests_b1 t_0_0 t_0_1 t_0_2 t_0_3 t_0_4 t_0_5 t_0_6 data_1 cursor_2 Q h) hk
  · intro e h hp hk
    have f1 := (hp 1 (by kernel_rfl)).trans f1
    have f2 := (hp 2 (by kernel_rfl)).trans f2
    clear hp
    obtain ⟨t_3, f3, hk⟩ := dA_elim hk
    refine EWP.seqC (fun e h => e 1 = Value.string data_1 ∧ e 2 = Value.int .i64 cursor_2 ∧ e 3 = Value.pointer (some t_3) ∧ law44_ContentTests_b4 data_1 cursor_2 t_3 Q h) ?_ ?_
    · have he : upd (upd (upd e 1 (Value.string data_1)) 2 (Value.int .i64 cursor_2)) 3 (Value.pointer (some t_3)) = e := by rw [upd_self f1, upd_self f2, upd_self f3]
      refine EWP.seqR (fun e h => dB (e 20) fun t20 => if t20 = true then (law44_ContentTests_b3 Q h) else (law44_ContentTests_b4 data_1 cursor_2 t_3 Q h)) ?_ ?_ ?_
      · kernel_rfl
      · rw [← he]
        exact eqMp (by as_aux_lemma => kernel_rfl : _ = law44_ContentTests_b2 data_1 cursor_2 t_3 Q h) hk
      · intro e h hp hk
        have f1 := (hp 1 (by kernel_rfl)).trans f1
        have f2 := (hp 2 (by kernel_rfl)).trans f2
        have f3 := (hp 3 (by kernel_rfl)).trans f3
        clear hp
        obtain ⟨t20, f20, hk⟩ := dB_elim hk
        have fc : eev e (.tmp 20) = .bool t20 := f20
        refine EWP.condI fc hk ?_ ?_
        · intro hk
          refine EWP.seqR (fun e h => dB (e 6) fun t6 => Q (Value.bool t6) h) ?_ ?_ ?_
          · kernel_rfl
          · skip
            exact eqMp (by as_aux_lemma => kernel_rfl : _ = law44_ContentTests_b3 Q h) hk
          · intro e h hp hk
            clear hp
            obtain ⟨t6, f6, hk⟩ := dB_elim hk
            refine EWP.ret ?_
            have he : upd e 6 (Value.bool t6) = e := by rw [upd_self f6]
            refine (show _ ∧ _ from ⟨rfl, ?_⟩)
            rw [← he]
            exact eqMp (by as_aux_lemma => kernel_rfl : _ = (Q (Value.bool t6) h)) hk
        · intro hk
          refine EWP.skip ?_
          exact (show _ ∧ _ from ⟨rfl, f1, f2, f3, hk⟩)
    · rintro e h ⟨f1, f2, f3, hk⟩
      have he : upd (upd (upd e 1 (Value.string data_1)) 2 (Value.int .i64 cursor_2)) 3 (Value.pointer (some t_3)) = e := by rw [upd_self f1, upd_self f2, upd_self f3]
      refine EWP.seqD (fun e h => dB (e 6) fun t6 => Q (Value.bool t6) h) ?_ ?_ ?_ ?_
      · kernel_rfl
      · kernel_rfl
      · rw [← he]
        exact eqMp (by as_aux_lemma => kernel_rfl : _ = law44_ContentTests_b4 data_1 cursor_2 t_3 Q h) hk
      · intro e h hp hk
        clear hp
        obtain ⟨t6, f6, hk⟩ := dB_elim hk
        refine EWP.ret ?_
        have he : upd e 6 (Value.bool t6) = e := by rw [upd_self f6]
        refine (show _ ∧ _ from ⟨rfl, ?_⟩)
        rw [← he]
        exact eqMp (by as_aux_lemma => kernel_rfl : _ = (Q (Value.bool t6) h)) hk
theorem law44_ContentTests_s (t_0_0 : Int) (t_0_1 : Int) (t_0_2 : Int) (t_0_3 : Int) (t_0_4 : Bool) (t_0_5 : Bool) (t_0_6 : Bool) (data_1 : ByteArray) (cursor_2 : Int) {Q : Value → Heap → Prop} {h : Heap} (hk : law44_ContentTests_v t_0_0 t_0_1 t_0_2 t_0_3 t_0_4 t_0_5 t_0_6 data_1 cursor_2 Q h) : CallT Try.prog fn_law44_ContentTests #[Value.agg #[Value.int .i64 t_0_0, Value.int .i64 t_0_1, Value.int .i64 t_0_2, Value.int .i64 t_0_3, Value.bool t_0_4, Value.bool t_0_5, Value.bool t_0_6], Value.string data_1, Value.int .i64 cursor_2] h Q := by
  obtain ⟨c, hb, he⟩ := law44_ContentTests_e t_0_0 t_0_1 t_0_2 t_0_3 t_0_4 t_0_5 t_0_6 data_1 cursor_2 Q h hk
  exact callT_of (N := 34) Try.func4 hb rfl (Try.call4 _) (Nat.le_of_ble_eq_true rfl) he
/-! ### intrusion/intrusionlaw44.ContentExact -/
def law44_ContentExact_b3 (Q : Value → Heap → Prop) (h : Heap) : Prop :=
  CallT Try.prog fn_law44_awake #[] h fun v h3 => ∃ t24 : Bool, v = Value.bool t24 ∧ Q (Value.bool t24) h3
def law44_ContentExact_b6 (ok_3 : Bool) (end_4 : Int) (n_5 : Int) (e_6 : Int) (is_7 : Bool) (to_8 : Int) (k_9 : Int) (f_10 : Int) (Q : Value → Heap → Prop) (h : Heap) : Prop :=
  if (ok_3 == is_7) = true then (if (end_4 == to_8) = true then (if (n_5 == k_9) = true then (if (e_6 == f_10) = true then (CallT Try.prog fn_law44_awake #[] h fun v h6 => ∃ t72 : Bool, v = Value.bool t72 ∧ Q (Value.bool t72) h6) else (Q (Value.bool false) h)) else (Q (Value.bool false) h)) else (Q (Value.bool false) h)) else (Q (Value.bool false) h)
def law44_ContentExact_b5 (c_1 : Addr) (ok_3 : Bool) (end_4 : Int) (n_5 : Int) (e_6 : Int) (Q : Value → Heap → Prop) (h : Heap) : Prop :=
  ldL h c_1 fun t41a t41n t41c => ldL h (Addr.add c_1 1) fun t43a t43n t43c => ldS h (Addr.add c_1 2) fun t45 => ldI h (Addr.add c_1 3) .i64 fun t47 => CallT Try.prog fn_ref44_Match #[Value.slice t41a t41n t41c, Value.slice t43a t43n t43c, Value.string t45, Value.int .i64 t47] h fun v h5 => ∃ t48_0 : Bool, ∃ t48_1 : Int, ∃ t48_2 : Int, ∃ t48_3 : Int, v = Value.tuple #[Value.bool t48_0, Value.int .i64 t48_1, Value.int .i64 t48_2, Value.int .i64 t48_3] ∧ law44_ContentExact_b6 ok_3 end_4 n_5 e_6 t48_0 t48_1 t48_2 t48_3 Q h5
def law44_ContentExact_b4 (c_1 : Addr) (Q : Value → Heap → Prop) (h : Heap) : Prop :=
  ldL h c_1 fun t27a t27n t27c => ldL h (Addr.add c_1 1) fun t29a t29n t29c => ldS h (Addr.add c_1 2) fun t31 => ldI h (Addr.add c_1 3) .i64 fun t33 => CallT Try.prog fn_content_Match #[Value.slice t27a t27n t27c, Value.slice t29a t29n t29c, Value.string t31, Value.int .i64 t33] h fun v h4 => ∃ t34_0 : Bool, ∃ t34_1 : Int, ∃ t34_2 : Int, ∃ t34_3 : Int, v = Value.tuple #[Value.bool t34_0, Value.int .i64 t34_1, Value.int .i64 t34_2, Value.int .i64 t34_3] ∧ law44_ContentExact_b5 c_1 t34_0 t34_1 t34_2 t34_3 Q h4
def law44_ContentExact_b2 (c_1 : Addr) (Q : Value → Heap → Prop) (h : Heap) : Prop :=
  ldL h c_1 fun t12a t12n t12c => ldL h (Addr.add c_1 1) fun t14a t14n t14c => ldS h (Addr.add c_1 2) fun t16 => CallT Try.prog fn_law44_sound #[Value.slice t12a t12n t12c, Value.slice t14a t14n t14c, Value.string t16] h fun v h2 => ∃ t17 : Bool, v = Value.bool t17 ∧ if (!t17) = true then (law44_ContentExact_b3 Q h2) else (ldI h2 (Addr.add c_1 3) .i64 fun t21 => if (decide (t21 > (20000 : Int))) = true then (law44_ContentExact_b3 Q h2) else (law44_ContentExact_b4 c_1 Q h2))
def law44_ContentExact_b1 (c_0_0a : Option Addr) (c_0_0n : Nat) (c_0_0c : Nat) (c_0_1a : Option Addr) (c_0_1n : Nat) (c_0_1c : Nat) (c_0_2 : ByteArray) (c_0_3 : Int) (Q : Value → Heap → Prop) (h : Heap) : Prop :=
  alV h (.cells #[Value.slice c_0_0a c_0_0n c_0_0c, Value.slice c_0_1a c_0_1n c_0_1c, Value.string c_0_2, Value.int .i64 c_0_3] 38) fun t1 h1 => law44_ContentExact_b2 t1 Q h1
def law44_ContentExact_v (c_0_0a : Option Addr) (c_0_0n : Nat) (c_0_0c : Nat) (c_0_1a : Option Addr) (c_0_1n : Nat) (c_0_1c : Nat) (c_0_2 : ByteArray) (c_0_3 : Int) (Q : Value → Heap → Prop) (h : Heap) : Prop :=
  law44_ContentExact_b1 c_0_0a c_0_0n c_0_0c c_0_1a c_0_1n c_0_1c c_0_2 c_0_3 Q h
set_option maxRecDepth 100000 in
theorem law44_ContentExact_e (c_0_0a : Option Addr) (c_0_0n : Nat) (c_0_0c : Nat) (c_0_1a : Option Addr) (c_0_1n : Nat) (c_0_1c : Nat) (c_0_2 : ByteArray) (c_0_3 : Int) (Q : Value → Heap → Prop) (h : Heap) (hk : law44_ContentExact_v c_0_0a c_0_0n c_0_0c c_0_1a c_0_1n c_0_1c c_0_2 c_0_3 Q h) :
    ∃ c, Try.f5.body = some c ∧ EWP Try.prog 74 c (fnPost Try.prog Try.f5 Q) (env0 #[Value.agg #[Value.slice c_0_0a c_0_0n c_0_0c, Value.slice c_0_1a c_0_1n c_0_1c, Value.string c_0_2, Value.int .i64 c_0_3]]) [] h := by
  refine ⟨_, rfl, ?_⟩
  have hk : law44_ContentExact_b1 c_0_0a c_0_0n c_0_0c c_0_1a c_0_1n c_0_1c c_0_2 c_0_3 Q h := hk
  have f0 : env0 #[Value.agg #[Value.slice c_0_0a c_0_0n c_0_0c, Value.slice c_0_1a c_0_1n c_0_1c, Value.string c_0_2, Value.int .i64 c_0_3]] 0 = Value.agg #[Value.slice c_0_0a c_0_0n c_0_0c, Value.slice c_0_1a c_0_1n c_0_1c, Value.string c_0_2, Value.int .i64 c_0_3] := rfl
  generalize env0 #[Value.agg #[Value.slice c_0_0a c_0_0n c_0_0c, Value.slice c_0_1a c_0_1n c_0_1c, Value.string c_0_2, Value.int .i64 c_0_3]] = e at *
  have he : upd e 0 (Value.agg #[Value.slice c_0_0a c_0_0n c_0_0c, Value.slice c_0_1a c_0_1n c_0_1c, Value.string c_0_2, Value.int .i64 c_0_3]) = e := by rw [upd_self f0]
  refine EWP.seqR (fun e h => dA (e 1) fun c_1 => law44_ContentExact_b2 c_1 Q h) ?_ ?_ ?_
  · kernel_rfl
  · rw [← he]
    exact eqMp (by as_aux_lemma => kernel_rfl : _ = law44_ContentExact_b1 c_0_0a c_0_0n c_0_0c c_0_1a c_0_1n c_0_1c c_0_2 c_0_3 Q h) hk
  · intro e h hp hk
    clear hp
    obtain ⟨c_1, f1, hk⟩ := dA_elim hk
    refine EWP.seqC (fun e h => e 1 = Value.pointer (some c_1) ∧ law44_ContentExact_b4 c_1 Q h) ?_ ?_
    · have he : upd e 1 (Value.pointer (some c_1)) = e := by rw [upd_self f1]
      refine EWP.seqR (fun e h => dB (e 23) fun t23 => if t23 = true then (law44_ContentExact_b3 Q h) else (law44_ContentExact_b4 c_1 Q h)) ?_ ?_ ?_
      · kernel_rfl
      · rw [← he]
        exact eqMp (by as_aux_lemma => kernel_rfl : _ = law44_ContentExact_b2 c_1 Q h) hk
      · intro e h hp hk
        have f1 := (hp 1 (by kernel_rfl)).trans f1
        clear hp
        obtain ⟨t23, f23, hk⟩ := dB_elim hk
        have fc : eev e (.tmp 23) = .bool t23 := f23
        refine EWP.condI fc hk ?_ ?_
        · intro hk
          refine EWP.seqR (fun e h => dB (e 2) fun t2 => Q (Value.bool t2) h) ?_ ?_ ?_
          · kernel_rfl
          · skip
            exact eqMp (by as_aux_lemma => kernel_rfl : _ = law44_ContentExact_b3 Q h) hk
          · intro e h hp hk
            clear hp
            obtain ⟨t2, f2, hk⟩ := dB_elim hk
            refine EWP.ret ?_
            have he : upd e 2 (Value.bool t2) = e := by rw [upd_self f2]
            refine (show _ ∧ _ from ⟨rfl, ?_⟩)
            rw [← he]
            exact eqMp (by as_aux_lemma => kernel_rfl : _ = (Q (Value.bool t2) h)) hk
        · intro hk
          refine EWP.skip ?_
          exact (show _ ∧ _ from ⟨rfl, f1, hk⟩)
    · rintro e h ⟨f1, hk⟩
      have he : upd e 1 (Value.pointer (some c_1)) = e := by rw [upd_self f1]
      refine EWP.seqR (fun e h => dB (e 3) fun ok_3 => dI .i64 (e 4) fun end_4 => dI .i64 (e 5) fun n_5 => dI .i64 (e 6) fun e_6 => law44_ContentExact_b5 c_1 ok_3 end_4 n_5 e_6 Q h) ?_ ?_ ?_
      · kernel_rfl
      · rw [← he]
        exact eqMp (by as_aux_lemma => kernel_rfl : _ = law44_ContentExact_b4 c_1 Q h) hk
      · intro e h hp hk
        have f1 := (hp 1 (by kernel_rfl)).trans f1
        clear hp
        obtain ⟨ok_3, f3, hk⟩ := dB_elim hk
        obtain ⟨end_4, f4, hk⟩ := dI_elim hk
        obtain ⟨n_5, f5, hk⟩ := dI_elim hk
        obtain ⟨e_6, f6, hk⟩ := dI_elim hk
        have he : upd e 1 (Value.pointer (some c_1)) = e := by rw [upd_self f1]
        refine EWP.seqR (fun e h => dB (e 7) fun is_7 => dI .i64 (e 8) fun to_8 => dI .i64 (e 9) fun k_9 => dI .i64 (e 10) fun f_10 => law44_ContentExact_b6 ok_3 end_4 n_5 e_6 is_7 to_8 k_9 f_10 Q h) ?_ ?_ ?_
        · kernel_rfl
        · rw [← he]
          exact eqMp (by as_aux_lemma => kernel_rfl : _ = law44_ContentExact_b5 c_1 ok_3 end_4 n_5 e_6 Q h) hk
        · intro e h hp hk
          have f3 := (hp 3 (by kernel_rfl)).trans f3
          have f4 := (hp 4 (by kernel_rfl)).trans f4
          have f5 := (hp 5 (by kernel_rfl)).trans f5
          have f6 := (hp 6 (by kernel_rfl)).trans f6
          clear hp
          obtain ⟨is_7, f7, hk⟩ := dB_elim hk
          obtain ⟨to_8, f8, hk⟩ := dI_elim hk
          obtain ⟨k_9, f9, hk⟩ := dI_elim hk
          obtain ⟨f_10, f10, hk⟩ := dI_elim hk
          have he : upd (upd (upd (upd (upd (upd (upd (upd e 3 (Value.bool ok_3)) 4 (Value.int .i64 end_4)) 5 (Value.int .i64 n_5)) 6 (Value.int .i64 e_6)) 7 (Value.bool is_7)) 8 (Value.int .i64 to_8)) 9 (Value.int .i64 k_9)) 10 (Value.int .i64 f_10) = e := by rw [upd_self f3, upd_self f4, upd_self f5, upd_self f6, upd_self f7, upd_self f8, upd_self f9, upd_self f10]
          refine EWP.seqR (fun e h => dB (e 2) fun t2 => Q (Value.bool t2) h) ?_ ?_ ?_
          · kernel_rfl
          · rw [← he]
            exact eqMp (by as_aux_lemma => kernel_rfl : _ = law44_ContentExact_b6 ok_3 end_4 n_5 e_6 is_7 to_8 k_9 f_10 Q h) hk
          · intro e h hp hk
            clear hp
            obtain ⟨t2, f2, hk⟩ := dB_elim hk
            refine EWP.ret ?_
            have he : upd e 2 (Value.bool t2) = e := by rw [upd_self f2]
            refine (show _ ∧ _ from ⟨rfl, ?_⟩)
            rw [← he]
            exact eqMp (by as_aux_lemma => kernel_rfl : _ = (Q (Value.bool t2) h)) hk
theorem law44_ContentExact_s (c_0_0a : Option Addr) (c_0_0n : Nat) (c_0_0c : Nat) (c_0_1a : Option Addr) (c_0_1n : Nat) (c_0_1c : Nat) (c_0_2 : ByteArray) (c_0_3 : Int) {Q : Value → Heap → Prop} {h : Heap} (hk : law44_ContentExact_v c_0_0a c_0_0n c_0_0c c_0_1a c_0_1n c_0_1c c_0_2 c_0_3 Q h) : CallT Try.prog fn_law44_ContentExact #[Value.agg #[Value.slice c_0_0a c_0_0n c_0_0c, Value.slice c_0_1a c_0_1n c_0_1c, Value.string c_0_2, Value.int .i64 c_0_3]] h Q := by
  obtain ⟨c, hb, he⟩ := law44_ContentExact_e c_0_0a c_0_0n c_0_0c c_0_1a c_0_1n c_0_1c c_0_2 c_0_3 Q h hk
  exact callT_of (N := 74) Try.func5 hb rfl (Try.call5 _) (Nat.le_of_ble_eq_true rfl) he
/-! ### intrusion/intrusionlaw44.ContentSolves -/
def law44_ContentSolves_b4 (Q : Value → Heap → Prop) (h : Heap) : Prop :=
  CallT Try.prog fn_law44_awake #[] h fun v h6 => ∃ t46 : Bool, v = Value.bool t46 ∧ Q (Value.bool t46) h6
def law44_ContentSolves_b18 (a_3 : Addr) (b_4 : Addr) (c_5 : Addr) (l_7a : Option Addr) (l_7n : Nat) (l_7c : Nat) (want_8 : Bool) (least_9 : Int) (p_10 : Int) (q_11 : Int) (Q : Value → Heap → Prop) (Kn7 : (Bool × Int × Int) → Heap → Prop) (Kn11 : (Bool × Int × Int) → Heap → Prop) (h : Heap) : Prop :=
  Kn11 (want_8, least_9, IntKind.wrap .i64 (q_11 + (1 : Int))) h
def law44_ContentSolves_b26 (a_3 : Addr) (b_4 : Addr) (c_5 : Addr) (l_7a : Option Addr) (l_7n : Nat) (l_7c : Nat) (want_8 : Bool) (least_9 : Int) (p_10 : Int) (q_11 : Int) (i_17 : Int) (Q : Value → Heap → Prop) (Kn7 : (Bool × Int × Int) → Heap → Prop) (Kn11 : (Bool × Int × Int) → Heap → Prop) (Kn22 : (Bool × Int) → Heap → Prop) (h : Heap) : Prop :=
  Kn22 (want_8, IntKind.wrap .i64 (i_17 + (1 : Int))) h
def law44_ContentSolves_b25 (a_3 : Addr) (b_4 : Addr) (c_5 : Addr) (l_7a : Option Addr) (l_7n : Nat) (l_7c : Nat) (want_8 : Bool) (least_9 : Int) (p_10 : Int) (q_11 : Int) (i_17 : Int) (Q : Value → Heap → Prop) (Kn7 : (Bool × Int × Int) → Heap → Prop) (Kn11 : (Bool × Int × Int) → Heap → Prop) (Kn22 : (Bool × Int) → Heap → Prop) (h : Heap) : Prop :=
  if want_8 = true then (ldL h (Addr.add c_5 1) fun t140a t140n t140c => idxA i_17 t140n (nn t140a fun t142 => ldI h (Addr.add t142 ((i_17).toNat * 7)) .i64 fun t143_0 => ldI h (Addr.add (Addr.add t142 ((i_17).toNat * 7)) 1) .i64 fun t143_1 => ldI h (Addr.add (Addr.add t142 ((i_17).toNat * 7)) 2) .i64 fun t143_2 => ldI h (Addr.add (Addr.add t142 ((i_17).toNat * 7)) 3) .i64 fun t143_3 => ldB h (Addr.add (Addr.add t142 ((i_17).toNat * 7)) 4) fun t143_4 => ldB h (Addr.add (Addr.add t142 ((i_17).toNat * 7)) 5) fun t143_5 => ldB h (Addr.add (Addr.add t142 ((i_17).toNat * 7)) 6) fun t143_6 => ldS h (Addr.add c_5 2) fun t145 => CallT Try.prog fn_ref44_Test #[Value.agg #[Value.int .i64 t143_0, Value.int .i64 t143_1, Value.int .i64 t143_2, Value.int .i64 t143_3, Value.bool t143_4, Value.bool t143_5, Value.bool t143_6], Value.string t145, Value.int .i64 least_9] h fun v h11 => ∃ t147 : Bool, v = Value.bool t147 ∧ law44_ContentSolves_b26 a_3 b_4 c_5 l_7a l_7n l_7c t147 least_9 p_10 q_11 i_17 Q Kn7 Kn11 Kn22 h11)) else (law44_ContentSolves_b26 a_3 b_4 c_5 l_7a l_7n l_7c false least_9 p_10 q_11 i_17 Q Kn7 Kn11 Kn22 h)
def law44_ContentSolves_b24 (a_3 : Addr) (b_4 : Addr) (c_5 : Addr) (l_7a : Option Addr) (l_7n : Nat) (l_7c : Nat) (want_8 : Bool) (least_9 : Int) (p_10 : Int) (q_11 : Int) (i_17 : Int) (Q : Value → Heap → Prop) (Kn7 : (Bool × Int × Int) → Heap → Prop) (Kn11 : (Bool × Int × Int) → Heap → Prop) (Kn22 : (Bool × Int) → Heap → Prop) (h : Heap) : Prop :=
  law44_ContentSolves_b25 a_3 b_4 c_5 l_7a l_7n l_7c want_8 least_9 p_10 q_11 i_17 Q Kn7 Kn11 Kn22 h
def law44_ContentSolves_b23 (a_3 : Addr) (b_4 : Addr) (c_5 : Addr) (l_7a : Option Addr) (l_7n : Nat) (l_7c : Nat) (want_8 : Bool) (least_9 : Int) (p_10 : Int) (q_11 : Int) (i_17 : Int) (Q : Value → Heap → Prop) (Kn7 : (Bool × Int × Int) → Heap → Prop) (Kn11 : (Bool × Int × Int) → Heap → Prop) (Kn22 : (Bool × Int) → Heap → Prop) (h : Heap) : Prop :=
  ldL h (Addr.add c_5 1) fun t132a t132n t132c => if (decide (i_17 < ((t132n : Nat) : Int))) = true then (law44_ContentSolves_b24 a_3 b_4 c_5 l_7a l_7n l_7c want_8 least_9 p_10 q_11 i_17 Q Kn7 Kn11 Kn22 h) else (law44_ContentSolves_b18 a_3 b_4 c_5 l_7a l_7n l_7c want_8 least_9 p_10 q_11 Q Kn7 Kn11 h)
def law44_ContentSolves_l22 (a_3 : Addr) (b_4 : Addr) (c_5 : Addr) (l_7a : Option Addr) (l_7n : Nat) (l_7c : Nat) (least_9 : Int) (p_10 : Int) (q_11 : Int) (Q : Value → Heap → Prop) (Kn7 : (Bool × Int × Int) → Heap → Prop) (Kn11 : (Bool × Int × Int) → Heap → Prop) (want_8 : Bool) (i_17 : Int) (h : Heap) (Kn22 : (Bool × Int) → Heap → Prop) : Prop :=
  law44_ContentSolves_b23 a_3 b_4 c_5 l_7a l_7n l_7c want_8 least_9 p_10 q_11 i_17 Q Kn7 Kn11 Kn22 h
def law44_ContentSolves_b21 (a_3 : Addr) (b_4 : Addr) (c_5 : Addr) (l_7a : Option Addr) (l_7n : Nat) (l_7c : Nat) (want_8 : Bool) (least_9 : Int) (p_10 : Int) (q_11 : Int) (Q : Value → Heap → Prop) (Kn7 : (Bool × Int × Int) → Heap → Prop) (Kn11 : (Bool × Int × Int) → Heap → Prop) (h : Heap) : Prop :=
  LoopV (fun (s : Bool × Int) h Kn => law44_ContentSolves_l22 a_3 b_4 c_5 l_7a l_7n l_7c least_9 p_10 q_11 Q Kn7 Kn11 s.1 s.2 h Kn) (want_8, 0) h
def law44_ContentSolves_b20 (a_3 : Addr) (b_4 : Addr) (c_5 : Addr) (l_7a : Option Addr) (l_7n : Nat) (l_7c : Nat) (least_9 : Int) (p_10 : Int) (q_11 : Int) (Q : Value → Heap → Prop) (Kn7 : (Bool × Int × Int) → Heap → Prop) (Kn11 : (Bool × Int × Int) → Heap → Prop) (h : Heap) : Prop :=
  law44_ContentSolves_b21 a_3 b_4 c_5 l_7a l_7n l_7c true least_9 p_10 q_11 Q Kn7 Kn11 h
def law44_ContentSolves_b19 (a_3 : Addr) (b_4 : Addr) (c_5 : Addr) (l_7a : Option Addr) (l_7n : Nat) (l_7c : Nat) (p_10 : Int) (q_11 : Int) (Q : Value → Heap → Prop) (Kn7 : (Bool × Int × Int) → Heap → Prop) (Kn11 : (Bool × Int × Int) → Heap → Prop) (h : Heap) : Prop :=
  ldS h b_4 fun t127 => law44_ContentSolves_b20 a_3 b_4 c_5 l_7a l_7n l_7c (IntKind.wrap .i64 (q_11 + ((t127.size : Nat) : Int))) p_10 q_11 Q Kn7 Kn11 h
def law44_ContentSolves_b17 (a_3 : Addr) (b_4 : Addr) (c_5 : Addr) (l_7a : Option Addr) (l_7n : Nat) (l_7c : Nat) (want_8 : Bool) (least_9 : Int) (p_10 : Int) (q_11 : Int) (x_13 : Int) (y_14 : Int) (z_15 : Int) (w_16 : Int) (Q : Value → Heap → Prop) (Kn7 : (Bool × Int × Int) → Heap → Prop) (Kn11 : (Bool × Int × Int) → Heap → Prop) (h : Heap) : Prop :=
  if (decide (p_10 < x_13)) = true then (law44_ContentSolves_b18 a_3 b_4 c_5 l_7a l_7n l_7c want_8 least_9 p_10 q_11 Q Kn7 Kn11 h) else (if (decide (p_10 > y_14)) = true then (law44_ContentSolves_b18 a_3 b_4 c_5 l_7a l_7n l_7c want_8 least_9 p_10 q_11 Q Kn7 Kn11 h) else (if (decide (q_11 < z_15)) = true then (law44_ContentSolves_b18 a_3 b_4 c_5 l_7a l_7n l_7c want_8 least_9 p_10 q_11 Q Kn7 Kn11 h) else (if (decide (q_11 > w_16)) = true then (law44_ContentSolves_b18 a_3 b_4 c_5 l_7a l_7n l_7c want_8 least_9 p_10 q_11 Q Kn7 Kn11 h) else (ldS h a_3 fun t110_0 => ldB h (Addr.add a_3 1) fun t110_1 => ldB h (Addr.add a_3 2) fun t110_2 => ldB h (Addr.add a_3 3) fun t110_3 => ldI h (Addr.add a_3 4) .i64 fun t110_4 => ldI h (Addr.add a_3 5) .i64 fun t110_5 => ldB h (Addr.add a_3 6) fun t110_6 => ldS h (Addr.add c_5 2) fun t112 => CallT Try.prog fn_ref44_At #[Value.agg #[Value.string t110_0, Value.bool t110_1, Value.bool t110_2, Value.bool t110_3, Value.int .i64 t110_4, Value.int .i64 t110_5, Value.bool t110_6], Value.string t112, Value.int .i64 p_10] h fun v h9 => ∃ t114 : Bool, v = Value.bool t114 ∧ if (!t114) = true then (law44_ContentSolves_b18 a_3 b_4 c_5 l_7a l_7n l_7c want_8 least_9 p_10 q_11 Q Kn7 Kn11 h9) else (ldS h9 b_4 fun t118_0 => ldB h9 (Addr.add b_4 1) fun t118_1 => ldB h9 (Addr.add b_4 2) fun t118_2 => ldB h9 (Addr.add b_4 3) fun t118_3 => ldI h9 (Addr.add b_4 4) .i64 fun t118_4 => ldI h9 (Addr.add b_4 5) .i64 fun t118_5 => ldB h9 (Addr.add b_4 6) fun t118_6 => ldS h9 (Addr.add c_5 2) fun t120 => CallT Try.prog fn_ref44_At #[Value.agg #[Value.string t118_0, Value.bool t118_1, Value.bool t118_2, Value.bool t118_3, Value.int .i64 t118_4, Value.int .i64 t118_5, Value.bool t118_6], Value.string t120, Value.int .i64 q_11] h9 fun v h10 => ∃ t122 : Bool, v = Value.bool t122 ∧ if (!t122) = true then (law44_ContentSolves_b18 a_3 b_4 c_5 l_7a l_7n l_7c want_8 least_9 p_10 q_11 Q Kn7 Kn11 h10) else (law44_ContentSolves_b19 a_3 b_4 c_5 l_7a l_7n l_7c p_10 q_11 Q Kn7 Kn11 h10))))))
def law44_ContentSolves_b16 (a_3 : Addr) (b_4 : Addr) (c_5 : Addr) (l_7a : Option Addr) (l_7n : Nat) (l_7c : Nat) (want_8 : Bool) (least_9 : Int) (p_10 : Int) (q_11 : Int) (cursor_12 : Int) (x_13 : Int) (y_14 : Int) (Q : Value → Heap → Prop) (Kn7 : (Bool × Int × Int) → Heap → Prop) (Kn11 : (Bool × Int × Int) → Heap → Prop) (h : Heap) : Prop :=
  ldS h b_4 fun t83_0 => ldB h (Addr.add b_4 1) fun t83_1 => ldB h (Addr.add b_4 2) fun t83_2 => ldB h (Addr.add b_4 3) fun t83_3 => ldI h (Addr.add b_4 4) .i64 fun t83_4 => ldI h (Addr.add b_4 5) .i64 fun t83_5 => ldB h (Addr.add b_4 6) fun t83_6 => ldS h (Addr.add c_5 2) fun t85 => CallT Try.prog fn_ref44_Bounds #[Value.agg #[Value.string t83_0, Value.bool t83_1, Value.bool t83_2, Value.bool t83_3, Value.int .i64 t83_4, Value.int .i64 t83_5, Value.bool t83_6], Value.int .i64 ((t85.size : Nat) : Int), Value.int .i64 cursor_12] h fun v h8 => ∃ t88_0 : Int, ∃ t88_1 : Int, v = Value.tuple #[Value.int .i64 t88_0, Value.int .i64 t88_1] ∧ law44_ContentSolves_b17 a_3 b_4 c_5 l_7a l_7n l_7c want_8 least_9 p_10 q_11 x_13 y_14 t88_0 t88_1 Q Kn7 Kn11 h8
def law44_ContentSolves_b15 (a_3 : Addr) (b_4 : Addr) (c_5 : Addr) (l_7a : Option Addr) (l_7n : Nat) (l_7c : Nat) (want_8 : Bool) (least_9 : Int) (p_10 : Int) (q_11 : Int) (cursor_12 : Int) (Q : Value → Heap → Prop) (Kn7 : (Bool × Int × Int) → Heap → Prop) (Kn11 : (Bool × Int × Int) → Heap → Prop) (h : Heap) : Prop :=
  ldS h a_3 fun t75_0 => ldB h (Addr.add a_3 1) fun t75_1 => ldB h (Addr.add a_3 2) fun t75_2 => ldB h (Addr.add a_3 3) fun t75_3 => ldI h (Addr.add a_3 4) .i64 fun t75_4 => ldI h (Addr.add a_3 5) .i64 fun t75_5 => ldB h (Addr.add a_3 6) fun t75_6 => ldS h (Addr.add c_5 2) fun t77 => CallT Try.prog fn_ref44_Bounds #[Value.agg #[Value.string t75_0, Value.bool t75_1, Value.bool t75_2, Value.bool t75_3, Value.int .i64 t75_4, Value.int .i64 t75_5, Value.bool t75_6], Value.int .i64 ((t77.size : Nat) : Int), Value.int .i64 (0 : Int)] h fun v h7 => ∃ t79_0 : Int, ∃ t79_1 : Int, v = Value.tuple #[Value.int .i64 t79_0, Value.int .i64 t79_1] ∧ law44_ContentSolves_b16 a_3 b_4 c_5 l_7a l_7n l_7c want_8 least_9 p_10 q_11 cursor_12 t79_0 t79_1 Q Kn7 Kn11 h7
def law44_ContentSolves_b14 (a_3 : Addr) (b_4 : Addr) (c_5 : Addr) (l_7a : Option Addr) (l_7n : Nat) (l_7c : Nat) (want_8 : Bool) (least_9 : Int) (p_10 : Int) (q_11 : Int) (Q : Value → Heap → Prop) (Kn7 : (Bool × Int × Int) → Heap → Prop) (Kn11 : (Bool × Int × Int) → Heap → Prop) (h : Heap) : Prop :=
  ldS h a_3 fun t71 => law44_ContentSolves_b15 a_3 b_4 c_5 l_7a l_7n l_7c want_8 least_9 p_10 q_11 (IntKind.wrap .i64 (p_10 + ((t71.size : Nat) : Int))) Q Kn7 Kn11 h
def law44_ContentSolves_b13 (a_3 : Addr) (b_4 : Addr) (c_5 : Addr) (l_7a : Option Addr) (l_7n : Nat) (l_7c : Nat) (want_8 : Bool) (least_9 : Int) (p_10 : Int) (q_11 : Int) (Q : Value → Heap → Prop) (Kn7 : (Bool × Int × Int) → Heap → Prop) (Kn11 : (Bool × Int × Int) → Heap → Prop) (h : Heap) : Prop :=
  law44_ContentSolves_b14 a_3 b_4 c_5 l_7a l_7n l_7c want_8 least_9 p_10 q_11 Q Kn7 Kn11 h
def law44_ContentSolves_b27 (a_3 : Addr) (b_4 : Addr) (c_5 : Addr) (l_7a : Option Addr) (l_7n : Nat) (l_7c : Nat) (want_8 : Bool) (least_9 : Int) (p_10 : Int) (Q : Value → Heap → Prop) (Kn7 : (Bool × Int × Int) → Heap → Prop) (h : Heap) : Prop :=
  Kn7 (want_8, least_9, IntKind.wrap .i64 (p_10 + (1 : Int))) h
def law44_ContentSolves_b12 (a_3 : Addr) (b_4 : Addr) (c_5 : Addr) (l_7a : Option Addr) (l_7n : Nat) (l_7c : Nat) (want_8 : Bool) (least_9 : Int) (p_10 : Int) (q_11 : Int) (Q : Value → Heap → Prop) (Kn7 : (Bool × Int × Int) → Heap → Prop) (Kn11 : (Bool × Int × Int) → Heap → Prop) (h : Heap) : Prop :=
  ldS h (Addr.add c_5 2) fun t60 => if (decide (q_11 ≤ ((t60.size : Nat) : Int))) = true then (if (!want_8) = true then (law44_ContentSolves_b13 a_3 b_4 c_5 l_7a l_7n l_7c want_8 least_9 p_10 q_11 Q Kn7 Kn11 h) else (law44_ContentSolves_b27 a_3 b_4 c_5 l_7a l_7n l_7c want_8 least_9 p_10 Q Kn7 h)) else (law44_ContentSolves_b27 a_3 b_4 c_5 l_7a l_7n l_7c want_8 least_9 p_10 Q Kn7 h)
def law44_ContentSolves_l11 (a_3 : Addr) (b_4 : Addr) (c_5 : Addr) (l_7a : Option Addr) (l_7n : Nat) (l_7c : Nat) (p_10 : Int) (Q : Value → Heap → Prop) (Kn7 : (Bool × Int × Int) → Heap → Prop) (want_8 : Bool) (least_9 : Int) (q_11 : Int) (h : Heap) (Kn11 : (Bool × Int × Int) → Heap → Prop) : Prop :=
  law44_ContentSolves_b12 a_3 b_4 c_5 l_7a l_7n l_7c want_8 least_9 p_10 q_11 Q Kn7 Kn11 h
def law44_ContentSolves_b10 (a_3 : Addr) (b_4 : Addr) (c_5 : Addr) (l_7a : Option Addr) (l_7n : Nat) (l_7c : Nat) (want_8 : Bool) (least_9 : Int) (p_10 : Int) (Q : Value → Heap → Prop) (Kn7 : (Bool × Int × Int) → Heap → Prop) (h : Heap) : Prop :=
  LoopV (fun (s : Bool × Int × Int) h Kn => law44_ContentSolves_l11 a_3 b_4 c_5 l_7a l_7n l_7c p_10 Q Kn7 s.1 s.2.1 s.2.2 h Kn) (want_8, least_9, 0) h
def law44_ContentSolves_b9 (a_3 : Addr) (b_4 : Addr) (c_5 : Addr) (l_7a : Option Addr) (l_7n : Nat) (l_7c : Nat) (want_8 : Bool) (least_9 : Int) (p_10 : Int) (Q : Value → Heap → Prop) (Kn7 : (Bool × Int × Int) → Heap → Prop) (h : Heap) : Prop :=
  law44_ContentSolves_b10 a_3 b_4 c_5 l_7a l_7n l_7c want_8 least_9 p_10 Q Kn7 h
def law44_ContentSolves_b30 (Q : Value → Heap → Prop) (h : Heap) : Prop :=
  Q (Value.bool false) h
def law44_ContentSolves_b31 (want_8 : Bool) (least_9 : Int) (end_19 : Int) (Q : Value → Heap → Prop) (h : Heap) : Prop :=
  if (!want_8) = true then (if (end_19 == (0 : Int)) = true then (CallT Try.prog fn_law44_awake #[] h fun v h13 => ∃ t182 : Bool, v = Value.bool t182 ∧ Q (Value.bool t182) h13) else (if want_8 = true then (if (end_19 == least_9) = true then (CallT Try.prog fn_law44_awake #[] h fun v h14 => ∃ t182 : Bool, v = Value.bool t182 ∧ Q (Value.bool t182) h14) else (Q (Value.bool false) h)) else (Q (Value.bool false) h))) else (if want_8 = true then (if (end_19 == least_9) = true then (CallT Try.prog fn_law44_awake #[] h fun v h15 => ∃ t182 : Bool, v = Value.bool t182 ∧ Q (Value.bool t182) h15) else (Q (Value.bool false) h)) else (Q (Value.bool false) h))
def law44_ContentSolves_b29 (want_8 : Bool) (least_9 : Int) (ok_18 : Bool) (end_19 : Int) (e_21 : Int) (Q : Value → Heap → Prop) (h : Heap) : Prop :=
  if (e_21 != (0 : Int)) = true then (law44_ContentSolves_b30 Q h) else (if (!(ok_18 == want_8)) = true then (law44_ContentSolves_b30 Q h) else (law44_ContentSolves_b31 want_8 least_9 end_19 Q h))
def law44_ContentSolves_b28 (c_5 : Addr) (l_7a : Option Addr) (l_7n : Nat) (l_7c : Nat) (want_8 : Bool) (least_9 : Int) (Q : Value → Heap → Prop) (h : Heap) : Prop :=
  ldL h (Addr.add c_5 1) fun t152a t152n t152c => ldS h (Addr.add c_5 2) fun t154 => CallT Try.prog fn_content_Match #[Value.slice l_7a l_7n l_7c, Value.slice t152a t152n t152c, Value.string t154, Value.int .i64 (100000 : Int)] h fun v h12 => ∃ t155_0 : Bool, ∃ t155_1 : Int, ∃ t155_2 : Int, ∃ t155_3 : Int, v = Value.tuple #[Value.bool t155_0, Value.int .i64 t155_1, Value.int .i64 t155_2, Value.int .i64 t155_3] ∧ law44_ContentSolves_b29 want_8 least_9 t155_0 t155_1 t155_3 Q h12
def law44_ContentSolves_b8 (a_3 : Addr) (b_4 : Addr) (c_5 : Addr) (l_7a : Option Addr) (l_7n : Nat) (l_7c : Nat) (want_8 : Bool) (least_9 : Int) (p_10 : Int) (Q : Value → Heap → Prop) (Kn7 : (Bool × Int × Int) → Heap → Prop) (h : Heap) : Prop :=
  ldS h (Addr.add c_5 2) fun t49 => if (decide (p_10 ≤ ((t49.size : Nat) : Int))) = true then (if (!want_8) = true then (law44_ContentSolves_b9 a_3 b_4 c_5 l_7a l_7n l_7c want_8 least_9 p_10 Q Kn7 h) else (law44_ContentSolves_b28 c_5 l_7a l_7n l_7c want_8 least_9 Q h)) else (law44_ContentSolves_b28 c_5 l_7a l_7n l_7c want_8 least_9 Q h)
def law44_ContentSolves_l7 (a_3 : Addr) (b_4 : Addr) (c_5 : Addr) (l_7a : Option Addr) (l_7n : Nat) (l_7c : Nat) (Q : Value → Heap → Prop) (want_8 : Bool) (least_9 : Int) (p_10 : Int) (h : Heap) (Kn7 : (Bool × Int × Int) → Heap → Prop) : Prop :=
  law44_ContentSolves_b8 a_3 b_4 c_5 l_7a l_7n l_7c want_8 least_9 p_10 Q Kn7 h
def law44_ContentSolves_b6 (a_3 : Addr) (b_4 : Addr) (c_5 : Addr) (l_7a : Option Addr) (l_7n : Nat) (l_7c : Nat) (want_8 : Bool) (least_9 : Int) (Q : Value → Heap → Prop) (h : Heap) : Prop :=
  LoopV (fun (s : Bool × Int × Int) h Kn => law44_ContentSolves_l7 a_3 b_4 c_5 l_7a l_7n l_7c Q s.1 s.2.1 s.2.2 h Kn) (want_8, least_9, 0) h
def law44_ContentSolves_b5 (a_3 : Addr) (b_4 : Addr) (c_5 : Addr) (l_7a : Option Addr) (l_7n : Nat) (l_7c : Nat) (Q : Value → Heap → Prop) (h : Heap) : Prop :=
  law44_ContentSolves_b6 a_3 b_4 c_5 l_7a l_7n l_7c false 0 Q h
def law44_ContentSolves_b3 (a_3 : Addr) (b_4 : Addr) (c_5 : Addr) (l_7a : Option Addr) (l_7n : Nat) (l_7c : Nat) (Q : Value → Heap → Prop) (h : Heap) : Prop :=
  ldL h (Addr.add c_5 1) fun t27a t27n t27c => ldS h (Addr.add c_5 2) fun t29 => CallT Try.prog fn_law44_sound #[Value.slice l_7a l_7n l_7c, Value.slice t27a t27n t27c, Value.string t29] h fun v h5 => ∃ t30 : Bool, v = Value.bool t30 ∧ if (!t30) = true then (law44_ContentSolves_b4 Q h5) else (ldS h5 (Addr.add c_5 2) fun t34 => if (decide (((t34.size : Nat) : Int) > (40 : Int))) = true then (law44_ContentSolves_b4 Q h5) else (ldB h5 (Addr.add a_3 2) fun t40 => if t40 = true then (law44_ContentSolves_b4 Q h5) else (ldB h5 (Addr.add b_4 2) fun t44 => if t44 = true then (law44_ContentSolves_b4 Q h5) else (law44_ContentSolves_b5 a_3 b_4 c_5 l_7a l_7n l_7c Q h5))))
def law44_ContentSolves_b2 (a_3 : Addr) (b_4 : Addr) (c_5 : Addr) (Q : Value → Heap → Prop) (h : Heap) : Prop :=
  ldS h a_3 fun t22_0 => ldB h (Addr.add a_3 1) fun t22_1 => ldB h (Addr.add a_3 2) fun t22_2 => ldB h (Addr.add a_3 3) fun t22_3 => ldI h (Addr.add a_3 4) .i64 fun t22_4 => ldI h (Addr.add a_3 5) .i64 fun t22_5 => ldB h (Addr.add a_3 6) fun t22_6 => ldS h b_4 fun t23_0 => ldB h (Addr.add b_4 1) fun t23_1 => ldB h (Addr.add b_4 2) fun t23_2 => ldB h (Addr.add b_4 3) fun t23_3 => ldI h (Addr.add b_4 4) .i64 fun t23_4 => ldI h (Addr.add b_4 5) .i64 fun t23_5 => ldB h (Addr.add b_4 6) fun t23_6 => alV h (.cells #[Value.string t22_0, Value.bool t22_1, Value.bool t22_2, Value.bool t22_3, Value.int .i64 t22_4, Value.int .i64 t22_5, Value.bool t22_6, Value.string t23_0, Value.bool t23_1, Value.bool t23_2, Value.bool t23_3, Value.int .i64 t23_4, Value.int .i64 t23_5, Value.bool t23_6] 23) fun t24 h4 => law44_ContentSolves_b3 a_3 b_4 c_5 (some t24) 2 2 Q h4
def law44_ContentSolves_b1 (a_0_0 : ByteArray) (a_0_1 : Bool) (a_0_2 : Bool) (a_0_3 : Bool) (a_0_4 : Int) (a_0_5 : Int) (a_0_6 : Bool) (b_1_0 : ByteArray) (b_1_1 : Bool) (b_1_2 : Bool) (b_1_3 : Bool) (b_1_4 : Int) (b_1_5 : Int) (b_1_6 : Bool) (c_2_0a : Option Addr) (c_2_0n : Nat) (c_2_0c : Nat) (c_2_1a : Option Addr) (c_2_1n : Nat) (c_2_1c : Nat) (c_2_2 : ByteArray) (c_2_3 : Int) (Q : Value → Heap → Prop) (h : Heap) : Prop :=
  alV h (.cells #[Value.string a_0_0, Value.bool a_0_1, Value.bool a_0_2, Value.bool a_0_3, Value.int .i64 a_0_4, Value.int .i64 a_0_5, Value.bool a_0_6] 23) fun t3 h1 => alV h1 (.cells #[Value.string b_1_0, Value.bool b_1_1, Value.bool b_1_2, Value.bool b_1_3, Value.int .i64 b_1_4, Value.int .i64 b_1_5, Value.bool b_1_6] 23) fun t4 h2 => alV h2 (.cells #[Value.slice c_2_0a c_2_0n c_2_0c, Value.slice c_2_1a c_2_1n c_2_1c, Value.string c_2_2, Value.int .i64 c_2_3] 38) fun t5 h3 => law44_ContentSolves_b2 t3 t4 t5 Q h3
def law44_ContentSolves_v (a_0_0 : ByteArray) (a_0_1 : Bool) (a_0_2 : Bool) (a_0_3 : Bool) (a_0_4 : Int) (a_0_5 : Int) (a_0_6 : Bool) (b_1_0 : ByteArray) (b_1_1 : Bool) (b_1_2 : Bool) (b_1_3 : Bool) (b_1_4 : Int) (b_1_5 : Int) (b_1_6 : Bool) (c_2_0a : Option Addr) (c_2_0n : Nat) (c_2_0c : Nat) (c_2_1a : Option Addr) (c_2_1n : Nat) (c_2_1c : Nat) (c_2_2 : ByteArray) (c_2_3 : Int) (Q : Value → Heap → Prop) (h : Heap) : Prop :=
  law44_ContentSolves_b1 a_0_0 a_0_1 a_0_2 a_0_3 a_0_4 a_0_5 a_0_6 b_1_0 b_1_1 b_1_2 b_1_3 b_1_4 b_1_5 b_1_6 c_2_0a c_2_0n c_2_0c c_2_1a c_2_1n c_2_1c c_2_2 c_2_3 Q h
set_option maxRecDepth 100000 in
theorem law44_ContentSolves_e (a_0_0 : ByteArray) (a_0_1 : Bool) (a_0_2 : Bool) (a_0_3 : Bool) (a_0_4 : Int) (a_0_5 : Int) (a_0_6 : Bool) (b_1_0 : ByteArray) (b_1_1 : Bool) (b_1_2 : Bool) (b_1_3 : Bool) (b_1_4 : Int) (b_1_5 : Int) (b_1_6 : Bool) (c_2_0a : Option Addr) (c_2_0n : Nat) (c_2_0c : Nat) (c_2_1a : Option Addr) (c_2_1n : Nat) (c_2_1c : Nat) (c_2_2 : ByteArray) (c_2_3 : Int) (Q : Value → Heap → Prop) (h : Heap) (hk : law44_ContentSolves_v a_0_0 a_0_1 a_0_2 a_0_3 a_0_4 a_0_5 a_0_6 b_1_0 b_1_1 b_1_2 b_1_3 b_1_4 b_1_5 b_1_6 c_2_0a c_2_0n c_2_0c c_2_1a c_2_1n c_2_1c c_2_2 c_2_3 Q h) :
    ∃ c, Try.f6.body = some c ∧ EWP Try.prog 184 c (fnPost Try.prog Try.f6 Q) (env0 #[Value.agg #[Value.string a_0_0, Value.bool a_0_1, Value.bool a_0_2, Value.bool a_0_3, Value.int .i64 a_0_4, Value.int .i64 a_0_5, Value.bool a_0_6], Value.agg #[Value.string b_1_0, Value.bool b_1_1, Value.bool b_1_2, Value.bool b_1_3, Value.int .i64 b_1_4, Value.int .i64 b_1_5, Value.bool b_1_6], Value.agg #[Value.slice c_2_0a c_2_0n c_2_0c, Value.slice c_2_1a c_2_1n c_2_1c, Value.string c_2_2, Value.int .i64 c_2_3]]) [] h := by
  refine ⟨_, rfl, ?_⟩
  have hk : law44_ContentSolves_b1 a_0_0 a_0_1 a_0_2 a_0_3 a_0_4 a_0_5 a_0_6 b_1_0 b_1_1 b_1_2 b_1_3 b_1_4 b_1_5 b_1_6 c_2_0a c_2_0n c_2_0c c_2_1a c_2_1n c_2_1c c_2_2 c_2_3 Q h := hk
  have f0 : env0 #[Value.agg #[Value.string a_0_0, Value.bool a_0_1, Value.bool a_0_2, Value.bool a_0_3, Value.int .i64 a_0_4, Value.int .i64 a_0_5, Value.bool a_0_6], Value.agg #[Value.string b_1_0, Value.bool b_1_1, Value.bool b_1_2, Value.bool b_1_3, Value.int .i64 b_1_4, Value.int .i64 b_1_5, Value.bool b_1_6], Value.agg #[Value.slice c_2_0a c_2_0n c_2_0c, Value.slice c_2_1a c_2_1n c_2_1c, Value.string c_2_2, Value.int .i64 c_2_3]] 0 = Value.agg #[Value.string a_0_0, Value.bool a_0_1, Value.bool a_0_2, Value.bool a_0_3, Value.int .i64 a_0_4, Value.int .i64 a_0_5, Value.bool a_0_6] := rfl
  have f1 : env0 #[Value.agg #[Value.string a_0_0, Value.bool a_0_1, Value.bool a_0_2, Value.bool a_0_3, Value.int .i64 a_0_4, Value.int .i64 a_0_5, Value.bool a_0_6], Value.agg #[Value.string b_1_0, Value.bool b_1_1, Value.bool b_1_2, Value.bool b_1_3, Value.int .i64 b_1_4, Value.int .i64 b_1_5, Value.bool b_1_6], Value.agg #[Value.slice c_2_0a c_2_0n c_2_0c, Value.slice c_2_1a c_2_1n c_2_1c, Value.string c_2_2, Value.int .i64 c_2_3]] 1 = Value.agg #[Value.string b_1_0, Value.bool b_1_1, Value.bool b_1_2, Value.bool b_1_3, Value.int .i64 b_1_4, Value.int .i64 b_1_5, Value.bool b_1_6] := rfl
  have f2 : env0 #[Value.agg #[Value.string a_0_0, Value.bool a_0_1, Value.bool a_0_2, Value.bool a_0_3, Value.int .i64 a_0_4, Value.int .i64 a_0_5, Value.bool a_0_6], Value.agg #[Value.string b_1_0, Value.bool b_1_1, Value.bool b_1_2, Value.bool b_1_3, Value.int .i64 b_1_4, Value.int .i64 b_1_5, Value.bool b_1_6], Value.agg #[Value.slice c_2_0a c_2_0n c_2_0c, Value.slice c_2_1a c_2_1n c_2_1c, Value.string c_2_2, Value.int .i64 c_2_3]] 2 = Value.agg #[Value.slice c_2_0a c_2_0n c_2_0c, Value.slice c_2_1a c_2_1n c_2_1c, Value.string c_2_2, Value.int .i64 c_2_3] := rfl
  generalize env0 #[Value.agg #[Value.string a_0_0, Value.bool a_0_1, Value.bool a_0_2, Value.bool a_0_3, Value.int .i64 a_0_4, Value.int .i64 a_0_5, Value.bool a_0_6], Value.agg #[Value.string b_1_0, Value.bool b_1_1, Value.bool b_1_2, Value.bool b_1_3, Value.int .i64 b_1_4, Value.int .i64 b_1_5, Value.bool b_1_6], Value.agg #[Value.slice c_2_0a c_2_0n c_2_0c, Value.slice c_2_1a c_2_1n c_2_1c, Value.string c_2_2, Value.int .i64 c_2_3]] = e at *
  have he : upd (upd (upd e 0 (Value.agg #[Value.string a_0_0, Value.bool a_0_1, Value.bool a_0_2, Value.bool a_0_3, Value.int .i64 a_0_4, Value.int .i64 a_0_5, Value.bool a_0_6])) 1 (Value.agg #[Value.string b_1_0, Value.bool b_1_1, Value.bool b_1_2, Value.bool b_1_3, Value.int .i64 b_1_4, Value.int .i64 b_1_5, Value.bool b_1_6])) 2 (Value.agg #[Value.slice c_2_0a c_2_0n c_2_0c, Value.slice c_2_1a c_2_1n c_2_1c, Value.string c_2_2, Value.int .i64 c_2_3]) = e := by rw [upd_self f0, upd_self f1, upd_self f2]
  refine EWP.seqR (fun e h => dA (e 3) fun a_3 => dA (e 4) fun b_4 => dA (e 5) fun c_5 => law44_ContentSolves_b2 a_3 b_4 c_5 Q h) ?_ ?_ ?_
  · kernel_rfl
  · rw [← he]
    exact eqMp (by as_aux_lemma => kernel_rfl : _ = law44_ContentSolves_b1 a_0_0 a_0_1 a_0_2 a_0_3 a_0_4 a_0_5 a_0_6 b_1_0 b_1_1 b_1_2 b_1_3 b_1_4 b_1_5 b_1_6 c_2_0a c_2_0n c_2_0c c_2_1a c_2_1n c_2_1c c_2_2 c_2_3 Q h) hk
  · intro e h hp hk
    clear hp
    obtain ⟨a_3, f3, hk⟩ := dA_elim hk
    obtain ⟨b_4, f4, hk⟩ := dA_elim hk
    obtain ⟨c_5, f5, hk⟩ := dA_elim hk
    have he : upd (upd e 3 (Value.pointer (some a_3))) 4 (Value.pointer (some b_4)) = e := by rw [upd_self f3, upd_self f4]
    refine EWP.seqR (fun e h => dL (e 7) fun l_7a l_7n l_7c => law44_ContentSolves_b3 a_3 b_4 c_5 l_7a l_7n l_7c Q h) ?_ ?_ ?_
    · kernel_rfl
    · rw [← he]
      exact eqMp (by as_aux_lemma => kernel_rfl : _ = law44_ContentSolves_b2 a_3 b_4 c_5 Q h) hk
    · intro e h hp hk
      have f3 := (hp 3 (by kernel_rfl)).trans f3
      have f4 := (hp 4 (by kernel_rfl)).trans f4
      have f5 := (hp 5 (by kernel_rfl)).trans f5
      clear hp
      obtain ⟨l_7a, l_7n, l_7c, f7, hk⟩ := dL_elim hk
      refine EWP.seqC (fun e h => e 3 = Value.pointer (some a_3) ∧ e 4 = Value.pointer (some b_4) ∧ e 5 = Value.pointer (some c_5) ∧ e 7 = Value.slice l_7a l_7n l_7c ∧ law44_ContentSolves_b5 a_3 b_4 c_5 l_7a l_7n l_7c Q h) ?_ ?_
      · have he : upd (upd (upd (upd e 3 (Value.pointer (some a_3))) 4 (Value.pointer (some b_4))) 5 (Value.pointer (some c_5))) 7 (Value.slice l_7a l_7n l_7c) = e := by rw [upd_self f3, upd_self f4, upd_self f5, upd_self f7]
        refine EWP.seqR (fun e h => dB (e 45) fun t45 => if t45 = true then (law44_ContentSolves_b4 Q h) else (law44_ContentSolves_b5 a_3 b_4 c_5 l_7a l_7n l_7c Q h)) ?_ ?_ ?_
        · kernel_rfl
        · rw [← he]
          exact eqMp (by as_aux_lemma => kernel_rfl : _ = law44_ContentSolves_b3 a_3 b_4 c_5 l_7a l_7n l_7c Q h) hk
        · intro e h hp hk
          have f3 := (hp 3 (by kernel_rfl)).trans f3
          have f4 := (hp 4 (by kernel_rfl)).trans f4
          have f5 := (hp 5 (by kernel_rfl)).trans f5
          have f7 := (hp 7 (by kernel_rfl)).trans f7
          clear hp
          obtain ⟨t45, f45, hk⟩ := dB_elim hk
          have fc : eev e (.tmp 45) = .bool t45 := f45
          refine EWP.condI fc hk ?_ ?_
          · intro hk
            refine EWP.seqR (fun e h => dB (e 6) fun t6 => Q (Value.bool t6) h) ?_ ?_ ?_
            · kernel_rfl
            · skip
              exact eqMp (by as_aux_lemma => kernel_rfl : _ = law44_ContentSolves_b4 Q h) hk
            · intro e h hp hk
              clear hp
              obtain ⟨t6, f6, hk⟩ := dB_elim hk
              refine EWP.ret ?_
              have he : upd e 6 (Value.bool t6) = e := by rw [upd_self f6]
              refine (show _ ∧ _ from ⟨rfl, ?_⟩)
              rw [← he]
              exact eqMp (by as_aux_lemma => kernel_rfl : _ = (Q (Value.bool t6) h)) hk
          · intro hk
            refine EWP.skip ?_
            exact (show _ ∧ _ from ⟨rfl, f3, f4, f5, f7, hk⟩)
      · rintro e h ⟨f3, f4, f5, f7, hk⟩
        refine EWP.seqR (fun e h => dB (e 8) fun want_8 => dI .i64 (e 9) fun least_9 => law44_ContentSolves_b6 a_3 b_4 c_5 l_7a l_7n l_7c want_8 least_9 Q h) ?_ ?_ ?_
        · kernel_rfl
        · skip
          exact eqMp (by as_aux_lemma => kernel_rfl : _ = law44_ContentSolves_b5 a_3 b_4 c_5 l_7a l_7n l_7c Q h) hk
        · intro e h hp hk
          have f3 := (hp 3 (by kernel_rfl)).trans f3
          have f4 := (hp 4 (by kernel_rfl)).trans f4
          have f5 := (hp 5 (by kernel_rfl)).trans f5
          have f7 := (hp 7 (by kernel_rfl)).trans f7
          clear hp
          obtain ⟨want_8, f8, hk⟩ := dB_elim hk
          obtain ⟨least_9, f9, hk⟩ := dI_elim hk
          refine EWP.seqC (fun e h => e 5 = Value.pointer (some c_5) ∧ e 7 = Value.slice l_7a l_7n l_7c ∧ dB (e 8) fun want_8 => dI .i64 (e 9) fun least_9 => law44_ContentSolves_b28 c_5 l_7a l_7n l_7c want_8 least_9 Q h) ?_ ?_
          · refine EWP.seqR (fun e h => dI .i64 (e 10) fun p_10 => LoopV (fun (s : Bool × Int × Int) h Kn => law44_ContentSolves_l7 a_3 b_4 c_5 l_7a l_7n l_7c Q s.1 s.2.1 s.2.2 h Kn) (want_8, least_9, p_10) h) ?_ ?_ ?_
            · kernel_rfl
            · skip
              exact eqMp (by as_aux_lemma => kernel_rfl : _ = law44_ContentSolves_b6 a_3 b_4 c_5 l_7a l_7n l_7c want_8 least_9 Q h) hk
            · intro e h hp hk
              have f3 := (hp 3 (by kernel_rfl)).trans f3
              have f4 := (hp 4 (by kernel_rfl)).trans f4
              have f5 := (hp 5 (by kernel_rfl)).trans f5
              have f7 := (hp 7 (by kernel_rfl)).trans f7
              have f8 := (hp 8 (by kernel_rfl)).trans f8
              have f9 := (hp 9 (by kernel_rfl)).trans f9
              clear hp
              obtain ⟨p_10, f10, hk⟩ := dI_elim hk
              refine EWP.block ?_
              refine EWP.loopV (fun e (s : Bool × Int × Int) => e 3 = Value.pointer (some a_3) ∧ e 4 = Value.pointer (some b_4) ∧ e 5 = Value.pointer (some c_5) ∧ e 7 = Value.slice l_7a l_7n l_7c ∧ e 8 = Value.bool s.1 ∧ e 9 = Value.int .i64 s.2.1 ∧ e 10 = Value.int .i64 s.2.2) ⟨f3, f4, f5, f7, f8, f9, f10⟩ hk ?_
              rintro e ⟨want_8, least_9, p_10⟩ h Kn7 ⟨f3, f4, f5, f7, f8, f9, f10⟩ hk
              have f8 : e 8 = Value.bool want_8 := f8
              have f9 : e 9 = Value.int .i64 least_9 := f9
              have f10 : e 10 = Value.int .i64 p_10 := f10
              have hk : law44_ContentSolves_l7 a_3 b_4 c_5 l_7a l_7n l_7c Q want_8 least_9 p_10 h Kn7 := hk
              refine EWP.seqC (fun e h => e 3 = Value.pointer (some a_3) ∧ e 4 = Value.pointer (some b_4) ∧ e 5 = Value.pointer (some c_5) ∧ e 7 = Value.slice l_7a l_7n l_7c ∧ e 8 = Value.bool want_8 ∧ e 9 = Value.int .i64 least_9 ∧ e 10 = Value.int .i64 p_10 ∧ law44_ContentSolves_b9 a_3 b_4 c_5 l_7a l_7n l_7c want_8 least_9 p_10 Q Kn7 h) ?_ ?_
              · have he : upd (upd (upd e 5 (Value.pointer (some c_5))) 8 (Value.bool want_8)) 10 (Value.int .i64 p_10) = e := by rw [upd_self f5, upd_self f8, upd_self f10]
                refine EWP.seqR (fun e h => dB (e 55) fun t55 => if t55 = true then (law44_ContentSolves_b9 a_3 b_4 c_5 l_7a l_7n l_7c want_8 least_9 p_10 Q Kn7 h) else (law44_ContentSolves_b28 c_5 l_7a l_7n l_7c want_8 least_9 Q h)) ?_ ?_ ?_
                · kernel_rfl
                · rw [← he]
                  exact eqMp (by as_aux_lemma => kernel_rfl : _ = law44_ContentSolves_b8 a_3 b_4 c_5 l_7a l_7n l_7c want_8 least_9 p_10 Q Kn7 h) hk
                · intro e h hp hk
                  have f3 := (hp 3 (by kernel_rfl)).trans f3
                  have f4 := (hp 4 (by kernel_rfl)).trans f4
                  have f5 := (hp 5 (by kernel_rfl)).trans f5
                  have f7 := (hp 7 (by kernel_rfl)).trans f7
                  have f8 := (hp 8 (by kernel_rfl)).trans f8
                  have f9 := (hp 9 (by kernel_rfl)).trans f9
                  have f10 := (hp 10 (by kernel_rfl)).trans f10
                  clear hp
                  obtain ⟨t55, f55, hk⟩ := dB_elim hk
                  have fc : eev e (.tmp 55) = .bool t55 := f55
                  refine EWP.condI fc hk ?_ ?_
                  · intro hk
                    refine EWP.skip ?_
                    exact (show _ ∧ _ from ⟨rfl, f3, f4, f5, f7, f8, f9, f10, hk⟩)
                  · intro hk
                    refine EWP.exit ?_
                    exact (show _ ∧ _ from ⟨rfl, f5, f7, dB_intro f8 (dI_intro f9 (hk))⟩)
              · rintro e h ⟨f3, f4, f5, f7, f8, f9, f10, hk⟩
                refine EWP.seqC (fun e h => e 3 = Value.pointer (some a_3) ∧ e 4 = Value.pointer (some b_4) ∧ e 5 = Value.pointer (some c_5) ∧ e 7 = Value.slice l_7a l_7n l_7c ∧ e 10 = Value.int .i64 p_10 ∧ dB (e 8) fun want_8 => dI .i64 (e 9) fun least_9 => law44_ContentSolves_b27 a_3 b_4 c_5 l_7a l_7n l_7c want_8 least_9 p_10 Q Kn7 h) ?_ ?_
                · refine EWP.block ?_
                  refine EWP.seqR (fun e h => dI .i64 (e 11) fun q_11 => LoopV (fun (s : Bool × Int × Int) h Kn => law44_ContentSolves_l11 a_3 b_4 c_5 l_7a l_7n l_7c p_10 Q Kn7 s.1 s.2.1 s.2.2 h Kn) (want_8, least_9, q_11) h) ?_ ?_ ?_
                  · kernel_rfl
                  · skip
                    exact eqMp (by as_aux_lemma => kernel_rfl : _ = law44_ContentSolves_b10 a_3 b_4 c_5 l_7a l_7n l_7c want_8 least_9 p_10 Q Kn7 h) hk
                  · intro e h hp hk
                    have f3 := (hp 3 (by kernel_rfl)).trans f3
                    have f4 := (hp 4 (by kernel_rfl)).trans f4
                    have f5 := (hp 5 (by kernel_rfl)).trans f5
                    have f7 := (hp 7 (by kernel_rfl)).trans f7
                    have f8 := (hp 8 (by kernel_rfl)).trans f8
                    have f9 := (hp 9 (by kernel_rfl)).trans f9
                    have f10 := (hp 10 (by kernel_rfl)).trans f10
                    clear hp
                    obtain ⟨q_11, f11, hk⟩ := dI_elim hk
                    refine EWP.block ?_
                    refine EWP.loopV (fun e (s : Bool × Int × Int) => e 3 = Value.pointer (some a_3) ∧ e 4 = Value.pointer (some b_4) ∧ e 5 = Value.pointer (some c_5) ∧ e 7 = Value.slice l_7a l_7n l_7c ∧ e 10 = Value.int .i64 p_10 ∧ e 8 = Value.bool s.1 ∧ e 9 = Value.int .i64 s.2.1 ∧ e 11 = Value.int .i64 s.2.2) ⟨f3, f4, f5, f7, f10, f8, f9, f11⟩ hk ?_
                    rintro e ⟨want_8, least_9, q_11⟩ h Kn11 ⟨f3, f4, f5, f7, f10, f8, f9, f11⟩ hk
                    have f8 : e 8 = Value.bool want_8 := f8
                    have f9 : e 9 = Value.int .i64 least_9 := f9
                    have f11 : e 11 = Value.int .i64 q_11 := f11
                    have hk : law44_ContentSolves_l11 a_3 b_4 c_5 l_7a l_7n l_7c p_10 Q Kn7 want_8 least_9 q_11 h Kn11 := hk
                    refine EWP.seqC (fun e h => e 3 = Value.pointer (some a_3) ∧ e 4 = Value.pointer (some b_4) ∧ e 5 = Value.pointer (some c_5) ∧ e 7 = Value.slice l_7a l_7n l_7c ∧ e 8 = Value.bool want_8 ∧ e 9 = Value.int .i64 least_9 ∧ e 10 = Value.int .i64 p_10 ∧ e 11 = Value.int .i64 q_11 ∧ law44_ContentSolves_b13 a_3 b_4 c_5 l_7a l_7n l_7c want_8 least_9 p_10 q_11 Q Kn7 Kn11 h) ?_ ?_
                    · have he : upd (upd (upd e 5 (Value.pointer (some c_5))) 8 (Value.bool want_8)) 11 (Value.int .i64 q_11) = e := by rw [upd_self f5, upd_self f8, upd_self f11]
                      refine EWP.seqR (fun e h => dB (e 66) fun t66 => if t66 = true then (law44_ContentSolves_b13 a_3 b_4 c_5 l_7a l_7n l_7c want_8 least_9 p_10 q_11 Q Kn7 Kn11 h) else (law44_ContentSolves_b27 a_3 b_4 c_5 l_7a l_7n l_7c want_8 least_9 p_10 Q Kn7 h)) ?_ ?_ ?_
                      · kernel_rfl
                      · rw [← he]
                        exact eqMp (by as_aux_lemma => kernel_rfl : _ = law44_ContentSolves_b12 a_3 b_4 c_5 l_7a l_7n l_7c want_8 least_9 p_10 q_11 Q Kn7 Kn11 h) hk
                      · intro e h hp hk
                        have f3 := (hp 3 (by kernel_rfl)).trans f3
                        have f4 := (hp 4 (by kernel_rfl)).trans f4
                        have f5 := (hp 5 (by kernel_rfl)).trans f5
                        have f7 := (hp 7 (by kernel_rfl)).trans f7
                        have f8 := (hp 8 (by kernel_rfl)).trans f8
                        have f9 := (hp 9 (by kernel_rfl)).trans f9
                        have f10 := (hp 10 (by kernel_rfl)).trans f10
                        have f11 := (hp 11 (by kernel_rfl)).trans f11
                        clear hp
                        obtain ⟨t66, f66, hk⟩ := dB_elim hk
                        have fc : eev e (.tmp 66) = .bool t66 := f66
                        refine EWP.condI fc hk ?_ ?_
                        · intro hk
                          refine EWP.skip ?_
                          exact (show _ ∧ _ from ⟨rfl, f3, f4, f5, f7, f8, f9, f10, f11, hk⟩)
                        · intro hk
                          refine EWP.exit ?_
                          exact (show _ ∧ _ from ⟨rfl, f3, f4, f5, f7, f10, dB_intro f8 (dI_intro f9 (hk))⟩)
                    · rintro e h ⟨f3, f4, f5, f7, f8, f9, f10, f11, hk⟩
                      refine EWP.seqC (fun e h => e 3 = Value.pointer (some a_3) ∧ e 4 = Value.pointer (some b_4) ∧ e 5 = Value.pointer (some c_5) ∧ e 7 = Value.slice l_7a l_7n l_7c ∧ e 10 = Value.int .i64 p_10 ∧ e 11 = Value.int .i64 q_11 ∧ dB (e 8) fun want_8 => dI .i64 (e 9) fun least_9 => law44_ContentSolves_b18 a_3 b_4 c_5 l_7a l_7n l_7c want_8 least_9 p_10 q_11 Q Kn7 Kn11 h) ?_ ?_
                      · refine EWP.block ?_
                        have he : upd (upd e 3 (Value.pointer (some a_3))) 10 (Value.int .i64 p_10) = e := by rw [upd_self f3, upd_self f10]
                        refine EWP.seqR (fun e h => dI .i64 (e 12) fun cursor_12 => law44_ContentSolves_b15 a_3 b_4 c_5 l_7a l_7n l_7c want_8 least_9 p_10 q_11 cursor_12 Q Kn7 Kn11 h) ?_ ?_ ?_
                        · kernel_rfl
                        · rw [← he]
                          exact eqMp (by as_aux_lemma => kernel_rfl : _ = law44_ContentSolves_b14 a_3 b_4 c_5 l_7a l_7n l_7c want_8 least_9 p_10 q_11 Q Kn7 Kn11 h) hk
                        · intro e h hp hk
                          have f3 := (hp 3 (by kernel_rfl)).trans f3
                          have f4 := (hp 4 (by kernel_rfl)).trans f4
                          have f5 := (hp 5 (by kernel_rfl)).trans f5
                          have f7 := (hp 7 (by kernel_rfl)).trans f7
                          have f8 := (hp 8 (by kernel_rfl)).trans f8
                          have f9 := (hp 9 (by kernel_rfl)).trans f9
                          have f10 := (hp 10 (by kernel_rfl)).trans f10
                          have f11 := (hp 11 (by kernel_rfl)).trans f11
                          clear hp
                          obtain ⟨cursor_12, f12, hk⟩ := dI_elim hk
                          have he : upd (upd e 3 (Value.pointer (some a_3))) 5 (Value.pointer (some c_5)) = e := by rw [upd_self f3, upd_self f5]
                          refine EWP.seqR (fun e h => dI .i64 (e 13) fun x_13 => dI .i64 (e 14) fun y_14 => law44_ContentSolves_b16 a_3 b_4 c_5 l_7a l_7n l_7c want_8 least_9 p_10 q_11 cursor_12 x_13 y_14 Q Kn7 Kn11 h) ?_ ?_ ?_
                          · kernel_rfl
                          · rw [← he]
                            exact eqMp (by as_aux_lemma => kernel_rfl : _ = law44_ContentSolves_b15 a_3 b_4 c_5 l_7a l_7n l_7c want_8 least_9 p_10 q_11 cursor_12 Q Kn7 Kn11 h) hk
                          · intro e h hp hk
                            have f3 := (hp 3 (by kernel_rfl)).trans f3
                            have f4 := (hp 4 (by kernel_rfl)).trans f4
                            have f5 := (hp 5 (by kernel_rfl)).trans f5
                            have f7 := (hp 7 (by kernel_rfl)).trans f7
                            have f8 := (hp 8 (by kernel_rfl)).trans f8
                            have f9 := (hp 9 (by kernel_rfl)).trans f9
                            have f10 := (hp 10 (by kernel_rfl)).trans f10
                            have f11 := (hp 11 (by kernel_rfl)).trans f11
                            have f12 := (hp 12 (by kernel_rfl)).trans f12
                            clear hp
                            obtain ⟨x_13, f13, hk⟩ := dI_elim hk
                            obtain ⟨y_14, f14, hk⟩ := dI_elim hk
                            have he : upd (upd (upd e 4 (Value.pointer (some b_4))) 5 (Value.pointer (some c_5))) 12 (Value.int .i64 cursor_12) = e := by rw [upd_self f4, upd_self f5, upd_self f12]
                            refine EWP.seqR (fun e h => dI .i64 (e 15) fun z_15 => dI .i64 (e 16) fun w_16 => law44_ContentSolves_b17 a_3 b_4 c_5 l_7a l_7n l_7c want_8 least_9 p_10 q_11 x_13 y_14 z_15 w_16 Q Kn7 Kn11 h) ?_ ?_ ?_
                            · kernel_rfl
                            · rw [← he]
                              exact eqMp (by as_aux_lemma => kernel_rfl : _ = law44_ContentSolves_b16 a_3 b_4 c_5 l_7a l_7n l_7c want_8 least_9 p_10 q_11 cursor_12 x_13 y_14 Q Kn7 Kn11 h) hk
                            · intro e h hp hk
                              have f3 := (hp 3 (by kernel_rfl)).trans f3
                              have f4 := (hp 4 (by kernel_rfl)).trans f4
                              have f5 := (hp 5 (by kernel_rfl)).trans f5
                              have f7 := (hp 7 (by kernel_rfl)).trans f7
                              have f8 := (hp 8 (by kernel_rfl)).trans f8
                              have f9 := (hp 9 (by kernel_rfl)).trans f9
                              have f10 := (hp 10 (by kernel_rfl)).trans f10
                              have f11 := (hp 11 (by kernel_rfl)).trans f11
                              have f13 := (hp 13 (by kernel_rfl)).trans f13
                              have f14 := (hp 14 (by kernel_rfl)).trans f14
                              clear hp
                              obtain ⟨z_15, f15, hk⟩ := dI_elim hk
                              obtain ⟨w_16, f16, hk⟩ := dI_elim hk
                              refine EWP.seqC (fun e h => e 3 = Value.pointer (some a_3) ∧ e 4 = Value.pointer (some b_4) ∧ e 5 = Value.pointer (some c_5) ∧ e 7 = Value.slice l_7a l_7n l_7c ∧ e 10 = Value.int .i64 p_10 ∧ e 11 = Value.int .i64 q_11 ∧ law44_ContentSolves_b19 a_3 b_4 c_5 l_7a l_7n l_7c p_10 q_11 Q Kn7 Kn11 h) ?_ ?_
                              · have he : upd (upd (upd (upd (upd (upd (upd (upd (upd e 3 (Value.pointer (some a_3))) 4 (Value.pointer (some b_4))) 5 (Value.pointer (some c_5))) 10 (Value.int .i64 p_10)) 11 (Value.int .i64 q_11)) 13 (Value.int .i64 x_13)) 14 (Value.int .i64 y_14)) 15 (Value.int .i64 z_15)) 16 (Value.int .i64 w_16) = e := by rw [upd_self f3, upd_self f4, upd_self f5, upd_self f10, upd_self f11, upd_self f13, upd_self f14, upd_self f15, upd_self f16]
                                refine EWP.seqR (fun e h => dB (e 124) fun t124 => if t124 = true then (law44_ContentSolves_b18 a_3 b_4 c_5 l_7a l_7n l_7c want_8 least_9 p_10 q_11 Q Kn7 Kn11 h) else (law44_ContentSolves_b19 a_3 b_4 c_5 l_7a l_7n l_7c p_10 q_11 Q Kn7 Kn11 h)) ?_ ?_ ?_
                                · kernel_rfl
                                · rw [← he]
                                  exact eqMp (by as_aux_lemma => kernel_rfl : _ = law44_ContentSolves_b17 a_3 b_4 c_5 l_7a l_7n l_7c want_8 least_9 p_10 q_11 x_13 y_14 z_15 w_16 Q Kn7 Kn11 h) hk
                                · intro e h hp hk
                                  have f3 := (hp 3 (by kernel_rfl)).trans f3
                                  have f4 := (hp 4 (by kernel_rfl)).trans f4
                                  have f5 := (hp 5 (by kernel_rfl)).trans f5
                                  have f7 := (hp 7 (by kernel_rfl)).trans f7
                                  have f8 := (hp 8 (by kernel_rfl)).trans f8
                                  have f9 := (hp 9 (by kernel_rfl)).trans f9
                                  have f10 := (hp 10 (by kernel_rfl)).trans f10
                                  have f11 := (hp 11 (by kernel_rfl)).trans f11
                                  clear hp
                                  obtain ⟨t124, f124, hk⟩ := dB_elim hk
                                  have fc : eev e (.tmp 124) = .bool t124 := f124
                                  refine EWP.condI fc hk ?_ ?_
                                  · intro hk
                                    refine EWP.exit ?_
                                    exact (show _ ∧ _ from ⟨rfl, f3, f4, f5, f7, f10, f11, dB_intro f8 (dI_intro f9 (hk))⟩)
                                  · intro hk
                                    refine EWP.skip ?_
                                    exact (show _ ∧ _ from ⟨rfl, f3, f4, f5, f7, f10, f11, hk⟩)
                              · rintro e h ⟨f3, f4, f5, f7, f10, f11, hk⟩
                                have he : upd (upd e 4 (Value.pointer (some b_4))) 11 (Value.int .i64 q_11) = e := by rw [upd_self f4, upd_self f11]
                                refine EWP.seqR (fun e h => dI .i64 (e 9) fun least_9 => law44_ContentSolves_b20 a_3 b_4 c_5 l_7a l_7n l_7c least_9 p_10 q_11 Q Kn7 Kn11 h) ?_ ?_ ?_
                                · kernel_rfl
                                · rw [← he]
                                  exact eqMp (by as_aux_lemma => kernel_rfl : _ = law44_ContentSolves_b19 a_3 b_4 c_5 l_7a l_7n l_7c p_10 q_11 Q Kn7 Kn11 h) hk
                                · intro e h hp hk
                                  have f3 := (hp 3 (by kernel_rfl)).trans f3
                                  have f4 := (hp 4 (by kernel_rfl)).trans f4
                                  have f5 := (hp 5 (by kernel_rfl)).trans f5
                                  have f7 := (hp 7 (by kernel_rfl)).trans f7
                                  have f10 := (hp 10 (by kernel_rfl)).trans f10
                                  have f11 := (hp 11 (by kernel_rfl)).trans f11
                                  clear hp
                                  obtain ⟨least_9, f9, hk⟩ := dI_elim hk
                                  refine EWP.seqR (fun e h => dB (e 8) fun want_8 => law44_ContentSolves_b21 a_3 b_4 c_5 l_7a l_7n l_7c want_8 least_9 p_10 q_11 Q Kn7 Kn11 h) ?_ ?_ ?_
                                  · kernel_rfl
                                  · skip
                                    exact eqMp (by as_aux_lemma => kernel_rfl : _ = law44_ContentSolves_b20 a_3 b_4 c_5 l_7a l_7n l_7c least_9 p_10 q_11 Q Kn7 Kn11 h) hk
                                  · intro e h hp hk
                                    have f3 := (hp 3 (by kernel_rfl)).trans f3
                                    have f4 := (hp 4 (by kernel_rfl)).trans f4
                                    have f5 := (hp 5 (by kernel_rfl)).trans f5
                                    have f7 := (hp 7 (by kernel_rfl)).trans f7
                                    have f9 := (hp 9 (by kernel_rfl)).trans f9
                                    have f10 := (hp 10 (by kernel_rfl)).trans f10
                                    have f11 := (hp 11 (by kernel_rfl)).trans f11
                                    clear hp
                                    obtain ⟨want_8, f8, hk⟩ := dB_elim hk
                                    refine EWP.seqR (fun e h => dI .i64 (e 17) fun i_17 => LoopV (fun (s : Bool × Int) h Kn => law44_ContentSolves_l22 a_3 b_4 c_5 l_7a l_7n l_7c least_9 p_10 q_11 Q Kn7 Kn11 s.1 s.2 h Kn) (want_8, i_17) h) ?_ ?_ ?_
                                    · kernel_rfl
                                    · skip
                                      exact eqMp (by as_aux_lemma => kernel_rfl : _ = law44_ContentSolves_b21 a_3 b_4 c_5 l_7a l_7n l_7c want_8 least_9 p_10 q_11 Q Kn7 Kn11 h) hk
                                    · intro e h hp hk
                                      have f3 := (hp 3 (by kernel_rfl)).trans f3
                                      have f4 := (hp 4 (by kernel_rfl)).trans f4
                                      have f5 := (hp 5 (by kernel_rfl)).trans f5
                                      have f7 := (hp 7 (by kernel_rfl)).trans f7
                                      have f8 := (hp 8 (by kernel_rfl)).trans f8
                                      have f9 := (hp 9 (by kernel_rfl)).trans f9
                                      have f10 := (hp 10 (by kernel_rfl)).trans f10
                                      have f11 := (hp 11 (by kernel_rfl)).trans f11
                                      clear hp
                                      obtain ⟨i_17, f17, hk⟩ := dI_elim hk
                                      refine EWP.block ?_
                                      refine EWP.loopV (fun e (s : Bool × Int) => e 3 = Value.pointer (some a_3) ∧ e 4 = Value.pointer (some b_4) ∧ e 5 = Value.pointer (some c_5) ∧ e 7 = Value.slice l_7a l_7n l_7c ∧ e 9 = Value.int .i64 least_9 ∧ e 10 = Value.int .i64 p_10 ∧ e 11 = Value.int .i64 q_11 ∧ e 8 = Value.bool s.1 ∧ e 17 = Value.int .i64 s.2) ⟨f3, f4, f5, f7, f9, f10, f11, f8, f17⟩ hk ?_
                                      rintro e ⟨want_8, i_17⟩ h Kn22 ⟨f3, f4, f5, f7, f9, f10, f11, f8, f17⟩ hk
                                      have f8 : e 8 = Value.bool want_8 := f8
                                      have f17 : e 17 = Value.int .i64 i_17 := f17
                                      have hk : law44_ContentSolves_l22 a_3 b_4 c_5 l_7a l_7n l_7c least_9 p_10 q_11 Q Kn7 Kn11 want_8 i_17 h Kn22 := hk
                                      refine EWP.seqC (fun e h => e 3 = Value.pointer (some a_3) ∧ e 4 = Value.pointer (some b_4) ∧ e 5 = Value.pointer (some c_5) ∧ e 7 = Value.slice l_7a l_7n l_7c ∧ e 8 = Value.bool want_8 ∧ e 9 = Value.int .i64 least_9 ∧ e 10 = Value.int .i64 p_10 ∧ e 11 = Value.int .i64 q_11 ∧ e 17 = Value.int .i64 i_17 ∧ law44_ContentSolves_b24 a_3 b_4 c_5 l_7a l_7n l_7c want_8 least_9 p_10 q_11 i_17 Q Kn7 Kn11 Kn22 h) ?_ ?_
                                      · have he : upd (upd e 5 (Value.pointer (some c_5))) 17 (Value.int .i64 i_17) = e := by rw [upd_self f5, upd_self f17]
                                        refine EWP.seqR (fun e h => dB (e 134) fun t134 => if t134 = true then (law44_ContentSolves_b24 a_3 b_4 c_5 l_7a l_7n l_7c want_8 least_9 p_10 q_11 i_17 Q Kn7 Kn11 Kn22 h) else (law44_ContentSolves_b18 a_3 b_4 c_5 l_7a l_7n l_7c want_8 least_9 p_10 q_11 Q Kn7 Kn11 h)) ?_ ?_ ?_
                                        · kernel_rfl
                                        · rw [← he]
                                          exact eqMp (by as_aux_lemma => kernel_rfl : _ = law44_ContentSolves_b23 a_3 b_4 c_5 l_7a l_7n l_7c want_8 least_9 p_10 q_11 i_17 Q Kn7 Kn11 Kn22 h) hk
                                        · intro e h hp hk
                                          have f3 := (hp 3 (by kernel_rfl)).trans f3
                                          have f4 := (hp 4 (by kernel_rfl)).trans f4
                                          have f5 := (hp 5 (by kernel_rfl)).trans f5
                                          have f7 := (hp 7 (by kernel_rfl)).trans f7
                                          have f8 := (hp 8 (by kernel_rfl)).trans f8
                                          have f9 := (hp 9 (by kernel_rfl)).trans f9
                                          have f10 := (hp 10 (by kernel_rfl)).trans f10
                                          have f11 := (hp 11 (by kernel_rfl)).trans f11
                                          have f17 := (hp 17 (by kernel_rfl)).trans f17
                                          clear hp
                                          obtain ⟨t134, f134, hk⟩ := dB_elim hk
                                          have fc : eev e (.tmp 134) = .bool t134 := f134
                                          refine EWP.condI fc hk ?_ ?_
                                          · intro hk
                                            refine EWP.skip ?_
                                            exact (show _ ∧ _ from ⟨rfl, f3, f4, f5, f7, f8, f9, f10, f11, f17, hk⟩)
                                          · intro hk
                                            refine EWP.exit ?_
                                            exact (show _ ∧ _ from ⟨rfl, f3, f4, f5, f7, f10, f11, dB_intro f8 (dI_intro f9 (hk))⟩)
                                      · rintro e h ⟨f3, f4, f5, f7, f8, f9, f10, f11, f17, hk⟩
                                        refine EWP.seqC (fun e h => e 3 = Value.pointer (some a_3) ∧ e 4 = Value.pointer (some b_4) ∧ e 5 = Value.pointer (some c_5) ∧ e 7 = Value.slice l_7a l_7n l_7c ∧ e 9 = Value.int .i64 least_9 ∧ e 10 = Value.int .i64 p_10 ∧ e 11 = Value.int .i64 q_11 ∧ e 17 = Value.int .i64 i_17 ∧ dB (e 8) fun want_8 => law44_ContentSolves_b26 a_3 b_4 c_5 l_7a l_7n l_7c want_8 least_9 p_10 q_11 i_17 Q Kn7 Kn11 Kn22 h) ?_ ?_
                                        · refine EWP.block ?_
                                          have he : upd (upd (upd (upd e 5 (Value.pointer (some c_5))) 8 (Value.bool want_8)) 9 (Value.int .i64 least_9)) 17 (Value.int .i64 i_17) = e := by rw [upd_self f5, upd_self f8, upd_self f9, upd_self f17]
                                          refine EWP.drawN (fun e h => dB (e 8) fun want_8 => law44_ContentSolves_b26 a_3 b_4 c_5 l_7a l_7n l_7c want_8 least_9 p_10 q_11 i_17 Q Kn7 Kn11 Kn22 h) ?_ ?_ ?_ ?_
                                          · kernel_rfl
                                          · kernel_rfl
                                          · rw [← he]
                                            exact eqMp (by as_aux_lemma => kernel_rfl : _ = law44_ContentSolves_b25 a_3 b_4 c_5 l_7a l_7n l_7c want_8 least_9 p_10 q_11 i_17 Q Kn7 Kn11 Kn22 h) hk
                                          · intro e h hp hk
                                            have f3 := (hp 3 (by kernel_rfl)).trans f3
                                            have f4 := (hp 4 (by kernel_rfl)).trans f4
                                            have f5 := (hp 5 (by kernel_rfl)).trans f5
                                            have f7 := (hp 7 (by kernel_rfl)).trans f7
                                            have f9 := (hp 9 (by kernel_rfl)).trans f9
                                            have f10 := (hp 10 (by kernel_rfl)).trans f10
                                            have f11 := (hp 11 (by kernel_rfl)).trans f11
                                            have f17 := (hp 17 (by kernel_rfl)).trans f17
                                            clear hp
                                            obtain ⟨want_8, f8, hk⟩ := dB_elim hk
                                            exact (show _ ∧ _ from ⟨rfl, f3, f4, f5, f7, f9, f10, f11, f17, dB_intro f8 (hk)⟩)
                                        · rintro e h ⟨f3, f4, f5, f7, f9, f10, f11, f17, hk⟩
                                          obtain ⟨want_8, f8, hk⟩ := dB_elim hk
                                          have he : upd e 17 (Value.int .i64 i_17) = e := by rw [upd_self f17]
                                          refine EWP.regionN (fun e h => dI .i64 (e 17) fun i_17 => Kn22 (want_8, i_17) h) ?_ ?_ ?_
                                          · kernel_rfl
                                          · rw [← he]
                                            exact eqMp (by as_aux_lemma => kernel_rfl : _ = law44_ContentSolves_b26 a_3 b_4 c_5 l_7a l_7n l_7c want_8 least_9 p_10 q_11 i_17 Q Kn7 Kn11 Kn22 h) hk
                                          · intro e h hp hk
                                            have f3 := (hp 3 (by kernel_rfl)).trans f3
                                            have f4 := (hp 4 (by kernel_rfl)).trans f4
                                            have f5 := (hp 5 (by kernel_rfl)).trans f5
                                            have f7 := (hp 7 (by kernel_rfl)).trans f7
                                            have f8 := (hp 8 (by kernel_rfl)).trans f8
                                            have f9 := (hp 9 (by kernel_rfl)).trans f9
                                            have f10 := (hp 10 (by kernel_rfl)).trans f10
                                            have f11 := (hp 11 (by kernel_rfl)).trans f11
                                            clear hp
                                            obtain ⟨i_17, f17, hk⟩ := dI_elim hk
                                            exact (show _ ∧ _ from ⟨rfl, (want_8, i_17), ⟨f3, f4, f5, f7, f9, f10, f11, f8, f17⟩, hk⟩)
                      · rintro e h ⟨f3, f4, f5, f7, f10, f11, hk⟩
                        obtain ⟨want_8, f8, hk⟩ := dB_elim hk
                        obtain ⟨least_9, f9, hk⟩ := dI_elim hk
                        have he : upd e 11 (Value.int .i64 q_11) = e := by rw [upd_self f11]
                        refine EWP.regionN (fun e h => dI .i64 (e 11) fun q_11 => Kn11 (want_8, least_9, q_11) h) ?_ ?_ ?_
                        · kernel_rfl
                        · rw [← he]
                          exact eqMp (by as_aux_lemma => kernel_rfl : _ = law44_ContentSolves_b18 a_3 b_4 c_5 l_7a l_7n l_7c want_8 least_9 p_10 q_11 Q Kn7 Kn11 h) hk
                        · intro e h hp hk
                          have f3 := (hp 3 (by kernel_rfl)).trans f3
                          have f4 := (hp 4 (by kernel_rfl)).trans f4
                          have f5 := (hp 5 (by kernel_rfl)).trans f5
                          have f7 := (hp 7 (by kernel_rfl)).trans f7
                          have f8 := (hp 8 (by kernel_rfl)).trans f8
                          have f9 := (hp 9 (by kernel_rfl)).trans f9
                          have f10 := (hp 10 (by kernel_rfl)).trans f10
                          clear hp
                          obtain ⟨q_11, f11, hk⟩ := dI_elim hk
                          exact (show _ ∧ _ from ⟨rfl, (want_8, least_9, q_11), ⟨f3, f4, f5, f7, f10, f8, f9, f11⟩, hk⟩)
                · rintro e h ⟨f3, f4, f5, f7, f10, hk⟩
                  obtain ⟨want_8, f8, hk⟩ := dB_elim hk
                  obtain ⟨least_9, f9, hk⟩ := dI_elim hk
                  have he : upd e 10 (Value.int .i64 p_10) = e := by rw [upd_self f10]
                  refine EWP.regionN (fun e h => dI .i64 (e 10) fun p_10 => Kn7 (want_8, least_9, p_10) h) ?_ ?_ ?_
                  · kernel_rfl
                  · rw [← he]
                    exact eqMp (by as_aux_lemma => kernel_rfl : _ = law44_ContentSolves_b27 a_3 b_4 c_5 l_7a l_7n l_7c want_8 least_9 p_10 Q Kn7 h) hk
                  · intro e h hp hk
                    have f3 := (hp 3 (by kernel_rfl)).trans f3
                    have f4 := (hp 4 (by kernel_rfl)).trans f4
                    have f5 := (hp 5 (by kernel_rfl)).trans f5
                    have f7 := (hp 7 (by kernel_rfl)).trans f7
                    have f8 := (hp 8 (by kernel_rfl)).trans f8
                    have f9 := (hp 9 (by kernel_rfl)).trans f9
                    clear hp
                    obtain ⟨p_10, f10, hk⟩ := dI_elim hk
                    exact (show _ ∧ _ from ⟨rfl, (want_8, least_9, p_10), ⟨f3, f4, f5, f7, f8, f9, f10⟩, hk⟩)
          · rintro e h ⟨f5, f7, hk⟩
            obtain ⟨want_8, f8, hk⟩ := dB_elim hk
            obtain ⟨least_9, f9, hk⟩ := dI_elim hk
            have he : upd (upd e 5 (Value.pointer (some c_5))) 7 (Value.slice l_7a l_7n l_7c) = e := by rw [upd_self f5, upd_self f7]
            refine EWP.seqR (fun e h => dB (e 18) fun ok_18 => dI .i64 (e 19) fun end_19 => dI .i64 (e 21) fun e_21 => law44_ContentSolves_b29 want_8 least_9 ok_18 end_19 e_21 Q h) ?_ ?_ ?_
            · kernel_rfl
            · rw [← he]
              exact eqMp (by as_aux_lemma => kernel_rfl : _ = law44_ContentSolves_b28 c_5 l_7a l_7n l_7c want_8 least_9 Q h) hk
            · intro e h hp hk
              have f8 := (hp 8 (by kernel_rfl)).trans f8
              have f9 := (hp 9 (by kernel_rfl)).trans f9
              clear hp
              obtain ⟨ok_18, f18, hk⟩ := dB_elim hk
              obtain ⟨end_19, f19, hk⟩ := dI_elim hk
              obtain ⟨e_21, f21, hk⟩ := dI_elim hk
              refine EWP.seqC (fun e h => e 8 = Value.bool want_8 ∧ e 9 = Value.int .i64 least_9 ∧ e 19 = Value.int .i64 end_19 ∧ law44_ContentSolves_b31 want_8 least_9 end_19 Q h) ?_ ?_
              · have he : upd (upd (upd e 8 (Value.bool want_8)) 18 (Value.bool ok_18)) 21 (Value.int .i64 e_21) = e := by rw [upd_self f8, upd_self f18, upd_self f21]
                refine EWP.seqR (fun e h => dB (e 166) fun t166 => if t166 = true then (law44_ContentSolves_b30 Q h) else (law44_ContentSolves_b31 want_8 least_9 end_19 Q h)) ?_ ?_ ?_
                · kernel_rfl
                · rw [← he]
                  exact eqMp (by as_aux_lemma => kernel_rfl : _ = law44_ContentSolves_b29 want_8 least_9 ok_18 end_19 e_21 Q h) hk
                · intro e h hp hk
                  have f8 := (hp 8 (by kernel_rfl)).trans f8
                  have f9 := (hp 9 (by kernel_rfl)).trans f9
                  have f19 := (hp 19 (by kernel_rfl)).trans f19
                  clear hp
                  obtain ⟨t166, f166, hk⟩ := dB_elim hk
                  have fc : eev e (.tmp 166) = .bool t166 := f166
                  refine EWP.condI fc hk ?_ ?_
                  · intro hk
                    refine EWP.seqR (fun e h => dB (e 6) fun t6 => Q (Value.bool t6) h) ?_ ?_ ?_
                    · kernel_rfl
                    · skip
                      exact eqMp (by as_aux_lemma => kernel_rfl : _ = law44_ContentSolves_b30 Q h) hk
                    · intro e h hp hk
                      clear hp
                      obtain ⟨t6, f6, hk⟩ := dB_elim hk
                      refine EWP.ret ?_
                      have he : upd e 6 (Value.bool t6) = e := by rw [upd_self f6]
                      refine (show _ ∧ _ from ⟨rfl, ?_⟩)
                      rw [← he]
                      exact eqMp (by as_aux_lemma => kernel_rfl : _ = (Q (Value.bool t6) h)) hk
                  · intro hk
                    refine EWP.skip ?_
                    exact (show _ ∧ _ from ⟨rfl, f8, f9, f19, hk⟩)
              · rintro e h ⟨f8, f9, f19, hk⟩
                have he : upd (upd (upd e 8 (Value.bool want_8)) 9 (Value.int .i64 least_9)) 19 (Value.int .i64 end_19) = e := by rw [upd_self f8, upd_self f9, upd_self f19]
                refine EWP.seqR (fun e h => dB (e 6) fun t6 => Q (Value.bool t6) h) ?_ ?_ ?_
                · kernel_rfl
                · rw [← he]
                  exact eqMp (by as_aux_lemma => kernel_rfl : _ = law44_ContentSolves_b31 want_8 least_9 end_19 Q h) hk
                · intro e h hp hk
                  clear hp
                  obtain ⟨t6, f6, hk⟩ := dB_elim hk
                  refine EWP.ret ?_
                  have he : upd e 6 (Value.bool t6) = e := by rw [upd_self f6]
                  refine (show _ ∧ _ from ⟨rfl, ?_⟩)
                  rw [← he]
                  exact eqMp (by as_aux_lemma => kernel_rfl : _ = (Q (Value.bool t6) h)) hk
theorem law44_ContentSolves_s (a_0_0 : ByteArray) (a_0_1 : Bool) (a_0_2 : Bool) (a_0_3 : Bool) (a_0_4 : Int) (a_0_5 : Int) (a_0_6 : Bool) (b_1_0 : ByteArray) (b_1_1 : Bool) (b_1_2 : Bool) (b_1_3 : Bool) (b_1_4 : Int) (b_1_5 : Int) (b_1_6 : Bool) (c_2_0a : Option Addr) (c_2_0n : Nat) (c_2_0c : Nat) (c_2_1a : Option Addr) (c_2_1n : Nat) (c_2_1c : Nat) (c_2_2 : ByteArray) (c_2_3 : Int) {Q : Value → Heap → Prop} {h : Heap} (hk : law44_ContentSolves_v a_0_0 a_0_1 a_0_2 a_0_3 a_0_4 a_0_5 a_0_6 b_1_0 b_1_1 b_1_2 b_1_3 b_1_4 b_1_5 b_1_6 c_2_0a c_2_0n c_2_0c c_2_1a c_2_1n c_2_1c c_2_2 c_2_3 Q h) : CallT Try.prog fn_law44_ContentSolves #[Value.agg #[Value.string a_0_0, Value.bool a_0_1, Value.bool a_0_2, Value.bool a_0_3, Value.int .i64 a_0_4, Value.int .i64 a_0_5, Value.bool a_0_6], Value.agg #[Value.string b_1_0, Value.bool b_1_1, Value.bool b_1_2, Value.bool b_1_3, Value.int .i64 b_1_4, Value.int .i64 b_1_5, Value.bool b_1_6], Value.agg #[Value.slice c_2_0a c_2_0n c_2_0c, Value.slice c_2_1a c_2_1n c_2_1c, Value.string c_2_2, Value.int .i64 c_2_3]] h Q := by
  obtain ⟨c, hb, he⟩ := law44_ContentSolves_e a_0_0 a_0_1 a_0_2 a_0_3 a_0_4 a_0_5 a_0_6 b_1_0 b_1_1 b_1_2 b_1_3 b_1_4 b_1_5 b_1_6 c_2_0a c_2_0n c_2_0c c_2_1a c_2_1n c_2_1c c_2_2 c_2_3 Q h hk
  exact callT_of (N := 184) Try.func6 hb rfl (Try.call6 _) (Nat.le_of_ble_eq_true rfl) he
/-! ### intrusion/intrusionlaw44.ContentBudgets -/
def law44_ContentBudgets_b3 (Q : Value → Heap → Prop) (h : Heap) : Prop :=
  CallT Try.prog fn_law44_awake #[] h fun v h3 => ∃ t24 : Bool, v = Value.bool t24 ∧ Q (Value.bool t24) h3
def law44_ContentBudgets_b6 (ok_7 : Bool) (end_8 : Int) (n_9 : Int) (e_10 : Int) (Q : Value → Heap → Prop) (h : Heap) : Prop :=
  if (e_10 == (16 : Int)) = true then (if (!ok_7) = true then (if (end_8 == (0 : Int)) = true then (if (n_9 == (20000 : Int)) = true then (CallT Try.prog fn_law44_awake #[] h fun v h5 => ∃ t54 : Bool, v = Value.bool t54 ∧ Q (Value.bool t54) h5) else (Q (Value.bool false) h)) else (Q (Value.bool false) h)) else (Q (Value.bool false) h)) else (Q (Value.bool false) h)
def law44_ContentBudgets_b9 (Q : Value → Heap → Prop) (h : Heap) : Prop :=
  Q (Value.bool false) h
def law44_ContentBudgets_b12 (Q : Value → Heap → Prop) (h : Heap) : Prop :=
  Q (Value.bool false) h
def law44_ContentBudgets_b15 (Q : Value → Heap → Prop) (h : Heap) : Prop :=
  CallT Try.prog fn_law44_awake #[] h fun v h7 => ∃ t97 : Bool, v = Value.bool t97 ∧ Q (Value.bool t97) h7
def law44_ContentBudgets_b18 (is_11 : Bool) (to_12 : Int) (k_13 : Int) (f_14 : Int) (b_15 : Int) (Q : Value → Heap → Prop) (h : Heap) : Prop :=
  if (!is_11) = true then (if (to_12 == (0 : Int)) = true then (if (k_13 == b_15) = true then (if (f_14 == (16 : Int)) = true then (CallT Try.prog fn_law44_awake #[] h fun v h9 => ∃ t131 : Bool, v = Value.bool t131 ∧ Q (Value.bool t131) h9) else (Q (Value.bool false) h)) else (Q (Value.bool false) h)) else (Q (Value.bool false) h)) else (Q (Value.bool false) h)
def law44_ContentBudgets_b17 (c_3 : Addr) (b_15 : Int) (Q : Value → Heap → Prop) (h : Heap) : Prop :=
  ldL h c_3 fun t104a t104n t104c => ldL h (Addr.add c_3 1) fun t106a t106n t106c => ldS h (Addr.add c_3 2) fun t108 => CallT Try.prog fn_content_Match #[Value.slice t104a t104n t104c, Value.slice t106a t106n t106c, Value.string t108, Value.int .i64 b_15] h fun v h8 => ∃ t110_0 : Bool, ∃ t110_1 : Int, ∃ t110_2 : Int, ∃ t110_3 : Int, v = Value.tuple #[Value.bool t110_0, Value.int .i64 t110_1, Value.int .i64 t110_2, Value.int .i64 t110_3] ∧ law44_ContentBudgets_b18 t110_0 t110_1 t110_2 t110_3 b_15 Q h8
def law44_ContentBudgets_b16 (less_1 : Int) (c_3 : Addr) (n_9 : Int) (Q : Value → Heap → Prop) (h : Heap) : Prop :=
  n_9 ≠ 0 ∧ law44_ContentBudgets_b17 c_3 (Int.tmod (IntKind.wrap .i64 less_1) n_9) Q h
def law44_ContentBudgets_b14 (less_1 : Int) (c_3 : Addr) (n_9 : Int) (Q : Value → Heap → Prop) (h : Heap) : Prop :=
  if (n_9 == (0 : Int)) = true then (law44_ContentBudgets_b15 Q h) else (law44_ContentBudgets_b16 less_1 c_3 n_9 Q h)
def law44_ContentBudgets_b13 (less_1 : Int) (c_3 : Addr) (n_9 : Int) (Q : Value → Heap → Prop) (h : Heap) : Prop :=
  law44_ContentBudgets_b14 less_1 c_3 n_9 Q h
def law44_ContentBudgets_b11 (less_1 : Int) (c_3 : Addr) (ok_7 : Bool) (end_8 : Int) (n_9 : Int) (is_11 : Bool) (to_12 : Int) (k_13 : Int) (f_14 : Int) (Q : Value → Heap → Prop) (h : Heap) : Prop :=
  if (!(is_11 == ok_7)) = true then (law44_ContentBudgets_b12 Q h) else (if (to_12 != end_8) = true then (law44_ContentBudgets_b12 Q h) else (if (k_13 != n_9) = true then (law44_ContentBudgets_b12 Q h) else (if (f_14 != (0 : Int)) = true then (law44_ContentBudgets_b12 Q h) else (law44_ContentBudgets_b13 less_1 c_3 n_9 Q h))))
def law44_ContentBudgets_b10 (less_1 : Int) (more_2 : Int) (c_3 : Addr) (ok_7 : Bool) (end_8 : Int) (n_9 : Int) (Q : Value → Heap → Prop) (h : Heap) : Prop :=
  ldL h c_3 fun t64a t64n t64c => ldL h (Addr.add c_3 1) fun t66a t66n t66c => ldS h (Addr.add c_3 2) fun t68 => CallT Try.prog fn_content_Match #[Value.slice t64a t64n t64c, Value.slice t66a t66n t66c, Value.string t68, Value.int .i64 (IntKind.wrap .i64 (n_9 + (IntKind.wrap .i64 more_2)))] h fun v h6 => ∃ t73_0 : Bool, ∃ t73_1 : Int, ∃ t73_2 : Int, ∃ t73_3 : Int, v = Value.tuple #[Value.bool t73_0, Value.int .i64 t73_1, Value.int .i64 t73_2, Value.int .i64 t73_3] ∧ law44_ContentBudgets_b11 less_1 c_3 ok_7 end_8 n_9 t73_0 t73_1 t73_2 t73_3 Q h6
def law44_ContentBudgets_b8 (less_1 : Int) (more_2 : Int) (c_3 : Addr) (ok_7 : Bool) (end_8 : Int) (n_9 : Int) (Q : Value → Heap → Prop) (h : Heap) : Prop :=
  if (decide (n_9 < (0 : Int))) = true then (law44_ContentBudgets_b9 Q h) else (if (decide (n_9 > (20000 : Int))) = true then (law44_ContentBudgets_b9 Q h) else (law44_ContentBudgets_b10 less_1 more_2 c_3 ok_7 end_8 n_9 Q h))
def law44_ContentBudgets_b7 (less_1 : Int) (more_2 : Int) (c_3 : Addr) (ok_7 : Bool) (end_8 : Int) (n_9 : Int) (Q : Value → Heap → Prop) (h : Heap) : Prop :=
  law44_ContentBudgets_b8 less_1 more_2 c_3 ok_7 end_8 n_9 Q h
def law44_ContentBudgets_b5 (less_1 : Int) (more_2 : Int) (c_3 : Addr) (ok_7 : Bool) (end_8 : Int) (n_9 : Int) (e_10 : Int) (Q : Value → Heap → Prop) (h : Heap) : Prop :=
  if (e_10 != (0 : Int)) = true then (law44_ContentBudgets_b6 ok_7 end_8 n_9 e_10 Q h) else (law44_ContentBudgets_b7 less_1 more_2 c_3 ok_7 end_8 n_9 Q h)
def law44_ContentBudgets_b4 (less_1 : Int) (more_2 : Int) (c_3 : Addr) (Q : Value → Heap → Prop) (h : Heap) : Prop :=
  ldL h c_3 fun t27a t27n t27c => ldL h (Addr.add c_3 1) fun t29a t29n t29c => ldS h (Addr.add c_3 2) fun t31 => CallT Try.prog fn_content_Match #[Value.slice t27a t27n t27c, Value.slice t29a t29n t29c, Value.string t31, Value.int .i64 (20000 : Int)] h fun v h4 => ∃ t32_0 : Bool, ∃ t32_1 : Int, ∃ t32_2 : Int, ∃ t32_3 : Int, v = Value.tuple #[Value.bool t32_0, Value.int .i64 t32_1, Value.int .i64 t32_2, Value.int .i64 t32_3] ∧ law44_ContentBudgets_b5 less_1 more_2 c_3 t32_0 t32_1 t32_2 t32_3 Q h4
def law44_ContentBudgets_b2 (less_1 : Int) (more_2 : Int) (c_3 : Addr) (Q : Value → Heap → Prop) (h : Heap) : Prop :=
  ldL h c_3 fun t17a t17n t17c => ldL h (Addr.add c_3 1) fun t19a t19n t19c => ldS h (Addr.add c_3 2) fun t21 => CallT Try.prog fn_law44_sound #[Value.slice t17a t17n t17c, Value.slice t19a t19n t19c, Value.string t21] h fun v h2 => ∃ t22 : Bool, v = Value.bool t22 ∧ if (!t22) = true then (law44_ContentBudgets_b3 Q h2) else (law44_ContentBudgets_b4 less_1 more_2 c_3 Q h2)
def law44_ContentBudgets_b1 (c_0_0a : Option Addr) (c_0_0n : Nat) (c_0_0c : Nat) (c_0_1a : Option Addr) (c_0_1n : Nat) (c_0_1c : Nat) (c_0_2 : ByteArray) (c_0_3 : Int) (less_1 : Int) (more_2 : Int) (Q : Value → Heap → Prop) (h : Heap) : Prop :=
  alV h (.cells #[Value.slice c_0_0a c_0_0n c_0_0c, Value.slice c_0_1a c_0_1n c_0_1c, Value.string c_0_2, Value.int .i64 c_0_3] 38) fun t3 h1 => law44_ContentBudgets_b2 less_1 more_2 t3 Q h1
def law44_ContentBudgets_v (c_0_0a : Option Addr) (c_0_0n : Nat) (c_0_0c : Nat) (c_0_1a : Option Addr) (c_0_1n : Nat) (c_0_1c : Nat) (c_0_2 : ByteArray) (c_0_3 : Int) (less_1 : Int) (more_2 : Int) (Q : Value → Heap → Prop) (h : Heap) : Prop :=
  law44_ContentBudgets_b1 c_0_0a c_0_0n c_0_0c c_0_1a c_0_1n c_0_1c c_0_2 c_0_3 less_1 more_2 Q h
set_option maxRecDepth 100000 in
theorem law44_ContentBudgets_e (c_0_0a : Option Addr) (c_0_0n : Nat) (c_0_0c : Nat) (c_0_1a : Option Addr) (c_0_1n : Nat) (c_0_1c : Nat) (c_0_2 : ByteArray) (c_0_3 : Int) (less_1 : Int) (more_2 : Int) (Q : Value → Heap → Prop) (h : Heap) (hk : law44_ContentBudgets_v c_0_0a c_0_0n c_0_0c c_0_1a c_0_1n c_0_1c c_0_2 c_0_3 less_1 more_2 Q h) :
    ∃ c, Try.f7.body = some c ∧ EWP Try.prog 133 c (fnPost Try.prog Try.f7 Q) (env0 #[Value.agg #[Value.slice c_0_0a c_0_0n c_0_0c, Value.slice c_0_1a c_0_1n c_0_1c, Value.string c_0_2, Value.int .i64 c_0_3], Value.int .u16 less_1, Value.int .u16 more_2]) [] h := by
  refine ⟨_, rfl, ?_⟩
  have hk : law44_ContentBudgets_b1 c_0_0a c_0_0n c_0_0c c_0_1a c_0_1n c_0_1c c_0_2 c_0_3 less_1 more_2 Q h := hk
  have f0 : env0 #[Value.agg #[Value.slice c_0_0a c_0_0n c_0_0c, Value.slice c_0_1a c_0_1n c_0_1c, Value.string c_0_2, Value.int .i64 c_0_3], Value.int .u16 less_1, Value.int .u16 more_2] 0 = Value.agg #[Value.slice c_0_0a c_0_0n c_0_0c, Value.slice c_0_1a c_0_1n c_0_1c, Value.string c_0_2, Value.int .i64 c_0_3] := rfl
  have f1 : env0 #[Value.agg #[Value.slice c_0_0a c_0_0n c_0_0c, Value.slice c_0_1a c_0_1n c_0_1c, Value.string c_0_2, Value.int .i64 c_0_3], Value.int .u16 less_1, Value.int .u16 more_2] 1 = Value.int .u16 less_1 := rfl
  have f2 : env0 #[Value.agg #[Value.slice c_0_0a c_0_0n c_0_0c, Value.slice c_0_1a c_0_1n c_0_1c, Value.string c_0_2, Value.int .i64 c_0_3], Value.int .u16 less_1, Value.int .u16 more_2] 2 = Value.int .u16 more_2 := rfl
  generalize env0 #[Value.agg #[Value.slice c_0_0a c_0_0n c_0_0c, Value.slice c_0_1a c_0_1n c_0_1c, Value.string c_0_2, Value.int .i64 c_0_3], Value.int .u16 less_1, Value.int .u16 more_2] = e at *
  have he : upd e 0 (Value.agg #[Value.slice c_0_0a c_0_0n c_0_0c, Value.slice c_0_1a c_0_1n c_0_1c, Value.string c_0_2, Value.int .i64 c_0_3]) = e := by rw [upd_self f0]
  refine EWP.seqR (fun e h => dA (e 3) fun c_3 => law44_ContentBudgets_b2 less_1 more_2 c_3 Q h) ?_ ?_ ?_
  · kernel_rfl
  · rw [← he]
    exact eqMp (by as_aux_lemma => kernel_rfl : _ = law44_ContentBudgets_b1 c_0_0a c_0_0n c_0_0c c_0_1a c_0_1n c_0_1c c_0_2 c_0_3 less_1 more_2 Q h) hk
  · intro e h hp hk
    have f1 := (hp 1 (by kernel_rfl)).trans f1
    have f2 := (hp 2 (by kernel_rfl)).trans f2
    clear hp
    obtain ⟨c_3, f3, hk⟩ := dA_elim hk
    refine EWP.seqC (fun e h => e 1 = Value.int .u16 less_1 ∧ e 2 = Value.int .u16 more_2 ∧ e 3 = Value.pointer (some c_3) ∧ law44_ContentBudgets_b4 less_1 more_2 c_3 Q h) ?_ ?_
    · have he : upd e 3 (Value.pointer (some c_3)) = e := by rw [upd_self f3]
      refine EWP.seqR (fun e h => dB (e 23) fun t23 => if t23 = true then (law44_ContentBudgets_b3 Q h) else (law44_ContentBudgets_b4 less_1 more_2 c_3 Q h)) ?_ ?_ ?_
      · kernel_rfl
      · rw [← he]
        exact eqMp (by as_aux_lemma => kernel_rfl : _ = law44_ContentBudgets_b2 less_1 more_2 c_3 Q h) hk
      · intro e h hp hk
        have f1 := (hp 1 (by kernel_rfl)).trans f1
        have f2 := (hp 2 (by kernel_rfl)).trans f2
        have f3 := (hp 3 (by kernel_rfl)).trans f3
        clear hp
        obtain ⟨t23, f23, hk⟩ := dB_elim hk
        have fc : eev e (.tmp 23) = .bool t23 := f23
        refine EWP.condI fc hk ?_ ?_
        · intro hk
          refine EWP.seqR (fun e h => dB (e 6) fun t6 => Q (Value.bool t6) h) ?_ ?_ ?_
          · kernel_rfl
          · skip
            exact eqMp (by as_aux_lemma => kernel_rfl : _ = law44_ContentBudgets_b3 Q h) hk
          · intro e h hp hk
            clear hp
            obtain ⟨t6, f6, hk⟩ := dB_elim hk
            refine EWP.ret ?_
            have he : upd e 6 (Value.bool t6) = e := by rw [upd_self f6]
            refine (show _ ∧ _ from ⟨rfl, ?_⟩)
            rw [← he]
            exact eqMp (by as_aux_lemma => kernel_rfl : _ = (Q (Value.bool t6) h)) hk
        · intro hk
          refine EWP.skip ?_
          exact (show _ ∧ _ from ⟨rfl, f1, f2, f3, hk⟩)
    · rintro e h ⟨f1, f2, f3, hk⟩
      have he : upd e 3 (Value.pointer (some c_3)) = e := by rw [upd_self f3]
      refine EWP.seqR (fun e h => dB (e 7) fun ok_7 => dI .i64 (e 8) fun end_8 => dI .i64 (e 9) fun n_9 => dI .i64 (e 10) fun e_10 => law44_ContentBudgets_b5 less_1 more_2 c_3 ok_7 end_8 n_9 e_10 Q h) ?_ ?_ ?_
      · kernel_rfl
      · rw [← he]
        exact eqMp (by as_aux_lemma => kernel_rfl : _ = law44_ContentBudgets_b4 less_1 more_2 c_3 Q h) hk
      · intro e h hp hk
        have f1 := (hp 1 (by kernel_rfl)).trans f1
        have f2 := (hp 2 (by kernel_rfl)).trans f2
        have f3 := (hp 3 (by kernel_rfl)).trans f3
        clear hp
        obtain ⟨ok_7, f7, hk⟩ := dB_elim hk
        obtain ⟨end_8, f8, hk⟩ := dI_elim hk
        obtain ⟨n_9, f9, hk⟩ := dI_elim hk
        obtain ⟨e_10, f10, hk⟩ := dI_elim hk
        refine EWP.seqC (fun e h => e 1 = Value.int .u16 less_1 ∧ e 2 = Value.int .u16 more_2 ∧ e 3 = Value.pointer (some c_3) ∧ e 7 = Value.bool ok_7 ∧ e 8 = Value.int .i64 end_8 ∧ e 9 = Value.int .i64 n_9 ∧ law44_ContentBudgets_b7 less_1 more_2 c_3 ok_7 end_8 n_9 Q h) ?_ ?_
        · have he : upd e 10 (Value.int .i64 e_10) = e := by rw [upd_self f10]
          refine EWP.seqR (fun e h => dB (e 38) fun t38 => if t38 = true then (law44_ContentBudgets_b6 ok_7 end_8 n_9 e_10 Q h) else (law44_ContentBudgets_b7 less_1 more_2 c_3 ok_7 end_8 n_9 Q h)) ?_ ?_ ?_
          · kernel_rfl
          · rw [← he]
            exact eqMp (by as_aux_lemma => kernel_rfl : _ = law44_ContentBudgets_b5 less_1 more_2 c_3 ok_7 end_8 n_9 e_10 Q h) hk
          · intro e h hp hk
            have f1 := (hp 1 (by kernel_rfl)).trans f1
            have f2 := (hp 2 (by kernel_rfl)).trans f2
            have f3 := (hp 3 (by kernel_rfl)).trans f3
            have f7 := (hp 7 (by kernel_rfl)).trans f7
            have f8 := (hp 8 (by kernel_rfl)).trans f8
            have f9 := (hp 9 (by kernel_rfl)).trans f9
            have f10 := (hp 10 (by kernel_rfl)).trans f10
            clear hp
            obtain ⟨t38, f38, hk⟩ := dB_elim hk
            have fc : eev e (.tmp 38) = .bool t38 := f38
            refine EWP.condI fc hk ?_ ?_
            · intro hk
              have he : upd (upd (upd (upd e 7 (Value.bool ok_7)) 8 (Value.int .i64 end_8)) 9 (Value.int .i64 n_9)) 10 (Value.int .i64 e_10) = e := by rw [upd_self f7, upd_self f8, upd_self f9, upd_self f10]
              refine EWP.seqR (fun e h => dB (e 6) fun t6 => Q (Value.bool t6) h) ?_ ?_ ?_
              · kernel_rfl
              · rw [← he]
                exact eqMp (by as_aux_lemma => kernel_rfl : _ = law44_ContentBudgets_b6 ok_7 end_8 n_9 e_10 Q h) hk
              · intro e h hp hk
                clear hp
                obtain ⟨t6, f6, hk⟩ := dB_elim hk
                refine EWP.ret ?_
                have he : upd e 6 (Value.bool t6) = e := by rw [upd_self f6]
                refine (show _ ∧ _ from ⟨rfl, ?_⟩)
                rw [← he]
                exact eqMp (by as_aux_lemma => kernel_rfl : _ = (Q (Value.bool t6) h)) hk
            · intro hk
              refine EWP.skip ?_
              exact (show _ ∧ _ from ⟨rfl, f1, f2, f3, f7, f8, f9, hk⟩)
        · rintro e h ⟨f1, f2, f3, f7, f8, f9, hk⟩
          refine EWP.seqC (fun e h => e 1 = Value.int .u16 less_1 ∧ e 2 = Value.int .u16 more_2 ∧ e 3 = Value.pointer (some c_3) ∧ e 7 = Value.bool ok_7 ∧ e 8 = Value.int .i64 end_8 ∧ e 9 = Value.int .i64 n_9 ∧ law44_ContentBudgets_b10 less_1 more_2 c_3 ok_7 end_8 n_9 Q h) ?_ ?_
          · have he : upd e 9 (Value.int .i64 n_9) = e := by rw [upd_self f9]
            refine EWP.seqR (fun e h => dB (e 61) fun t61 => if t61 = true then (law44_ContentBudgets_b9 Q h) else (law44_ContentBudgets_b10 less_1 more_2 c_3 ok_7 end_8 n_9 Q h)) ?_ ?_ ?_
            · kernel_rfl
            · rw [← he]
              exact eqMp (by as_aux_lemma => kernel_rfl : _ = law44_ContentBudgets_b8 less_1 more_2 c_3 ok_7 end_8 n_9 Q h) hk
            · intro e h hp hk
              have f1 := (hp 1 (by kernel_rfl)).trans f1
              have f2 := (hp 2 (by kernel_rfl)).trans f2
              have f3 := (hp 3 (by kernel_rfl)).trans f3
              have f7 := (hp 7 (by kernel_rfl)).trans f7
              have f8 := (hp 8 (by kernel_rfl)).trans f8
              have f9 := (hp 9 (by kernel_rfl)).trans f9
              clear hp
              obtain ⟨t61, f61, hk⟩ := dB_elim hk
              have fc : eev e (.tmp 61) = .bool t61 := f61
              refine EWP.condI fc hk ?_ ?_
              · intro hk
                refine EWP.seqR (fun e h => dB (e 6) fun t6 => Q (Value.bool t6) h) ?_ ?_ ?_
                · kernel_rfl
                · skip
                  exact eqMp (by as_aux_lemma => kernel_rfl : _ = law44_ContentBudgets_b9 Q h) hk
                · intro e h hp hk
                  clear hp
                  obtain ⟨t6, f6, hk⟩ := dB_elim hk
                  refine EWP.ret ?_
                  have he : upd e 6 (Value.bool t6) = e := by rw [upd_self f6]
                  refine (show _ ∧ _ from ⟨rfl, ?_⟩)
                  rw [← he]
                  exact eqMp (by as_aux_lemma => kernel_rfl : _ = (Q (Value.bool t6) h)) hk
              · intro hk
                refine EWP.skip ?_
                exact (show _ ∧ _ from ⟨rfl, f1, f2, f3, f7, f8, f9, hk⟩)
          · rintro e h ⟨f1, f2, f3, f7, f8, f9, hk⟩
            have he : upd (upd (upd e 2 (Value.int .u16 more_2)) 3 (Value.pointer (some c_3))) 9 (Value.int .i64 n_9) = e := by rw [upd_self f2, upd_self f3, upd_self f9]
            refine EWP.seqR (fun e h => dB (e 11) fun is_11 => dI .i64 (e 12) fun to_12 => dI .i64 (e 13) fun k_13 => dI .i64 (e 14) fun f_14 => law44_ContentBudgets_b11 less_1 c_3 ok_7 end_8 n_9 is_11 to_12 k_13 f_14 Q h) ?_ ?_ ?_
            · kernel_rfl
            · rw [← he]
              exact eqMp (by as_aux_lemma => kernel_rfl : _ = law44_ContentBudgets_b10 less_1 more_2 c_3 ok_7 end_8 n_9 Q h) hk
            · intro e h hp hk
              have f1 := (hp 1 (by kernel_rfl)).trans f1
              have f3 := (hp 3 (by kernel_rfl)).trans f3
              have f7 := (hp 7 (by kernel_rfl)).trans f7
              have f8 := (hp 8 (by kernel_rfl)).trans f8
              have f9 := (hp 9 (by kernel_rfl)).trans f9
              clear hp
              obtain ⟨is_11, f11, hk⟩ := dB_elim hk
              obtain ⟨to_12, f12, hk⟩ := dI_elim hk
              obtain ⟨k_13, f13, hk⟩ := dI_elim hk
              obtain ⟨f_14, f14, hk⟩ := dI_elim hk
              refine EWP.seqC (fun e h => e 1 = Value.int .u16 less_1 ∧ e 3 = Value.pointer (some c_3) ∧ e 9 = Value.int .i64 n_9 ∧ law44_ContentBudgets_b13 less_1 c_3 n_9 Q h) ?_ ?_
              · have he : upd (upd (upd (upd (upd (upd (upd e 7 (Value.bool ok_7)) 8 (Value.int .i64 end_8)) 9 (Value.int .i64 n_9)) 11 (Value.bool is_11)) 12 (Value.int .i64 to_12)) 13 (Value.int .i64 k_13)) 14 (Value.int .i64 f_14) = e := by rw [upd_self f7, upd_self f8, upd_self f9, upd_self f11, upd_self f12, upd_self f13, upd_self f14]
                refine EWP.seqR (fun e h => dB (e 94) fun t94 => if t94 = true then (law44_ContentBudgets_b12 Q h) else (law44_ContentBudgets_b13 less_1 c_3 n_9 Q h)) ?_ ?_ ?_
                · kernel_rfl
                · rw [← he]
                  exact eqMp (by as_aux_lemma => kernel_rfl : _ = law44_ContentBudgets_b11 less_1 c_3 ok_7 end_8 n_9 is_11 to_12 k_13 f_14 Q h) hk
                · intro e h hp hk
                  have f1 := (hp 1 (by kernel_rfl)).trans f1
                  have f3 := (hp 3 (by kernel_rfl)).trans f3
                  have f9 := (hp 9 (by kernel_rfl)).trans f9
                  clear hp
                  obtain ⟨t94, f94, hk⟩ := dB_elim hk
                  have fc : eev e (.tmp 94) = .bool t94 := f94
                  refine EWP.condI fc hk ?_ ?_
                  · intro hk
                    refine EWP.seqR (fun e h => dB (e 6) fun t6 => Q (Value.bool t6) h) ?_ ?_ ?_
                    · kernel_rfl
                    · skip
                      exact eqMp (by as_aux_lemma => kernel_rfl : _ = law44_ContentBudgets_b12 Q h) hk
                    · intro e h hp hk
                      clear hp
                      obtain ⟨t6, f6, hk⟩ := dB_elim hk
                      refine EWP.ret ?_
                      have he : upd e 6 (Value.bool t6) = e := by rw [upd_self f6]
                      refine (show _ ∧ _ from ⟨rfl, ?_⟩)
                      rw [← he]
                      exact eqMp (by as_aux_lemma => kernel_rfl : _ = (Q (Value.bool t6) h)) hk
                  · intro hk
                    refine EWP.skip ?_
                    exact (show _ ∧ _ from ⟨rfl, f1, f3, f9, hk⟩)
              · rintro e h ⟨f1, f3, f9, hk⟩
                refine EWP.seqC (fun e h => e 1 = Value.int .u16 less_1 ∧ e 3 = Value.pointer (some c_3) ∧ e 9 = Value.int .i64 n_9 ∧ law44_ContentBudgets_b16 less_1 c_3 n_9 Q h) ?_ ?_
                · have he : upd e 9 (Value.int .i64 n_9) = e := by rw [upd_self f9]
                  refine EWP.seqR (fun e h => dB (e 96) fun t96 => if t96 = true then (law44_ContentBudgets_b15 Q h) else (law44_ContentBudgets_b16 less_1 c_3 n_9 Q h)) ?_ ?_ ?_
                  · kernel_rfl
                  · rw [← he]
                    exact eqMp (by as_aux_lemma => kernel_rfl : _ = law44_ContentBudgets_b14 less_1 c_3 n_9 Q h) hk
                  · intro e h hp hk
                    have f1 := (hp 1 (by kernel_rfl)).trans f1
                    have f3 := (hp 3 (by kernel_rfl)).trans f3
                    have f9 := (hp 9 (by kernel_rfl)).trans f9
                    clear hp
                    obtain ⟨t96, f96, hk⟩ := dB_elim hk
                    have fc : eev e (.tmp 96) = .bool t96 := f96
                    refine EWP.condI fc hk ?_ ?_
                    · intro hk
                      refine EWP.seqR (fun e h => dB (e 6) fun t6 => Q (Value.bool t6) h) ?_ ?_ ?_
                      · kernel_rfl
                      · skip
                        exact eqMp (by as_aux_lemma => kernel_rfl : _ = law44_ContentBudgets_b15 Q h) hk
                      · intro e h hp hk
                        clear hp
                        obtain ⟨t6, f6, hk⟩ := dB_elim hk
                        refine EWP.ret ?_
                        have he : upd e 6 (Value.bool t6) = e := by rw [upd_self f6]
                        refine (show _ ∧ _ from ⟨rfl, ?_⟩)
                        rw [← he]
                        exact eqMp (by as_aux_lemma => kernel_rfl : _ = (Q (Value.bool t6) h)) hk
                    · intro hk
                      refine EWP.skip ?_
                      exact (show _ ∧ _ from ⟨rfl, f1, f3, f9, hk⟩)
                · rintro e h ⟨f1, f3, f9, hk⟩
                  have he : upd (upd e 1 (Value.int .u16 less_1)) 9 (Value.int .i64 n_9) = e := by rw [upd_self f1, upd_self f9]
                  refine EWP.seqR (fun e h => dI .i64 (e 15) fun b_15 => law44_ContentBudgets_b17 c_3 b_15 Q h) ?_ ?_ ?_
                  · kernel_rfl
                  · rw [← he]
                    exact eqMp (by as_aux_lemma => kernel_rfl : _ = law44_ContentBudgets_b16 less_1 c_3 n_9 Q h) hk
                  · intro e h hp hk
                    have f3 := (hp 3 (by kernel_rfl)).trans f3
                    clear hp
                    obtain ⟨b_15, f15, hk⟩ := dI_elim hk
                    have he : upd (upd e 3 (Value.pointer (some c_3))) 15 (Value.int .i64 b_15) = e := by rw [upd_self f3, upd_self f15]
                    refine EWP.seqR (fun e h => dB (e 11) fun is_11 => dI .i64 (e 12) fun to_12 => dI .i64 (e 13) fun k_13 => dI .i64 (e 14) fun f_14 => law44_ContentBudgets_b18 is_11 to_12 k_13 f_14 b_15 Q h) ?_ ?_ ?_
                    · kernel_rfl
                    · rw [← he]
                      exact eqMp (by as_aux_lemma => kernel_rfl : _ = law44_ContentBudgets_b17 c_3 b_15 Q h) hk
                    · intro e h hp hk
                      have f15 := (hp 15 (by kernel_rfl)).trans f15
                      clear hp
                      obtain ⟨is_11, f11, hk⟩ := dB_elim hk
                      obtain ⟨to_12, f12, hk⟩ := dI_elim hk
                      obtain ⟨k_13, f13, hk⟩ := dI_elim hk
                      obtain ⟨f_14, f14, hk⟩ := dI_elim hk
                      have he : upd (upd (upd (upd (upd e 11 (Value.bool is_11)) 12 (Value.int .i64 to_12)) 13 (Value.int .i64 k_13)) 14 (Value.int .i64 f_14)) 15 (Value.int .i64 b_15) = e := by rw [upd_self f11, upd_self f12, upd_self f13, upd_self f14, upd_self f15]
                      refine EWP.seqR (fun e h => dB (e 6) fun t6 => Q (Value.bool t6) h) ?_ ?_ ?_
                      · kernel_rfl
                      · rw [← he]
                        exact eqMp (by as_aux_lemma => kernel_rfl : _ = law44_ContentBudgets_b18 is_11 to_12 k_13 f_14 b_15 Q h) hk
                      · intro e h hp hk
                        clear hp
                        obtain ⟨t6, f6, hk⟩ := dB_elim hk
                        refine EWP.ret ?_
                        have he : upd e 6 (Value.bool t6) = e := by rw [upd_self f6]
                        refine (show _ ∧ _ from ⟨rfl, ?_⟩)
                        rw [← he]
                        exact eqMp (by as_aux_lemma => kernel_rfl : _ = (Q (Value.bool t6) h)) hk
theorem law44_ContentBudgets_s (c_0_0a : Option Addr) (c_0_0n : Nat) (c_0_0c : Nat) (c_0_1a : Option Addr) (c_0_1n : Nat) (c_0_1c : Nat) (c_0_2 : ByteArray) (c_0_3 : Int) (less_1 : Int) (more_2 : Int) {Q : Value → Heap → Prop} {h : Heap} (hk : law44_ContentBudgets_v c_0_0a c_0_0n c_0_0c c_0_1a c_0_1n c_0_1c c_0_2 c_0_3 less_1 more_2 Q h) : CallT Try.prog fn_law44_ContentBudgets #[Value.agg #[Value.slice c_0_0a c_0_0n c_0_0c, Value.slice c_0_1a c_0_1n c_0_1c, Value.string c_0_2, Value.int .i64 c_0_3], Value.int .u16 less_1, Value.int .u16 more_2] h Q := by
  obtain ⟨c, hb, he⟩ := law44_ContentBudgets_e c_0_0a c_0_0n c_0_0c c_0_1a c_0_1n c_0_1c c_0_2 c_0_3 less_1 more_2 Q h hk
  exact callT_of (N := 133) Try.func7 hb rfl (Try.call7 _) (Nat.le_of_ble_eq_true rfl) he
/-! ### intrusion/intrusionlaw44.sound -/
def law44_sound_b3 (Q : Value → Heap → Prop) (h : Heap) : Prop :=
  Q (Value.bool false) h
def law44_sound_b10 (Q : Value → Heap → Prop) (Kn6 : (Int) → Heap → Prop) (h : Heap) : Prop :=
  Q (Value.bool false) h
def law44_sound_b11 (l_0a : Option Addr) (l_0n : Nat) (l_0c : Nat) (t_1a : Option Addr) (t_1n : Nat) (t_1c : Nat) (i_7 : Int) (Q : Value → Heap → Prop) (Kn6 : (Int) → Heap → Prop) (h : Heap) : Prop :=
  Kn6 (IntKind.wrap .i64 (i_7 + (1 : Int))) h
def law44_sound_b9 (l_0a : Option Addr) (l_0n : Nat) (l_0c : Nat) (t_1a : Option Addr) (t_1n : Nat) (t_1c : Nat) (i_7 : Int) (Q : Value → Heap → Prop) (Kn6 : (Int) → Heap → Prop) (h : Heap) : Prop :=
  idxA i_7 l_0n (nn l_0a fun t30 => ldS h (Addr.add t30 ((i_7).toNat * 7)) fun t32 => if (decide (((t32.size : Nat) : Int) > (20 : Int))) = true then (law44_sound_b10 Q Kn6 h) else (idxA i_7 l_0n (nn l_0a fun t38 => ldI h (Addr.add (Addr.add t38 ((i_7).toNat * 7)) 4) .i64 fun t40 => CallT Try.prog fn_law44_within #[Value.int .i64 t40] h fun v h1 => ∃ t41 : Bool, v = Value.bool t41 ∧ if (!t41) = true then (law44_sound_b10 Q Kn6 h1) else (idxA i_7 l_0n (nn l_0a fun t47 => ldI h1 (Addr.add (Addr.add t47 ((i_7).toNat * 7)) 5) .i64 fun t49 => CallT Try.prog fn_law44_within #[Value.int .i64 t49] h1 fun v h2 => ∃ t50 : Bool, v = Value.bool t50 ∧ if (!t50) = true then (law44_sound_b10 Q Kn6 h2) else (idxA i_7 l_0n (nn l_0a fun t56 => ldI h2 (Addr.add (Addr.add t56 ((i_7).toNat * 7)) 5) .i64 fun t58 => if (decide (t58 < (0 : Int))) = true then (law44_sound_b10 Q Kn6 h2) else (law44_sound_b11 l_0a l_0n l_0c t_1a t_1n t_1c i_7 Q Kn6 h2))))))))
def law44_sound_b8 (l_0a : Option Addr) (l_0n : Nat) (l_0c : Nat) (t_1a : Option Addr) (t_1n : Nat) (t_1c : Nat) (i_7 : Int) (Q : Value → Heap → Prop) (Kn6 : (Int) → Heap → Prop) (h : Heap) : Prop :=
  law44_sound_b9 l_0a l_0n l_0c t_1a t_1n t_1c i_7 Q Kn6 h
def law44_sound_b18 (Q : Value → Heap → Prop) (Kn14 : (Int) → Heap → Prop) (h : Heap) : Prop :=
  Q (Value.bool false) h
def law44_sound_b19 (t_1a : Option Addr) (t_1n : Nat) (t_1c : Nat) (i_8 : Int) (Q : Value → Heap → Prop) (Kn14 : (Int) → Heap → Prop) (h : Heap) : Prop :=
  Kn14 (IntKind.wrap .i64 (i_8 + (1 : Int))) h
def law44_sound_b17 (t_1a : Option Addr) (t_1n : Nat) (t_1c : Nat) (i_8 : Int) (Q : Value → Heap → Prop) (Kn14 : (Int) → Heap → Prop) (h : Heap) : Prop :=
  idxA i_8 t_1n (nn t_1a fun t69 => ldI h (Addr.add (Addr.add t69 ((i_8).toNat * 7)) 3) .i64 fun t71 => CallT Try.prog fn_law44_within #[Value.int .i64 t71] h fun v h3 => ∃ t72 : Bool, v = Value.bool t72 ∧ if (!t72) = true then (law44_sound_b18 Q Kn14 h3) else (idxA i_8 t_1n (nn t_1a fun t77 => ldI h3 (Addr.add (Addr.add t77 ((i_8).toNat * 7)) 2) .i64 fun t79 => if (decide (t79 < (0 : Int))) = true then (law44_sound_b18 Q Kn14 h3) else (law44_sound_b19 t_1a t_1n t_1c i_8 Q Kn14 h3))))
def law44_sound_b16 (t_1a : Option Addr) (t_1n : Nat) (t_1c : Nat) (i_8 : Int) (Q : Value → Heap → Prop) (Kn14 : (Int) → Heap → Prop) (h : Heap) : Prop :=
  law44_sound_b17 t_1a t_1n t_1c i_8 Q Kn14 h
def law44_sound_b20 (Q : Value → Heap → Prop) (h : Heap) : Prop :=
  Q (Value.bool true) h
def law44_sound_b15 (t_1a : Option Addr) (t_1n : Nat) (t_1c : Nat) (i_8 : Int) (Q : Value → Heap → Prop) (Kn14 : (Int) → Heap → Prop) (h : Heap) : Prop :=
  if (decide (i_8 < ((t_1n : Nat) : Int))) = true then (law44_sound_b16 t_1a t_1n t_1c i_8 Q Kn14 h) else (law44_sound_b20 Q h)
def law44_sound_l14 (t_1a : Option Addr) (t_1n : Nat) (t_1c : Nat) (Q : Value → Heap → Prop) (i_8 : Int) (h : Heap) (Kn14 : (Int) → Heap → Prop) : Prop :=
  law44_sound_b15 t_1a t_1n t_1c i_8 Q Kn14 h
def law44_sound_b13 (t_1a : Option Addr) (t_1n : Nat) (t_1c : Nat) (Q : Value → Heap → Prop) (h : Heap) : Prop :=
  LoopV (fun (s : Int) h Kn => law44_sound_l14 t_1a t_1n t_1c Q s h Kn) 0 h
def law44_sound_b12 (t_1a : Option Addr) (t_1n : Nat) (t_1c : Nat) (Q : Value → Heap → Prop) (h : Heap) : Prop :=
  law44_sound_b13 t_1a t_1n t_1c Q h
def law44_sound_b7 (l_0a : Option Addr) (l_0n : Nat) (l_0c : Nat) (t_1a : Option Addr) (t_1n : Nat) (t_1c : Nat) (i_7 : Int) (Q : Value → Heap → Prop) (Kn6 : (Int) → Heap → Prop) (h : Heap) : Prop :=
  if (decide (i_7 < ((l_0n : Nat) : Int))) = true then (law44_sound_b8 l_0a l_0n l_0c t_1a t_1n t_1c i_7 Q Kn6 h) else (law44_sound_b12 t_1a t_1n t_1c Q h)
def law44_sound_l6 (l_0a : Option Addr) (l_0n : Nat) (l_0c : Nat) (t_1a : Option Addr) (t_1n : Nat) (t_1c : Nat) (Q : Value → Heap → Prop) (i_7 : Int) (h : Heap) (Kn6 : (Int) → Heap → Prop) : Prop :=
  law44_sound_b7 l_0a l_0n l_0c t_1a t_1n t_1c i_7 Q Kn6 h
def law44_sound_b5 (l_0a : Option Addr) (l_0n : Nat) (l_0c : Nat) (t_1a : Option Addr) (t_1n : Nat) (t_1c : Nat) (Q : Value → Heap → Prop) (h : Heap) : Prop :=
  LoopV (fun (s : Int) h Kn => law44_sound_l6 l_0a l_0n l_0c t_1a t_1n t_1c Q s h Kn) 0 h
def law44_sound_b4 (l_0a : Option Addr) (l_0n : Nat) (l_0c : Nat) (t_1a : Option Addr) (t_1n : Nat) (t_1c : Nat) (Q : Value → Heap → Prop) (h : Heap) : Prop :=
  law44_sound_b5 l_0a l_0n l_0c t_1a t_1n t_1c Q h
def law44_sound_b2 (l_0a : Option Addr) (l_0n : Nat) (l_0c : Nat) (t_1a : Option Addr) (t_1n : Nat) (t_1c : Nat) (data_2 : ByteArray) (Q : Value → Heap → Prop) (h : Heap) : Prop :=
  if (decide (((l_0n : Nat) : Int) > (6 : Int))) = true then (law44_sound_b3 Q h) else (if (decide (((t_1n : Nat) : Int) > (6 : Int))) = true then (law44_sound_b3 Q h) else (if (decide (((data_2.size : Nat) : Int) > (120 : Int))) = true then (law44_sound_b3 Q h) else (law44_sound_b4 l_0a l_0n l_0c t_1a t_1n t_1c Q h)))
def law44_sound_b1 (l_0a : Option Addr) (l_0n : Nat) (l_0c : Nat) (t_1a : Option Addr) (t_1n : Nat) (t_1c : Nat) (data_2 : ByteArray) (Q : Value → Heap → Prop) (h : Heap) : Prop :=
  law44_sound_b2 l_0a l_0n l_0c t_1a t_1n t_1c data_2 Q h
def law44_sound_v (l_0a : Option Addr) (l_0n : Nat) (l_0c : Nat) (t_1a : Option Addr) (t_1n : Nat) (t_1c : Nat) (data_2 : ByteArray) (Q : Value → Heap → Prop) (h : Heap) : Prop :=
  law44_sound_b1 l_0a l_0n l_0c t_1a t_1n t_1c data_2 Q h
set_option maxRecDepth 100000 in
theorem law44_sound_e (l_0a : Option Addr) (l_0n : Nat) (l_0c : Nat) (t_1a : Option Addr) (t_1n : Nat) (t_1c : Nat) (data_2 : ByteArray) (Q : Value → Heap → Prop) (h : Heap) (hk : law44_sound_v l_0a l_0n l_0c t_1a t_1n t_1c data_2 Q h) :
    ∃ c, Try.f8.body = some c ∧ EWP Try.prog 82 c (fnPost Try.prog Try.f8 Q) (env0 #[Value.slice l_0a l_0n l_0c, Value.slice t_1a t_1n t_1c, Value.string data_2]) [] h := by
  refine ⟨_, rfl, ?_⟩
  have hk : law44_sound_b1 l_0a l_0n l_0c t_1a t_1n t_1c data_2 Q h := hk
  have f0 : env0 #[Value.slice l_0a l_0n l_0c, Value.slice t_1a t_1n t_1c, Value.string data_2] 0 = Value.slice l_0a l_0n l_0c := rfl
  have f1 : env0 #[Value.slice l_0a l_0n l_0c, Value.slice t_1a t_1n t_1c, Value.string data_2] 1 = Value.slice t_1a t_1n t_1c := rfl
  have f2 : env0 #[Value.slice l_0a l_0n l_0c, Value.slice t_1a t_1n t_1c, Value.string data_2] 2 = Value.string data_2 := rfl
  generalize env0 #[Value.slice l_0a l_0n l_0c, Value.slice t_1a t_1n t_1c, Value.string data_2] = e at *
  refine EWP.seqR (fun e h => law44_sound_b2 l_0a l_0n l_0c t_1a t_1n t_1c data_2 Q h) ?_ ?_ ?_
  · kernel_rfl
  · skip
    exact eqMp (by as_aux_lemma => kernel_rfl : _ = law44_sound_b1 l_0a l_0n l_0c t_1a t_1n t_1c data_2 Q h) hk
  · intro e h hp hk
    have f0 := (hp 0 (by kernel_rfl)).trans f0
    have f1 := (hp 1 (by kernel_rfl)).trans f1
    have f2 := (hp 2 (by kernel_rfl)).trans f2
    clear hp
    refine EWP.seqC (fun e h => e 0 = Value.slice l_0a l_0n l_0c ∧ e 1 = Value.slice t_1a t_1n t_1c ∧ law44_sound_b4 l_0a l_0n l_0c t_1a t_1n t_1c Q h) ?_ ?_
    · have he : upd (upd (upd e 0 (Value.slice l_0a l_0n l_0c)) 1 (Value.slice t_1a t_1n t_1c)) 2 (Value.string data_2) = e := by rw [upd_self f0, upd_self f1, upd_self f2]
      refine EWP.seqR (fun e h => dB (e 21) fun t21 => if t21 = true then (law44_sound_b3 Q h) else (law44_sound_b4 l_0a l_0n l_0c t_1a t_1n t_1c Q h)) ?_ ?_ ?_
      · kernel_rfl
      · rw [← he]
        exact eqMp (by as_aux_lemma => kernel_rfl : _ = law44_sound_b2 l_0a l_0n l_0c t_1a t_1n t_1c data_2 Q h) hk
      · intro e h hp hk
        have f0 := (hp 0 (by kernel_rfl)).trans f0
        have f1 := (hp 1 (by kernel_rfl)).trans f1
        clear hp
        obtain ⟨t21, f21, hk⟩ := dB_elim hk
        have fc : eev e (.tmp 21) = .bool t21 := f21
        refine EWP.condI fc hk ?_ ?_
        · intro hk
          refine EWP.seqR (fun e h => dB (e 6) fun t6 => Q (Value.bool t6) h) ?_ ?_ ?_
          · kernel_rfl
          · skip
            exact eqMp (by as_aux_lemma => kernel_rfl : _ = law44_sound_b3 Q h) hk
          · intro e h hp hk
            clear hp
            obtain ⟨t6, f6, hk⟩ := dB_elim hk
            refine EWP.ret ?_
            have he : upd e 6 (Value.bool t6) = e := by rw [upd_self f6]
            refine (show _ ∧ _ from ⟨rfl, ?_⟩)
            rw [← he]
            exact eqMp (by as_aux_lemma => kernel_rfl : _ = (Q (Value.bool t6) h)) hk
        · intro hk
          refine EWP.skip ?_
          exact (show _ ∧ _ from ⟨rfl, f0, f1, hk⟩)
    · rintro e h ⟨f0, f1, hk⟩
      refine EWP.seqC (fun e h => e 1 = Value.slice t_1a t_1n t_1c ∧ law44_sound_b12 t_1a t_1n t_1c Q h) ?_ ?_
      · refine EWP.seqR (fun e h => dI .i64 (e 7) fun i_7 => LoopV (fun (s : Int) h Kn => law44_sound_l6 l_0a l_0n l_0c t_1a t_1n t_1c Q s h Kn) i_7 h) ?_ ?_ ?_
        · kernel_rfl
        · skip
          exact eqMp (by as_aux_lemma => kernel_rfl : _ = law44_sound_b5 l_0a l_0n l_0c t_1a t_1n t_1c Q h) hk
        · intro e h hp hk
          have f0 := (hp 0 (by kernel_rfl)).trans f0
          have f1 := (hp 1 (by kernel_rfl)).trans f1
          clear hp
          obtain ⟨i_7, f7, hk⟩ := dI_elim hk
          refine EWP.block ?_
          refine EWP.loopV (fun e (s : Int) => e 0 = Value.slice l_0a l_0n l_0c ∧ e 1 = Value.slice t_1a t_1n t_1c ∧ e 7 = Value.int .i64 s) ⟨f0, f1, f7⟩ hk ?_
          rintro e i_7 h Kn6 ⟨f0, f1, f7⟩ hk
          have f7 : e 7 = Value.int .i64 i_7 := f7
          have hk : law44_sound_l6 l_0a l_0n l_0c t_1a t_1n t_1c Q i_7 h Kn6 := hk
          refine EWP.seqC (fun e h => e 0 = Value.slice l_0a l_0n l_0c ∧ e 1 = Value.slice t_1a t_1n t_1c ∧ e 7 = Value.int .i64 i_7 ∧ law44_sound_b8 l_0a l_0n l_0c t_1a t_1n t_1c i_7 Q Kn6 h) ?_ ?_
          · have he : upd (upd e 0 (Value.slice l_0a l_0n l_0c)) 7 (Value.int .i64 i_7) = e := by rw [upd_self f0, upd_self f7]
            refine EWP.seqR (fun e h => dB (e 25) fun t25 => if t25 = true then (law44_sound_b8 l_0a l_0n l_0c t_1a t_1n t_1c i_7 Q Kn6 h) else (law44_sound_b12 t_1a t_1n t_1c Q h)) ?_ ?_ ?_
            · kernel_rfl
            · rw [← he]
              exact eqMp (by as_aux_lemma => kernel_rfl : _ = law44_sound_b7 l_0a l_0n l_0c t_1a t_1n t_1c i_7 Q Kn6 h) hk
            · intro e h hp hk
              have f0 := (hp 0 (by kernel_rfl)).trans f0
              have f1 := (hp 1 (by kernel_rfl)).trans f1
              have f7 := (hp 7 (by kernel_rfl)).trans f7
              clear hp
              obtain ⟨t25, f25, hk⟩ := dB_elim hk
              have fc : eev e (.tmp 25) = .bool t25 := f25
              refine EWP.condI fc hk ?_ ?_
              · intro hk
                refine EWP.skip ?_
                exact (show _ ∧ _ from ⟨rfl, f0, f1, f7, hk⟩)
              · intro hk
                refine EWP.exit ?_
                exact (show _ ∧ _ from ⟨rfl, f1, hk⟩)
          · rintro e h ⟨f0, f1, f7, hk⟩
            refine EWP.seqC (fun e h => e 0 = Value.slice l_0a l_0n l_0c ∧ e 1 = Value.slice t_1a t_1n t_1c ∧ e 7 = Value.int .i64 i_7 ∧ law44_sound_b11 l_0a l_0n l_0c t_1a t_1n t_1c i_7 Q Kn6 h) ?_ ?_
            · refine EWP.block ?_
              have he : upd (upd e 0 (Value.slice l_0a l_0n l_0c)) 7 (Value.int .i64 i_7) = e := by rw [upd_self f0, upd_self f7]
              refine EWP.seqR (fun e h => dB (e 60) fun t60 => if t60 = true then (law44_sound_b10 Q Kn6 h) else (law44_sound_b11 l_0a l_0n l_0c t_1a t_1n t_1c i_7 Q Kn6 h)) ?_ ?_ ?_
              · kernel_rfl
              · rw [← he]
                exact eqMp (by as_aux_lemma => kernel_rfl : _ = law44_sound_b9 l_0a l_0n l_0c t_1a t_1n t_1c i_7 Q Kn6 h) hk
              · intro e h hp hk
                have f0 := (hp 0 (by kernel_rfl)).trans f0
                have f1 := (hp 1 (by kernel_rfl)).trans f1
                have f7 := (hp 7 (by kernel_rfl)).trans f7
                clear hp
                obtain ⟨t60, f60, hk⟩ := dB_elim hk
                have fc : eev e (.tmp 60) = .bool t60 := f60
                refine EWP.condI fc hk ?_ ?_
                · intro hk
                  refine EWP.seqR (fun e h => dB (e 6) fun t6 => Q (Value.bool t6) h) ?_ ?_ ?_
                  · kernel_rfl
                  · skip
                    exact eqMp (by as_aux_lemma => kernel_rfl : _ = law44_sound_b10 Q Kn6 h) hk
                  · intro e h hp hk
                    clear hp
                    obtain ⟨t6, f6, hk⟩ := dB_elim hk
                    refine EWP.ret ?_
                    have he : upd e 6 (Value.bool t6) = e := by rw [upd_self f6]
                    refine (show _ ∧ _ from ⟨rfl, ?_⟩)
                    rw [← he]
                    exact eqMp (by as_aux_lemma => kernel_rfl : _ = (Q (Value.bool t6) h)) hk
                · intro hk
                  refine EWP.skip ?_
                  exact (show _ ∧ _ from ⟨rfl, f0, f1, f7, hk⟩)
            · rintro e h ⟨f0, f1, f7, hk⟩
              have he : upd e 7 (Value.int .i64 i_7) = e := by rw [upd_self f7]
              refine EWP.regionN (fun e h => dI .i64 (e 7) fun i_7 => Kn6 (i_7) h) ?_ ?_ ?_
              · kernel_rfl
              · rw [← he]
                exact eqMp (by as_aux_lemma => kernel_rfl : _ = law44_sound_b11 l_0a l_0n l_0c t_1a t_1n t_1c i_7 Q Kn6 h) hk
              · intro e h hp hk
                have f0 := (hp 0 (by kernel_rfl)).trans f0
                have f1 := (hp 1 (by kernel_rfl)).trans f1
                clear hp
                obtain ⟨i_7, f7, hk⟩ := dI_elim hk
                exact (show _ ∧ _ from ⟨rfl, i_7, ⟨f0, f1, f7⟩, hk⟩)
      · rintro e h ⟨f1, hk⟩
        refine EWP.seqC (fun e h => law44_sound_b20 Q h) ?_ ?_
        · refine EWP.seqR (fun e h => dI .i64 (e 8) fun i_8 => LoopV (fun (s : Int) h Kn => law44_sound_l14 t_1a t_1n t_1c Q s h Kn) i_8 h) ?_ ?_ ?_
          · kernel_rfl
          · skip
            exact eqMp (by as_aux_lemma => kernel_rfl : _ = law44_sound_b13 t_1a t_1n t_1c Q h) hk
          · intro e h hp hk
            have f1 := (hp 1 (by kernel_rfl)).trans f1
            clear hp
            obtain ⟨i_8, f8, hk⟩ := dI_elim hk
            refine EWP.block ?_
            refine EWP.loopV (fun e (s : Int) => e 1 = Value.slice t_1a t_1n t_1c ∧ e 8 = Value.int .i64 s) ⟨f1, f8⟩ hk ?_
            rintro e i_8 h Kn14 ⟨f1, f8⟩ hk
            have f8 : e 8 = Value.int .i64 i_8 := f8
            have hk : law44_sound_l14 t_1a t_1n t_1c Q i_8 h Kn14 := hk
            refine EWP.seqC (fun e h => e 1 = Value.slice t_1a t_1n t_1c ∧ e 8 = Value.int .i64 i_8 ∧ law44_sound_b16 t_1a t_1n t_1c i_8 Q Kn14 h) ?_ ?_
            · have he : upd (upd e 1 (Value.slice t_1a t_1n t_1c)) 8 (Value.int .i64 i_8) = e := by rw [upd_self f1, upd_self f8]
              refine EWP.seqR (fun e h => dB (e 64) fun t64 => if t64 = true then (law44_sound_b16 t_1a t_1n t_1c i_8 Q Kn14 h) else (law44_sound_b20 Q h)) ?_ ?_ ?_
              · kernel_rfl
              · rw [← he]
                exact eqMp (by as_aux_lemma => kernel_rfl : _ = law44_sound_b15 t_1a t_1n t_1c i_8 Q Kn14 h) hk
              · intro e h hp hk
                have f1 := (hp 1 (by kernel_rfl)).trans f1
                have f8 := (hp 8 (by kernel_rfl)).trans f8
                clear hp
                obtain ⟨t64, f64, hk⟩ := dB_elim hk
                have fc : eev e (.tmp 64) = .bool t64 := f64
                refine EWP.condI fc hk ?_ ?_
                · intro hk
                  refine EWP.skip ?_
                  exact (show _ ∧ _ from ⟨rfl, f1, f8, hk⟩)
                · intro hk
                  refine EWP.exit ?_
                  exact (show _ ∧ _ from ⟨rfl, hk⟩)
            · rintro e h ⟨f1, f8, hk⟩
              refine EWP.seqC (fun e h => e 1 = Value.slice t_1a t_1n t_1c ∧ e 8 = Value.int .i64 i_8 ∧ law44_sound_b19 t_1a t_1n t_1c i_8 Q Kn14 h) ?_ ?_
              · refine EWP.block ?_
                have he : upd (upd e 1 (Value.slice t_1a t_1n t_1c)) 8 (Value.int .i64 i_8) = e := by rw [upd_self f1, upd_self f8]
                refine EWP.seqR (fun e h => dB (e 81) fun t81 => if t81 = true then (law44_sound_b18 Q Kn14 h) else (law44_sound_b19 t_1a t_1n t_1c i_8 Q Kn14 h)) ?_ ?_ ?_
                · kernel_rfl
                · rw [← he]
                  exact eqMp (by as_aux_lemma => kernel_rfl : _ = law44_sound_b17 t_1a t_1n t_1c i_8 Q Kn14 h) hk
                · intro e h hp hk
                  have f1 := (hp 1 (by kernel_rfl)).trans f1
                  have f8 := (hp 8 (by kernel_rfl)).trans f8
                  clear hp
                  obtain ⟨t81, f81, hk⟩ := dB_elim hk
                  have fc : eev e (.tmp 81) = .bool t81 := f81
                  refine EWP.condI fc hk ?_ ?_
                  · intro hk
                    refine EWP.seqR (fun e h => dB (e 6) fun t6 => Q (Value.bool t6) h) ?_ ?_ ?_
                    · kernel_rfl
                    · skip
                      exact eqMp (by as_aux_lemma => kernel_rfl : _ = law44_sound_b18 Q Kn14 h) hk
                    · intro e h hp hk
                      clear hp
                      obtain ⟨t6, f6, hk⟩ := dB_elim hk
                      refine EWP.ret ?_
                      have he : upd e 6 (Value.bool t6) = e := by rw [upd_self f6]
                      refine (show _ ∧ _ from ⟨rfl, ?_⟩)
                      rw [← he]
                      exact eqMp (by as_aux_lemma => kernel_rfl : _ = (Q (Value.bool t6) h)) hk
                  · intro hk
                    refine EWP.skip ?_
                    exact (show _ ∧ _ from ⟨rfl, f1, f8, hk⟩)
              · rintro e h ⟨f1, f8, hk⟩
                have he : upd e 8 (Value.int .i64 i_8) = e := by rw [upd_self f8]
                refine EWP.regionN (fun e h => dI .i64 (e 8) fun i_8 => Kn14 (i_8) h) ?_ ?_ ?_
                · kernel_rfl
                · rw [← he]
                  exact eqMp (by as_aux_lemma => kernel_rfl : _ = law44_sound_b19 t_1a t_1n t_1c i_8 Q Kn14 h) hk
                · intro e h hp hk
                  have f1 := (hp 1 (by kernel_rfl)).trans f1
                  clear hp
                  obtain ⟨i_8, f8, hk⟩ := dI_elim hk
                  exact (show _ ∧ _ from ⟨rfl, i_8, ⟨f1, f8⟩, hk⟩)
        · rintro e h hk
          refine EWP.seqR (fun e h => dB (e 6) fun t6 => Q (Value.bool t6) h) ?_ ?_ ?_
          · kernel_rfl
          · skip
            exact eqMp (by as_aux_lemma => kernel_rfl : _ = law44_sound_b20 Q h) hk
          · intro e h hp hk
            clear hp
            obtain ⟨t6, f6, hk⟩ := dB_elim hk
            refine EWP.ret ?_
            have he : upd e 6 (Value.bool t6) = e := by rw [upd_self f6]
            refine (show _ ∧ _ from ⟨rfl, ?_⟩)
            rw [← he]
            exact eqMp (by as_aux_lemma => kernel_rfl : _ = (Q (Value.bool t6) h)) hk
theorem law44_sound_s (l_0a : Option Addr) (l_0n : Nat) (l_0c : Nat) (t_1a : Option Addr) (t_1n : Nat) (t_1c : Nat) (data_2 : ByteArray) {Q : Value → Heap → Prop} {h : Heap} (hk : law44_sound_v l_0a l_0n l_0c t_1a t_1n t_1c data_2 Q h) : CallT Try.prog fn_law44_sound #[Value.slice l_0a l_0n l_0c, Value.slice t_1a t_1n t_1c, Value.string data_2] h Q := by
  obtain ⟨c, hb, he⟩ := law44_sound_e l_0a l_0n l_0c t_1a t_1n t_1c data_2 Q h hk
  exact callT_of (N := 82) Try.func8 hb rfl (Try.call8 _) (Nat.le_of_ble_eq_true rfl) he
/-! ### intrusion/intrusionlaw44.within -/
def law44_within_b2 (n_0 : Int) (Q : Value → Heap → Prop) (h : Heap) : Prop :=
  if (decide (n_0 ≥ ((-1073741824) : Int))) = true then (Q (Value.bool (decide (n_0 ≤ (1073741824 : Int)))) h) else (Q (Value.bool false) h)
def law44_within_b1 (n_0 : Int) (Q : Value → Heap → Prop) (h : Heap) : Prop :=
  law44_within_b2 n_0 Q h
def law44_within_v (n_0 : Int) (Q : Value → Heap → Prop) (h : Heap) : Prop :=
  law44_within_b1 n_0 Q h
set_option maxRecDepth 100000 in
theorem law44_within_e (n_0 : Int) (Q : Value → Heap → Prop) (h : Heap) (hk : law44_within_v n_0 Q h) :
    ∃ c, Try.f9.body = some c ∧ EWP Try.prog 9 c (fnPost Try.prog Try.f9 Q) (env0 #[Value.int .i64 n_0]) [] h := by
  refine ⟨_, rfl, ?_⟩
  have hk : law44_within_b1 n_0 Q h := hk
  have f0 : env0 #[Value.int .i64 n_0] 0 = Value.int .i64 n_0 := rfl
  generalize env0 #[Value.int .i64 n_0] = e at *
  refine EWP.seqR (fun e h => law44_within_b2 n_0 Q h) ?_ ?_ ?_
  · kernel_rfl
  · skip
    exact eqMp (by as_aux_lemma => kernel_rfl : _ = law44_within_b1 n_0 Q h) hk
  · intro e h hp hk
    have f0 := (hp 0 (by kernel_rfl)).trans f0
    clear hp
    have he : upd e 0 (Value.int .i64 n_0) = e := by rw [upd_self f0]
    refine EWP.seqR (fun e h => dB (e 2) fun t2 => Q (Value.bool t2) h) ?_ ?_ ?_
    · kernel_rfl
    · rw [← he]
      exact eqMp (by as_aux_lemma => kernel_rfl : _ = law44_within_b2 n_0 Q h) hk
    · intro e h hp hk
      clear hp
      obtain ⟨t2, f2, hk⟩ := dB_elim hk
      refine EWP.ret ?_
      have he : upd e 2 (Value.bool t2) = e := by rw [upd_self f2]
      refine (show _ ∧ _ from ⟨rfl, ?_⟩)
      rw [← he]
      exact eqMp (by as_aux_lemma => kernel_rfl : _ = (Q (Value.bool t2) h)) hk
theorem law44_within_s (n_0 : Int) {Q : Value → Heap → Prop} {h : Heap} (hk : law44_within_v n_0 Q h) : CallT Try.prog fn_law44_within #[Value.int .i64 n_0] h Q := by
  obtain ⟨c, hb, he⟩ := law44_within_e n_0 Q h hk
  exact callT_of (N := 9) Try.func9 hb rfl (Try.call9 _) (Nat.le_of_ble_eq_true rfl) he
/-! ### intrusion/intrusionlaw44.awake -/
def law44_awake_b5 (ok_2 : Bool) (end_3 : Int) (e_5 : Int) (is_6 : Bool) (to_7 : Int) (n_8 : Int) (f_9 : Int) (Q : Value → Heap → Prop) (h : Heap) : Prop :=
  if ok_2 = true then (if (end_3 == (10 : Int)) = true then (if (e_5 == (0 : Int)) = true then (if is_6 = true then (if (to_7 == (1 : Int)) = true then (if (n_8 == (3 : Int)) = true then (if (f_9 == (0 : Int)) = true then (CallT Try.prog fn_content_Test #[Value.agg #[Value.int .i64 (3 : Int), Value.int .i64 (2 : Int), Value.int .i64 (256 : Int), Value.int .i64 (0 : Int), Value.bool false, Value.bool false, Value.bool false], Value.string (⟨#[1, 1]⟩ : ByteArray), Value.int .i64 (0 : Int)] h fun v h5 => ∃ t55 : Bool, v = Value.bool t55 ∧ Q (Value.bool t55) h5) else (Q (Value.bool false) h)) else (Q (Value.bool false) h)) else (Q (Value.bool false) h)) else (Q (Value.bool false) h)) else (Q (Value.bool false) h)) else (Q (Value.bool false) h)) else (Q (Value.bool false) h)
def law44_awake_b4 (ok_2 : Bool) (end_3 : Int) (e_5 : Int) (Q : Value → Heap → Prop) (h : Heap) : Prop :=
  alV h (.cells #[Value.string (⟨#[97]⟩ : ByteArray), Value.bool false, Value.bool true, Value.bool false, Value.int .i64 (0 : Int), Value.int .i64 (0 : Int), Value.bool false, Value.string (⟨#[98]⟩ : ByteArray), Value.bool false, Value.bool false, Value.bool false, Value.int .i64 (0 : Int), Value.int .i64 (0 : Int), Value.bool false] 23) fun t23 h3 => CallT Try.prog fn_content_Match #[Value.slice (some t23) 2 2, Value.slice none 0 0, Value.string (⟨#[98, 98]⟩ : ByteArray), Value.int .i64 (1000 : Int)] h3 fun v h4 => ∃ t24_0 : Bool, ∃ t24_1 : Int, ∃ t24_2 : Int, ∃ t24_3 : Int, v = Value.tuple #[Value.bool t24_0, Value.int .i64 t24_1, Value.int .i64 t24_2, Value.int .i64 t24_3] ∧ law44_awake_b5 ok_2 end_3 e_5 t24_0 t24_1 t24_2 t24_3 Q h4
def law44_awake_b3 (l_1a : Option Addr) (l_1n : Nat) (l_1c : Nat) (Q : Value → Heap → Prop) (h : Heap) : Prop :=
  CallT Try.prog fn_content_Match #[Value.slice l_1a l_1n l_1c, Value.slice none 0 0, Value.string (⟨#[120, 97, 98, 99, 100, 97, 98, 45, 99, 100]⟩ : ByteArray), Value.int .i64 (1000 : Int)] h fun v h2 => ∃ t15_0 : Bool, ∃ t15_1 : Int, ∃ t15_2 : Int, ∃ t15_3 : Int, v = Value.tuple #[Value.bool t15_0, Value.int .i64 t15_1, Value.int .i64 t15_2, Value.int .i64 t15_3] ∧ law44_awake_b4 t15_0 t15_1 t15_3 Q h2
def law44_awake_b2 (Q : Value → Heap → Prop) (h : Heap) : Prop :=
  alV h (.cells #[Value.string (⟨#[97, 98]⟩ : ByteArray), Value.bool false, Value.bool false, Value.bool false, Value.int .i64 (0 : Int), Value.int .i64 (0 : Int), Value.bool false, Value.string (⟨#[99, 100]⟩ : ByteArray), Value.bool false, Value.bool false, Value.bool true, Value.int .i64 (1 : Int), Value.int .i64 (2 : Int), Value.bool false] 23) fun t12 h1 => law44_awake_b3 (some t12) 2 2 Q h1
def law44_awake_b1 (Q : Value → Heap → Prop) (h : Heap) : Prop :=
  law44_awake_b2 Q h
def law44_awake_v (Q : Value → Heap → Prop) (h : Heap) : Prop :=
  law44_awake_b1 Q h
set_option maxRecDepth 100000 in
theorem law44_awake_e (Q : Value → Heap → Prop) (h : Heap) (hk : law44_awake_v Q h) :
    ∃ c, Try.f10.body = some c ∧ EWP Try.prog 57 c (fnPost Try.prog Try.f10 Q) (env0 #[]) [] h := by
  refine ⟨_, rfl, ?_⟩
  have hk : law44_awake_b1 Q h := hk
  generalize env0 #[] = e at *
  refine EWP.seqR (fun e h => law44_awake_b2 Q h) ?_ ?_ ?_
  · kernel_rfl
  · skip
    exact eqMp (by as_aux_lemma => kernel_rfl : _ = law44_awake_b1 Q h) hk
  · intro e h hp hk
    clear hp
    refine EWP.seqR (fun e h => dL (e 1) fun l_1a l_1n l_1c => law44_awake_b3 l_1a l_1n l_1c Q h) ?_ ?_ ?_
    · kernel_rfl
    · skip
      exact eqMp (by as_aux_lemma => kernel_rfl : _ = law44_awake_b2 Q h) hk
    · intro e h hp hk
      clear hp
      obtain ⟨l_1a, l_1n, l_1c, f1, hk⟩ := dL_elim hk
      have he : upd e 1 (Value.slice l_1a l_1n l_1c) = e := by rw [upd_self f1]
      refine EWP.seqR (fun e h => dB (e 2) fun ok_2 => dI .i64 (e 3) fun end_3 => dI .i64 (e 5) fun e_5 => law44_awake_b4 ok_2 end_3 e_5 Q h) ?_ ?_ ?_
      · kernel_rfl
      · rw [← he]
        exact eqMp (by as_aux_lemma => kernel_rfl : _ = law44_awake_b3 l_1a l_1n l_1c Q h) hk
      · intro e h hp hk
        clear hp
        obtain ⟨ok_2, f2, hk⟩ := dB_elim hk
        obtain ⟨end_3, f3, hk⟩ := dI_elim hk
        obtain ⟨e_5, f5, hk⟩ := dI_elim hk
        refine EWP.seqR (fun e h => dB (e 6) fun is_6 => dI .i64 (e 7) fun to_7 => dI .i64 (e 8) fun n_8 => dI .i64 (e 9) fun f_9 => law44_awake_b5 ok_2 end_3 e_5 is_6 to_7 n_8 f_9 Q h) ?_ ?_ ?_
        · kernel_rfl
        · skip
          exact eqMp (by as_aux_lemma => kernel_rfl : _ = law44_awake_b4 ok_2 end_3 e_5 Q h) hk
        · intro e h hp hk
          have f2 := (hp 2 (by kernel_rfl)).trans f2
          have f3 := (hp 3 (by kernel_rfl)).trans f3
          have f5 := (hp 5 (by kernel_rfl)).trans f5
          clear hp
          obtain ⟨is_6, f6, hk⟩ := dB_elim hk
          obtain ⟨to_7, f7, hk⟩ := dI_elim hk
          obtain ⟨n_8, f8, hk⟩ := dI_elim hk
          obtain ⟨f_9, f9, hk⟩ := dI_elim hk
          have he : upd (upd (upd (upd (upd (upd (upd e 2 (Value.bool ok_2)) 3 (Value.int .i64 end_3)) 5 (Value.int .i64 e_5)) 6 (Value.bool is_6)) 7 (Value.int .i64 to_7)) 8 (Value.int .i64 n_8)) 9 (Value.int .i64 f_9) = e := by rw [upd_self f2, upd_self f3, upd_self f5, upd_self f6, upd_self f7, upd_self f8, upd_self f9]
          refine EWP.seqR (fun e h => dB (e 0) fun t0 => Q (Value.bool t0) h) ?_ ?_ ?_
          · kernel_rfl
          · rw [← he]
            exact eqMp (by as_aux_lemma => kernel_rfl : _ = law44_awake_b5 ok_2 end_3 e_5 is_6 to_7 n_8 f_9 Q h) hk
          · intro e h hp hk
            clear hp
            obtain ⟨t0, f0, hk⟩ := dB_elim hk
            refine EWP.ret ?_
            have he : upd e 0 (Value.bool t0) = e := by rw [upd_self f0]
            refine (show _ ∧ _ from ⟨rfl, ?_⟩)
            rw [← he]
            exact eqMp (by as_aux_lemma => kernel_rfl : _ = (Q (Value.bool t0) h)) hk
theorem law44_awake_s {Q : Value → Heap → Prop} {h : Heap} (hk : law44_awake_v Q h) : CallT Try.prog fn_law44_awake #[] h Q := by
  obtain ⟨c, hb, he⟩ := law44_awake_e Q h hk
  exact callT_of (N := 57) Try.func10 hb rfl (Try.call10 _) (Nat.le_of_ble_eq_true rfl) he
/-! ### intrusion/content.Bounds -/
def content_Bounds_b10 (Q : Value → Heap → Prop) (h : Heap) : Prop :=
  Q (Value.tuple #[Value.int .i64 (0 : Int), Value.int .i64 ((-1) : Int)]) h
def content_Bounds_b11 (c_3 : Addr) (lo_8 : Int) (hi_9 : Int) (Q : Value → Heap → Prop) (h : Heap) : Prop :=
  ldS h c_3 fun t39 => Q (Value.tuple #[Value.int .i64 lo_8, Value.int .i64 (IntKind.wrap .i64 (hi_9 - ((t39.size : Nat) : Int)))]) h
def content_Bounds_b9 (c_3 : Addr) (lo_8 : Int) (hi_9 : Int) (Q : Value → Heap → Prop) (h : Heap) : Prop :=
  ldS h c_3 fun t31 => if (decide ((IntKind.wrap .i64 (hi_9 - ((t31.size : Nat) : Int))) < lo_8)) = true then (content_Bounds_b10 Q h) else (content_Bounds_b11 c_3 lo_8 hi_9 Q h)
def content_Bounds_b8 (c_3 : Addr) (lo_8 : Int) (hi_9 : Int) (Q : Value → Heap → Prop) (h : Heap) : Prop :=
  content_Bounds_b9 c_3 (if (0 : Int) > lo_8 then (0 : Int) else lo_8) hi_9 Q h
def content_Bounds_b7 (size_1 : Int) (c_3 : Addr) (lo_8 : Int) (Q : Value → Heap → Prop) (h : Heap) : Prop :=
  ldI h (Addr.add c_3 5) .i64 fun t23 => content_Bounds_b8 c_3 lo_8 (if size_1 < (IntKind.wrap .i64 (lo_8 + t23)) then size_1 else (IntKind.wrap .i64 (lo_8 + t23))) Q h
def content_Bounds_b6 (size_1 : Int) (c_3 : Addr) (lo_8 : Int) (hi_9 : Int) (Q : Value → Heap → Prop) (h : Heap) : Prop :=
  ldI h (Addr.add c_3 5) .i64 fun t19 => if (t19 != (0 : Int)) = true then (content_Bounds_b7 size_1 c_3 lo_8 Q h) else (content_Bounds_b8 c_3 lo_8 hi_9 Q h)
def content_Bounds_b5 (size_1 : Int) (c_3 : Addr) (lo_8 : Int) (Q : Value → Heap → Prop) (h : Heap) : Prop :=
  content_Bounds_b6 size_1 c_3 lo_8 size_1 Q h
def content_Bounds_b4 (size_1 : Int) (cursor_2 : Int) (c_3 : Addr) (lo_8 : Int) (Q : Value → Heap → Prop) (h : Heap) : Prop :=
  content_Bounds_b5 size_1 c_3 (IntKind.wrap .i64 (lo_8 + cursor_2)) Q h
def content_Bounds_b3 (size_1 : Int) (cursor_2 : Int) (c_3 : Addr) (lo_8 : Int) (Q : Value → Heap → Prop) (h : Heap) : Prop :=
  ldB h (Addr.add c_3 3) fun t13 => if t13 = true then (content_Bounds_b4 size_1 cursor_2 c_3 lo_8 Q h) else (content_Bounds_b5 size_1 c_3 lo_8 Q h)
def content_Bounds_b2 (size_1 : Int) (cursor_2 : Int) (c_3 : Addr) (Q : Value → Heap → Prop) (h : Heap) : Prop :=
  ldI h (Addr.add c_3 4) .i64 fun t11 => content_Bounds_b3 size_1 cursor_2 c_3 t11 Q h
def content_Bounds_b1 (c_0_0 : ByteArray) (c_0_1 : Bool) (c_0_2 : Bool) (c_0_3 : Bool) (c_0_4 : Int) (c_0_5 : Int) (c_0_6 : Bool) (size_1 : Int) (cursor_2 : Int) (Q : Value → Heap → Prop) (h : Heap) : Prop :=
  alV h (.cells #[Value.string c_0_0, Value.bool c_0_1, Value.bool c_0_2, Value.bool c_0_3, Value.int .i64 c_0_4, Value.int .i64 c_0_5, Value.bool c_0_6] 23) fun t3 h1 => content_Bounds_b2 size_1 cursor_2 t3 Q h1
def content_Bounds_v (c_0_0 : ByteArray) (c_0_1 : Bool) (c_0_2 : Bool) (c_0_3 : Bool) (c_0_4 : Int) (c_0_5 : Int) (c_0_6 : Bool) (size_1 : Int) (cursor_2 : Int) (Q : Value → Heap → Prop) (h : Heap) : Prop :=
  content_Bounds_b1 c_0_0 c_0_1 c_0_2 c_0_3 c_0_4 c_0_5 c_0_6 size_1 cursor_2 Q h
set_option maxRecDepth 100000 in
theorem content_Bounds_e (c_0_0 : ByteArray) (c_0_1 : Bool) (c_0_2 : Bool) (c_0_3 : Bool) (c_0_4 : Int) (c_0_5 : Int) (c_0_6 : Bool) (size_1 : Int) (cursor_2 : Int) (Q : Value → Heap → Prop) (h : Heap) (hk : content_Bounds_v c_0_0 c_0_1 c_0_2 c_0_3 c_0_4 c_0_5 c_0_6 size_1 cursor_2 Q h) :
    ∃ c, Try.f11.body = some c ∧ EWP Try.prog 42 c (fnPost Try.prog Try.f11 Q) (env0 #[Value.agg #[Value.string c_0_0, Value.bool c_0_1, Value.bool c_0_2, Value.bool c_0_3, Value.int .i64 c_0_4, Value.int .i64 c_0_5, Value.bool c_0_6], Value.int .i64 size_1, Value.int .i64 cursor_2]) [] h := by
  refine ⟨_, rfl, ?_⟩
  have hk : content_Bounds_b1 c_0_0 c_0_1 c_0_2 c_0_3 c_0_4 c_0_5 c_0_6 size_1 cursor_2 Q h := hk
  have f0 : env0 #[Value.agg #[Value.string c_0_0, Value.bool c_0_1, Value.bool c_0_2, Value.bool c_0_3, Value.int .i64 c_0_4, Value.int .i64 c_0_5, Value.bool c_0_6], Value.int .i64 size_1, Value.int .i64 cursor_2] 0 = Value.agg #[Value.string c_0_0, Value.bool c_0_1, Value.bool c_0_2, Value.bool c_0_3, Value.int .i64 c_0_4, Value.int .i64 c_0_5, Value.bool c_0_6] := rfl
  have f1 : env0 #[Value.agg #[Value.string c_0_0, Value.bool c_0_1, Value.bool c_0_2, Value.bool c_0_3, Value.int .i64 c_0_4, Value.int .i64 c_0_5, Value.bool c_0_6], Value.int .i64 size_1, Value.int .i64 cursor_2] 1 = Value.int .i64 size_1 := rfl
  have f2 : env0 #[Value.agg #[Value.string c_0_0, Value.bool c_0_1, Value.bool c_0_2, Value.bool c_0_3, Value.int .i64 c_0_4, Value.int .i64 c_0_5, Value.bool c_0_6], Value.int .i64 size_1, Value.int .i64 cursor_2] 2 = Value.int .i64 cursor_2 := rfl
  generalize env0 #[Value.agg #[Value.string c_0_0, Value.bool c_0_1, Value.bool c_0_2, Value.bool c_0_3, Value.int .i64 c_0_4, Value.int .i64 c_0_5, Value.bool c_0_6], Value.int .i64 size_1, Value.int .i64 cursor_2] = e at *
  have he : upd e 0 (Value.agg #[Value.string c_0_0, Value.bool c_0_1, Value.bool c_0_2, Value.bool c_0_3, Value.int .i64 c_0_4, Value.int .i64 c_0_5, Value.bool c_0_6]) = e := by rw [upd_self f0]
  refine EWP.seqR (fun e h => dA (e 3) fun c_3 => content_Bounds_b2 size_1 cursor_2 c_3 Q h) ?_ ?_ ?_
  · kernel_rfl
  · rw [← he]
    exact eqMp (by as_aux_lemma => kernel_rfl : _ = content_Bounds_b1 c_0_0 c_0_1 c_0_2 c_0_3 c_0_4 c_0_5 c_0_6 size_1 cursor_2 Q h) hk
  · intro e h hp hk
    have f1 := (hp 1 (by kernel_rfl)).trans f1
    have f2 := (hp 2 (by kernel_rfl)).trans f2
    clear hp
    obtain ⟨c_3, f3, hk⟩ := dA_elim hk
    have he : upd e 3 (Value.pointer (some c_3)) = e := by rw [upd_self f3]
    refine EWP.seqR (fun e h => dI .i64 (e 8) fun lo_8 => content_Bounds_b3 size_1 cursor_2 c_3 lo_8 Q h) ?_ ?_ ?_
    · kernel_rfl
    · rw [← he]
      exact eqMp (by as_aux_lemma => kernel_rfl : _ = content_Bounds_b2 size_1 cursor_2 c_3 Q h) hk
    · intro e h hp hk
      have f1 := (hp 1 (by kernel_rfl)).trans f1
      have f2 := (hp 2 (by kernel_rfl)).trans f2
      have f3 := (hp 3 (by kernel_rfl)).trans f3
      clear hp
      obtain ⟨lo_8, f8, hk⟩ := dI_elim hk
      refine EWP.seqC (fun e h => e 1 = Value.int .i64 size_1 ∧ e 3 = Value.pointer (some c_3) ∧ dI .i64 (e 8) fun lo_8 => content_Bounds_b5 size_1 c_3 lo_8 Q h) ?_ ?_
      · have he : upd e 3 (Value.pointer (some c_3)) = e := by rw [upd_self f3]
        refine EWP.seqR (fun e h => dB (e 13) fun t13 => if t13 = true then (content_Bounds_b4 size_1 cursor_2 c_3 lo_8 Q h) else (content_Bounds_b5 size_1 c_3 lo_8 Q h)) ?_ ?_ ?_
        · kernel_rfl
        · rw [← he]
          exact eqMp (by as_aux_lemma => kernel_rfl : _ = content_Bounds_b3 size_1 cursor_2 c_3 lo_8 Q h) hk
        · intro e h hp hk
          have f1 := (hp 1 (by kernel_rfl)).trans f1
          have f2 := (hp 2 (by kernel_rfl)).trans f2
          have f3 := (hp 3 (by kernel_rfl)).trans f3
          have f8 := (hp 8 (by kernel_rfl)).trans f8
          clear hp
          obtain ⟨t13, f13, hk⟩ := dB_elim hk
          have fc : eev e (.tmp 13) = .bool t13 := f13
          refine EWP.condI fc hk ?_ ?_
          · intro hk
            have he : upd (upd e 2 (Value.int .i64 cursor_2)) 8 (Value.int .i64 lo_8) = e := by rw [upd_self f2, upd_self f8]
            refine EWP.regionN (fun e h => dI .i64 (e 8) fun lo_8 => content_Bounds_b5 size_1 c_3 lo_8 Q h) ?_ ?_ ?_
            · kernel_rfl
            · rw [← he]
              exact eqMp (by as_aux_lemma => kernel_rfl : _ = content_Bounds_b4 size_1 cursor_2 c_3 lo_8 Q h) hk
            · intro e h hp hk
              have f1 := (hp 1 (by kernel_rfl)).trans f1
              have f3 := (hp 3 (by kernel_rfl)).trans f3
              clear hp
              obtain ⟨lo_8, f8, hk⟩ := dI_elim hk
              exact (show _ ∧ _ from ⟨rfl, f1, f3, dI_intro f8 (hk)⟩)
          · intro hk
            refine EWP.skip ?_
            exact (show _ ∧ _ from ⟨rfl, f1, f3, dI_intro f8 (hk)⟩)
      · rintro e h ⟨f1, f3, hk⟩
        obtain ⟨lo_8, f8, hk⟩ := dI_elim hk
        have he : upd e 1 (Value.int .i64 size_1) = e := by rw [upd_self f1]
        refine EWP.seqR (fun e h => dI .i64 (e 9) fun hi_9 => content_Bounds_b6 size_1 c_3 lo_8 hi_9 Q h) ?_ ?_ ?_
        · kernel_rfl
        · rw [← he]
          exact eqMp (by as_aux_lemma => kernel_rfl : _ = content_Bounds_b5 size_1 c_3 lo_8 Q h) hk
        · intro e h hp hk
          have f1 := (hp 1 (by kernel_rfl)).trans f1
          have f3 := (hp 3 (by kernel_rfl)).trans f3
          have f8 := (hp 8 (by kernel_rfl)).trans f8
          clear hp
          obtain ⟨hi_9, f9, hk⟩ := dI_elim hk
          refine EWP.seqC (fun e h => e 3 = Value.pointer (some c_3) ∧ e 8 = Value.int .i64 lo_8 ∧ dI .i64 (e 9) fun hi_9 => content_Bounds_b8 c_3 lo_8 hi_9 Q h) ?_ ?_
          · have he : upd e 3 (Value.pointer (some c_3)) = e := by rw [upd_self f3]
            refine EWP.seqR (fun e h => dB (e 20) fun t20 => if t20 = true then (content_Bounds_b7 size_1 c_3 lo_8 Q h) else (content_Bounds_b8 c_3 lo_8 hi_9 Q h)) ?_ ?_ ?_
            · kernel_rfl
            · rw [← he]
              exact eqMp (by as_aux_lemma => kernel_rfl : _ = content_Bounds_b6 size_1 c_3 lo_8 hi_9 Q h) hk
            · intro e h hp hk
              have f1 := (hp 1 (by kernel_rfl)).trans f1
              have f3 := (hp 3 (by kernel_rfl)).trans f3
              have f8 := (hp 8 (by kernel_rfl)).trans f8
              have f9 := (hp 9 (by kernel_rfl)).trans f9
              clear hp
              obtain ⟨t20, f20, hk⟩ := dB_elim hk
              have fc : eev e (.tmp 20) = .bool t20 := f20
              refine EWP.condI fc hk ?_ ?_
              · intro hk
                have he : upd (upd (upd e 1 (Value.int .i64 size_1)) 3 (Value.pointer (some c_3))) 8 (Value.int .i64 lo_8) = e := by rw [upd_self f1, upd_self f3, upd_self f8]
                refine EWP.regionN (fun e h => dI .i64 (e 9) fun hi_9 => content_Bounds_b8 c_3 lo_8 hi_9 Q h) ?_ ?_ ?_
                · kernel_rfl
                · rw [← he]
                  exact eqMp (by as_aux_lemma => kernel_rfl : _ = content_Bounds_b7 size_1 c_3 lo_8 Q h) hk
                · intro e h hp hk
                  have f3 := (hp 3 (by kernel_rfl)).trans f3
                  have f8 := (hp 8 (by kernel_rfl)).trans f8
                  clear hp
                  obtain ⟨hi_9, f9, hk⟩ := dI_elim hk
                  exact (show _ ∧ _ from ⟨rfl, f3, f8, dI_intro f9 (hk)⟩)
              · intro hk
                refine EWP.skip ?_
                exact (show _ ∧ _ from ⟨rfl, f3, f8, dI_intro f9 (hk)⟩)
          · rintro e h ⟨f3, f8, hk⟩
            obtain ⟨hi_9, f9, hk⟩ := dI_elim hk
            have he : upd e 8 (Value.int .i64 lo_8) = e := by rw [upd_self f8]
            refine EWP.seqR (fun e h => dI .i64 (e 8) fun lo_8 => content_Bounds_b9 c_3 lo_8 hi_9 Q h) ?_ ?_ ?_
            · kernel_rfl
            · rw [← he]
              exact eqMp (by as_aux_lemma => kernel_rfl : _ = content_Bounds_b8 c_3 lo_8 hi_9 Q h) hk
            · intro e h hp hk
              have f3 := (hp 3 (by kernel_rfl)).trans f3
              have f9 := (hp 9 (by kernel_rfl)).trans f9
              clear hp
              obtain ⟨lo_8, f8, hk⟩ := dI_elim hk
              refine EWP.seqC (fun e h => e 3 = Value.pointer (some c_3) ∧ e 8 = Value.int .i64 lo_8 ∧ e 9 = Value.int .i64 hi_9 ∧ content_Bounds_b11 c_3 lo_8 hi_9 Q h) ?_ ?_
              · have he : upd (upd (upd e 3 (Value.pointer (some c_3))) 8 (Value.int .i64 lo_8)) 9 (Value.int .i64 hi_9) = e := by rw [upd_self f3, upd_self f8, upd_self f9]
                refine EWP.seqR (fun e h => dB (e 35) fun t35 => if t35 = true then (content_Bounds_b10 Q h) else (content_Bounds_b11 c_3 lo_8 hi_9 Q h)) ?_ ?_ ?_
                · kernel_rfl
                · rw [← he]
                  exact eqMp (by as_aux_lemma => kernel_rfl : _ = content_Bounds_b9 c_3 lo_8 hi_9 Q h) hk
                · intro e h hp hk
                  have f3 := (hp 3 (by kernel_rfl)).trans f3
                  have f8 := (hp 8 (by kernel_rfl)).trans f8
                  have f9 := (hp 9 (by kernel_rfl)).trans f9
                  clear hp
                  obtain ⟨t35, f35, hk⟩ := dB_elim hk
                  have fc : eev e (.tmp 35) = .bool t35 := f35
                  refine EWP.condI fc hk ?_ ?_
                  · intro hk
                    refine EWP.seqR (fun e h => dI .i64 (e 6) fun first_6 => dI .i64 (e 7) fun last_7 => Q (Value.tuple #[Value.int .i64 first_6, Value.int .i64 last_7]) h) ?_ ?_ ?_
                    · kernel_rfl
                    · skip
                      exact eqMp (by as_aux_lemma => kernel_rfl : _ = content_Bounds_b10 Q h) hk
                    · intro e h hp hk
                      clear hp
                      obtain ⟨first_6, f6, hk⟩ := dI_elim hk
                      obtain ⟨last_7, f7, hk⟩ := dI_elim hk
                      refine EWP.ret ?_
                      have he : upd (upd e 6 (Value.int .i64 first_6)) 7 (Value.int .i64 last_7) = e := by rw [upd_self f6, upd_self f7]
                      refine (show _ ∧ _ from ⟨rfl, ?_⟩)
                      rw [← he]
                      exact eqMp (by as_aux_lemma => kernel_rfl : _ = (Q (Value.tuple #[Value.int .i64 first_6, Value.int .i64 last_7]) h)) hk
                  · intro hk
                    refine EWP.skip ?_
                    exact (show _ ∧ _ from ⟨rfl, f3, f8, f9, hk⟩)
              · rintro e h ⟨f3, f8, f9, hk⟩
                have he : upd (upd (upd e 3 (Value.pointer (some c_3))) 8 (Value.int .i64 lo_8)) 9 (Value.int .i64 hi_9) = e := by rw [upd_self f3, upd_self f8, upd_self f9]
                refine EWP.seqD (fun e h => dI .i64 (e 6) fun first_6 => dI .i64 (e 7) fun last_7 => Q (Value.tuple #[Value.int .i64 first_6, Value.int .i64 last_7]) h) ?_ ?_ ?_ ?_
                · kernel_rfl
                · kernel_rfl
                · rw [← he]
                  exact eqMp (by as_aux_lemma => kernel_rfl : _ = content_Bounds_b11 c_3 lo_8 hi_9 Q h) hk
                · intro e h hp hk
                  clear hp
                  obtain ⟨first_6, f6, hk⟩ := dI_elim hk
                  obtain ⟨last_7, f7, hk⟩ := dI_elim hk
                  refine EWP.ret ?_
                  have he : upd (upd e 6 (Value.int .i64 first_6)) 7 (Value.int .i64 last_7) = e := by rw [upd_self f6, upd_self f7]
                  refine (show _ ∧ _ from ⟨rfl, ?_⟩)
                  rw [← he]
                  exact eqMp (by as_aux_lemma => kernel_rfl : _ = (Q (Value.tuple #[Value.int .i64 first_6, Value.int .i64 last_7]) h)) hk
theorem content_Bounds_s (c_0_0 : ByteArray) (c_0_1 : Bool) (c_0_2 : Bool) (c_0_3 : Bool) (c_0_4 : Int) (c_0_5 : Int) (c_0_6 : Bool) (size_1 : Int) (cursor_2 : Int) {Q : Value → Heap → Prop} {h : Heap} (hk : content_Bounds_v c_0_0 c_0_1 c_0_2 c_0_3 c_0_4 c_0_5 c_0_6 size_1 cursor_2 Q h) : CallT Try.prog fn_content_Bounds #[Value.agg #[Value.string c_0_0, Value.bool c_0_1, Value.bool c_0_2, Value.bool c_0_3, Value.int .i64 c_0_4, Value.int .i64 c_0_5, Value.bool c_0_6], Value.int .i64 size_1, Value.int .i64 cursor_2] h Q := by
  obtain ⟨c, hb, he⟩ := content_Bounds_e c_0_0 c_0_1 c_0_2 c_0_3 c_0_4 c_0_5 c_0_6 size_1 cursor_2 Q h hk
  exact callT_of (N := 42) Try.func11 hb rfl (Try.call11 _) (Nat.le_of_ble_eq_true rfl) he
/-! ### intrusion/intrusionref44.Bounds -/
def ref44_Bounds_b13 (Q : Value → Heap → Prop) (h : Heap) : Prop :=
  Q (Value.tuple #[Value.int .i64 (0 : Int), Value.int .i64 ((-1) : Int)]) h
def ref44_Bounds_b14 (c_3 : Addr) (lo_8 : Int) (hi_9 : Int) (Q : Value → Heap → Prop) (h : Heap) : Prop :=
  ldS h c_3 fun t46 => Q (Value.tuple #[Value.int .i64 lo_8, Value.int .i64 (IntKind.wrap .i64 (hi_9 - ((t46.size : Nat) : Int)))]) h
def ref44_Bounds_b12 (c_3 : Addr) (lo_8 : Int) (hi_9 : Int) (Q : Value → Heap → Prop) (h : Heap) : Prop :=
  ldS h c_3 fun t38 => if (decide ((IntKind.wrap .i64 (hi_9 - ((t38.size : Nat) : Int))) < lo_8)) = true then (ref44_Bounds_b13 Q h) else (ref44_Bounds_b14 c_3 lo_8 hi_9 Q h)
def ref44_Bounds_b11 (c_3 : Addr) (lo_8 : Int) (hi_9 : Int) (Q : Value → Heap → Prop) (h : Heap) : Prop :=
  ref44_Bounds_b12 c_3 lo_8 hi_9 Q h
def ref44_Bounds_b10 (c_3 : Addr) (hi_9 : Int) (Q : Value → Heap → Prop) (h : Heap) : Prop :=
  ref44_Bounds_b11 c_3 0 hi_9 Q h
def ref44_Bounds_b9 (c_3 : Addr) (lo_8 : Int) (hi_9 : Int) (Q : Value → Heap → Prop) (h : Heap) : Prop :=
  if (decide (lo_8 < (0 : Int))) = true then (ref44_Bounds_b10 c_3 hi_9 Q h) else (ref44_Bounds_b11 c_3 lo_8 hi_9 Q h)
def ref44_Bounds_b8 (c_3 : Addr) (lo_8 : Int) (hi_9 : Int) (Q : Value → Heap → Prop) (h : Heap) : Prop :=
  ref44_Bounds_b9 c_3 lo_8 hi_9 Q h
def ref44_Bounds_b7 (c_3 : Addr) (lo_8 : Int) (Q : Value → Heap → Prop) (h : Heap) : Prop :=
  ldI h (Addr.add c_3 5) .i64 fun t32 => ref44_Bounds_b8 c_3 lo_8 (IntKind.wrap .i64 (lo_8 + t32)) Q h
def ref44_Bounds_b6 (size_1 : Int) (c_3 : Addr) (lo_8 : Int) (hi_9 : Int) (Q : Value → Heap → Prop) (h : Heap) : Prop :=
  ldI h (Addr.add c_3 5) .i64 fun t20 => if (t20 != (0 : Int)) = true then (ldI h (Addr.add c_3 5) .i64 fun t25 => if (decide ((IntKind.wrap .i64 (lo_8 + t25)) < size_1)) = true then (ref44_Bounds_b7 c_3 lo_8 Q h) else (ref44_Bounds_b8 c_3 lo_8 hi_9 Q h)) else (ref44_Bounds_b8 c_3 lo_8 hi_9 Q h)
def ref44_Bounds_b5 (size_1 : Int) (c_3 : Addr) (lo_8 : Int) (Q : Value → Heap → Prop) (h : Heap) : Prop :=
  ref44_Bounds_b6 size_1 c_3 lo_8 size_1 Q h
def ref44_Bounds_b4 (size_1 : Int) (cursor_2 : Int) (c_3 : Addr) (Q : Value → Heap → Prop) (h : Heap) : Prop :=
  ldI h (Addr.add c_3 4) .i64 fun t16 => ref44_Bounds_b5 size_1 c_3 (IntKind.wrap .i64 (cursor_2 + t16)) Q h
def ref44_Bounds_b3 (size_1 : Int) (cursor_2 : Int) (c_3 : Addr) (lo_8 : Int) (Q : Value → Heap → Prop) (h : Heap) : Prop :=
  ldB h (Addr.add c_3 3) fun t13 => if t13 = true then (ref44_Bounds_b4 size_1 cursor_2 c_3 Q h) else (ref44_Bounds_b5 size_1 c_3 lo_8 Q h)
def ref44_Bounds_b2 (size_1 : Int) (cursor_2 : Int) (c_3 : Addr) (Q : Value → Heap → Prop) (h : Heap) : Prop :=
  ldI h (Addr.add c_3 4) .i64 fun t11 => ref44_Bounds_b3 size_1 cursor_2 c_3 t11 Q h
def ref44_Bounds_b1 (c_0_0 : ByteArray) (c_0_1 : Bool) (c_0_2 : Bool) (c_0_3 : Bool) (c_0_4 : Int) (c_0_5 : Int) (c_0_6 : Bool) (size_1 : Int) (cursor_2 : Int) (Q : Value → Heap → Prop) (h : Heap) : Prop :=
  alV h (.cells #[Value.string c_0_0, Value.bool c_0_1, Value.bool c_0_2, Value.bool c_0_3, Value.int .i64 c_0_4, Value.int .i64 c_0_5, Value.bool c_0_6] 23) fun t3 h1 => ref44_Bounds_b2 size_1 cursor_2 t3 Q h1
def ref44_Bounds_v (c_0_0 : ByteArray) (c_0_1 : Bool) (c_0_2 : Bool) (c_0_3 : Bool) (c_0_4 : Int) (c_0_5 : Int) (c_0_6 : Bool) (size_1 : Int) (cursor_2 : Int) (Q : Value → Heap → Prop) (h : Heap) : Prop :=
  ref44_Bounds_b1 c_0_0 c_0_1 c_0_2 c_0_3 c_0_4 c_0_5 c_0_6 size_1 cursor_2 Q h
set_option maxRecDepth 100000 in
theorem ref44_Bounds_e (c_0_0 : ByteArray) (c_0_1 : Bool) (c_0_2 : Bool) (c_0_3 : Bool) (c_0_4 : Int) (c_0_5 : Int) (c_0_6 : Bool) (size_1 : Int) (cursor_2 : Int) (Q : Value → Heap → Prop) (h : Heap) (hk : ref44_Bounds_v c_0_0 c_0_1 c_0_2 c_0_3 c_0_4 c_0_5 c_0_6 size_1 cursor_2 Q h) :
    ∃ c, Try.f12.body = some c ∧ EWP Try.prog 49 c (fnPost Try.prog Try.f12 Q) (env0 #[Value.agg #[Value.string c_0_0, Value.bool c_0_1, Value.bool c_0_2, Value.bool c_0_3, Value.int .i64 c_0_4, Value.int .i64 c_0_5, Value.bool c_0_6], Value.int .i64 size_1, Value.int .i64 cursor_2]) [] h := by
  refine ⟨_, rfl, ?_⟩
  have hk : ref44_Bounds_b1 c_0_0 c_0_1 c_0_2 c_0_3 c_0_4 c_0_5 c_0_6 size_1 cursor_2 Q h := hk
  have f0 : env0 #[Value.agg #[Value.string c_0_0, Value.bool c_0_1, Value.bool c_0_2, Value.bool c_0_3, Value.int .i64 c_0_4, Value.int .i64 c_0_5, Value.bool c_0_6], Value.int .i64 size_1, Value.int .i64 cursor_2] 0 = Value.agg #[Value.string c_0_0, Value.bool c_0_1, Value.bool c_0_2, Value.bool c_0_3, Value.int .i64 c_0_4, Value.int .i64 c_0_5, Value.bool c_0_6] := rfl
  have f1 : env0 #[Value.agg #[Value.string c_0_0, Value.bool c_0_1, Value.bool c_0_2, Value.bool c_0_3, Value.int .i64 c_0_4, Value.int .i64 c_0_5, Value.bool c_0_6], Value.int .i64 size_1, Value.int .i64 cursor_2] 1 = Value.int .i64 size_1 := rfl
  have f2 : env0 #[Value.agg #[Value.string c_0_0, Value.bool c_0_1, Value.bool c_0_2, Value.bool c_0_3, Value.int .i64 c_0_4, Value.int .i64 c_0_5, Value.bool c_0_6], Value.int .i64 size_1, Value.int .i64 cursor_2] 2 = Value.int .i64 cursor_2 := rfl
  generalize env0 #[Value.agg #[Value.string c_0_0, Value.bool c_0_1, Value.bool c_0_2, Value.bool c_0_3, Value.int .i64 c_0_4, Value.int .i64 c_0_5, Value.bool c_0_6], Value.int .i64 size_1, Value.int .i64 cursor_2] = e at *
  have he : upd e 0 (Value.agg #[Value.string c_0_0, Value.bool c_0_1, Value.bool c_0_2, Value.bool c_0_3, Value.int .i64 c_0_4, Value.int .i64 c_0_5, Value.bool c_0_6]) = e := by rw [upd_self f0]
  refine EWP.seqR (fun e h => dA (e 3) fun c_3 => ref44_Bounds_b2 size_1 cursor_2 c_3 Q h) ?_ ?_ ?_
  · kernel_rfl
  · rw [← he]
    exact eqMp (by as_aux_lemma => kernel_rfl : _ = ref44_Bounds_b1 c_0_0 c_0_1 c_0_2 c_0_3 c_0_4 c_0_5 c_0_6 size_1 cursor_2 Q h) hk
  · intro e h hp hk
    have f1 := (hp 1 (by kernel_rfl)).trans f1
    have f2 := (hp 2 (by kernel_rfl)).trans f2
    clear hp
    obtain ⟨c_3, f3, hk⟩ := dA_elim hk
    have he : upd e 3 (Value.pointer (some c_3)) = e := by rw [upd_self f3]
    refine EWP.seqR (fun e h => dI .i64 (e 8) fun lo_8 => ref44_Bounds_b3 size_1 cursor_2 c_3 lo_8 Q h) ?_ ?_ ?_
    · kernel_rfl
    · rw [← he]
      exact eqMp (by as_aux_lemma => kernel_rfl : _ = ref44_Bounds_b2 size_1 cursor_2 c_3 Q h) hk
    · intro e h hp hk
      have f1 := (hp 1 (by kernel_rfl)).trans f1
      have f2 := (hp 2 (by kernel_rfl)).trans f2
      have f3 := (hp 3 (by kernel_rfl)).trans f3
      clear hp
      obtain ⟨lo_8, f8, hk⟩ := dI_elim hk
      refine EWP.seqC (fun e h => e 1 = Value.int .i64 size_1 ∧ e 3 = Value.pointer (some c_3) ∧ dI .i64 (e 8) fun lo_8 => ref44_Bounds_b5 size_1 c_3 lo_8 Q h) ?_ ?_
      · have he : upd e 3 (Value.pointer (some c_3)) = e := by rw [upd_self f3]
        refine EWP.seqR (fun e h => dB (e 13) fun t13 => if t13 = true then (ref44_Bounds_b4 size_1 cursor_2 c_3 Q h) else (ref44_Bounds_b5 size_1 c_3 lo_8 Q h)) ?_ ?_ ?_
        · kernel_rfl
        · rw [← he]
          exact eqMp (by as_aux_lemma => kernel_rfl : _ = ref44_Bounds_b3 size_1 cursor_2 c_3 lo_8 Q h) hk
        · intro e h hp hk
          have f1 := (hp 1 (by kernel_rfl)).trans f1
          have f2 := (hp 2 (by kernel_rfl)).trans f2
          have f3 := (hp 3 (by kernel_rfl)).trans f3
          have f8 := (hp 8 (by kernel_rfl)).trans f8
          clear hp
          obtain ⟨t13, f13, hk⟩ := dB_elim hk
          have fc : eev e (.tmp 13) = .bool t13 := f13
          refine EWP.condI fc hk ?_ ?_
          · intro hk
            have he : upd (upd e 2 (Value.int .i64 cursor_2)) 3 (Value.pointer (some c_3)) = e := by rw [upd_self f2, upd_self f3]
            refine EWP.regionN (fun e h => dI .i64 (e 8) fun lo_8 => ref44_Bounds_b5 size_1 c_3 lo_8 Q h) ?_ ?_ ?_
            · kernel_rfl
            · rw [← he]
              exact eqMp (by as_aux_lemma => kernel_rfl : _ = ref44_Bounds_b4 size_1 cursor_2 c_3 Q h) hk
            · intro e h hp hk
              have f1 := (hp 1 (by kernel_rfl)).trans f1
              have f3 := (hp 3 (by kernel_rfl)).trans f3
              clear hp
              obtain ⟨lo_8, f8, hk⟩ := dI_elim hk
              exact (show _ ∧ _ from ⟨rfl, f1, f3, dI_intro f8 (hk)⟩)
          · intro hk
            refine EWP.skip ?_
            exact (show _ ∧ _ from ⟨rfl, f1, f3, dI_intro f8 (hk)⟩)
      · rintro e h ⟨f1, f3, hk⟩
        obtain ⟨lo_8, f8, hk⟩ := dI_elim hk
        have he : upd e 1 (Value.int .i64 size_1) = e := by rw [upd_self f1]
        refine EWP.seqR (fun e h => dI .i64 (e 9) fun hi_9 => ref44_Bounds_b6 size_1 c_3 lo_8 hi_9 Q h) ?_ ?_ ?_
        · kernel_rfl
        · rw [← he]
          exact eqMp (by as_aux_lemma => kernel_rfl : _ = ref44_Bounds_b5 size_1 c_3 lo_8 Q h) hk
        · intro e h hp hk
          have f1 := (hp 1 (by kernel_rfl)).trans f1
          have f3 := (hp 3 (by kernel_rfl)).trans f3
          have f8 := (hp 8 (by kernel_rfl)).trans f8
          clear hp
          obtain ⟨hi_9, f9, hk⟩ := dI_elim hk
          refine EWP.seqC (fun e h => e 3 = Value.pointer (some c_3) ∧ e 8 = Value.int .i64 lo_8 ∧ dI .i64 (e 9) fun hi_9 => ref44_Bounds_b8 c_3 lo_8 hi_9 Q h) ?_ ?_
          · have he : upd (upd (upd e 1 (Value.int .i64 size_1)) 3 (Value.pointer (some c_3))) 8 (Value.int .i64 lo_8) = e := by rw [upd_self f1, upd_self f3, upd_self f8]
            refine EWP.seqR (fun e h => dB (e 29) fun t29 => if t29 = true then (ref44_Bounds_b7 c_3 lo_8 Q h) else (ref44_Bounds_b8 c_3 lo_8 hi_9 Q h)) ?_ ?_ ?_
            · kernel_rfl
            · rw [← he]
              exact eqMp (by as_aux_lemma => kernel_rfl : _ = ref44_Bounds_b6 size_1 c_3 lo_8 hi_9 Q h) hk
            · intro e h hp hk
              have f3 := (hp 3 (by kernel_rfl)).trans f3
              have f8 := (hp 8 (by kernel_rfl)).trans f8
              have f9 := (hp 9 (by kernel_rfl)).trans f9
              clear hp
              obtain ⟨t29, f29, hk⟩ := dB_elim hk
              have fc : eev e (.tmp 29) = .bool t29 := f29
              refine EWP.condI fc hk ?_ ?_
              · intro hk
                have he : upd (upd e 3 (Value.pointer (some c_3))) 8 (Value.int .i64 lo_8) = e := by rw [upd_self f3, upd_self f8]
                refine EWP.regionN (fun e h => dI .i64 (e 9) fun hi_9 => ref44_Bounds_b8 c_3 lo_8 hi_9 Q h) ?_ ?_ ?_
                · kernel_rfl
                · rw [← he]
                  exact eqMp (by as_aux_lemma => kernel_rfl : _ = ref44_Bounds_b7 c_3 lo_8 Q h) hk
                · intro e h hp hk
                  have f3 := (hp 3 (by kernel_rfl)).trans f3
                  have f8 := (hp 8 (by kernel_rfl)).trans f8
                  clear hp
                  obtain ⟨hi_9, f9, hk⟩ := dI_elim hk
                  exact (show _ ∧ _ from ⟨rfl, f3, f8, dI_intro f9 (hk)⟩)
              · intro hk
                refine EWP.skip ?_
                exact (show _ ∧ _ from ⟨rfl, f3, f8, dI_intro f9 (hk)⟩)
          · rintro e h ⟨f3, f8, hk⟩
            obtain ⟨hi_9, f9, hk⟩ := dI_elim hk
            refine EWP.seqC (fun e h => e 3 = Value.pointer (some c_3) ∧ e 9 = Value.int .i64 hi_9 ∧ dI .i64 (e 8) fun lo_8 => ref44_Bounds_b11 c_3 lo_8 hi_9 Q h) ?_ ?_
            · have he : upd e 8 (Value.int .i64 lo_8) = e := by rw [upd_self f8]
              refine EWP.seqR (fun e h => dB (e 35) fun t35 => if t35 = true then (ref44_Bounds_b10 c_3 hi_9 Q h) else (ref44_Bounds_b11 c_3 lo_8 hi_9 Q h)) ?_ ?_ ?_
              · kernel_rfl
              · rw [← he]
                exact eqMp (by as_aux_lemma => kernel_rfl : _ = ref44_Bounds_b9 c_3 lo_8 hi_9 Q h) hk
              · intro e h hp hk
                have f3 := (hp 3 (by kernel_rfl)).trans f3
                have f8 := (hp 8 (by kernel_rfl)).trans f8
                have f9 := (hp 9 (by kernel_rfl)).trans f9
                clear hp
                obtain ⟨t35, f35, hk⟩ := dB_elim hk
                have fc : eev e (.tmp 35) = .bool t35 := f35
                refine EWP.condI fc hk ?_ ?_
                · intro hk
                  refine EWP.regionN (fun e h => dI .i64 (e 8) fun lo_8 => ref44_Bounds_b11 c_3 lo_8 hi_9 Q h) ?_ ?_ ?_
                  · kernel_rfl
                  · skip
                    exact eqMp (by as_aux_lemma => kernel_rfl : _ = ref44_Bounds_b10 c_3 hi_9 Q h) hk
                  · intro e h hp hk
                    have f3 := (hp 3 (by kernel_rfl)).trans f3
                    have f9 := (hp 9 (by kernel_rfl)).trans f9
                    clear hp
                    obtain ⟨lo_8, f8, hk⟩ := dI_elim hk
                    exact (show _ ∧ _ from ⟨rfl, f3, f9, dI_intro f8 (hk)⟩)
                · intro hk
                  refine EWP.skip ?_
                  exact (show _ ∧ _ from ⟨rfl, f3, f9, dI_intro f8 (hk)⟩)
            · rintro e h ⟨f3, f9, hk⟩
              obtain ⟨lo_8, f8, hk⟩ := dI_elim hk
              refine EWP.seqC (fun e h => e 3 = Value.pointer (some c_3) ∧ e 8 = Value.int .i64 lo_8 ∧ e 9 = Value.int .i64 hi_9 ∧ ref44_Bounds_b14 c_3 lo_8 hi_9 Q h) ?_ ?_
              · have he : upd (upd (upd e 3 (Value.pointer (some c_3))) 8 (Value.int .i64 lo_8)) 9 (Value.int .i64 hi_9) = e := by rw [upd_self f3, upd_self f8, upd_self f9]
                refine EWP.seqR (fun e h => dB (e 42) fun t42 => if t42 = true then (ref44_Bounds_b13 Q h) else (ref44_Bounds_b14 c_3 lo_8 hi_9 Q h)) ?_ ?_ ?_
                · kernel_rfl
                · rw [← he]
                  exact eqMp (by as_aux_lemma => kernel_rfl : _ = ref44_Bounds_b12 c_3 lo_8 hi_9 Q h) hk
                · intro e h hp hk
                  have f3 := (hp 3 (by kernel_rfl)).trans f3
                  have f8 := (hp 8 (by kernel_rfl)).trans f8
                  have f9 := (hp 9 (by kernel_rfl)).trans f9
                  clear hp
                  obtain ⟨t42, f42, hk⟩ := dB_elim hk
                  have fc : eev e (.tmp 42) = .bool t42 := f42
                  refine EWP.condI fc hk ?_ ?_
                  · intro hk
                    refine EWP.seqR (fun e h => dI .i64 (e 6) fun t6 => dI .i64 (e 7) fun t7 => Q (Value.tuple #[Value.int .i64 t6, Value.int .i64 t7]) h) ?_ ?_ ?_
                    · kernel_rfl
                    · skip
                      exact eqMp (by as_aux_lemma => kernel_rfl : _ = ref44_Bounds_b13 Q h) hk
                    · intro e h hp hk
                      clear hp
                      obtain ⟨t6, f6, hk⟩ := dI_elim hk
                      obtain ⟨t7, f7, hk⟩ := dI_elim hk
                      refine EWP.ret ?_
                      have he : upd (upd e 6 (Value.int .i64 t6)) 7 (Value.int .i64 t7) = e := by rw [upd_self f6, upd_self f7]
                      refine (show _ ∧ _ from ⟨rfl, ?_⟩)
                      rw [← he]
                      exact eqMp (by as_aux_lemma => kernel_rfl : _ = (Q (Value.tuple #[Value.int .i64 t6, Value.int .i64 t7]) h)) hk
                  · intro hk
                    refine EWP.skip ?_
                    exact (show _ ∧ _ from ⟨rfl, f3, f8, f9, hk⟩)
              · rintro e h ⟨f3, f8, f9, hk⟩
                have he : upd (upd (upd e 3 (Value.pointer (some c_3))) 8 (Value.int .i64 lo_8)) 9 (Value.int .i64 hi_9) = e := by rw [upd_self f3, upd_self f8, upd_self f9]
                refine EWP.seqD (fun e h => dI .i64 (e 6) fun t6 => dI .i64 (e 7) fun t7 => Q (Value.tuple #[Value.int .i64 t6, Value.int .i64 t7]) h) ?_ ?_ ?_ ?_
                · kernel_rfl
                · kernel_rfl
                · rw [← he]
                  exact eqMp (by as_aux_lemma => kernel_rfl : _ = ref44_Bounds_b14 c_3 lo_8 hi_9 Q h) hk
                · intro e h hp hk
                  clear hp
                  obtain ⟨t6, f6, hk⟩ := dI_elim hk
                  obtain ⟨t7, f7, hk⟩ := dI_elim hk
                  refine EWP.ret ?_
                  have he : upd (upd e 6 (Value.int .i64 t6)) 7 (Value.int .i64 t7) = e := by rw [upd_self f6, upd_self f7]
                  refine (show _ ∧ _ from ⟨rfl, ?_⟩)
                  rw [← he]
                  exact eqMp (by as_aux_lemma => kernel_rfl : _ = (Q (Value.tuple #[Value.int .i64 t6, Value.int .i64 t7]) h)) hk
theorem ref44_Bounds_s (c_0_0 : ByteArray) (c_0_1 : Bool) (c_0_2 : Bool) (c_0_3 : Bool) (c_0_4 : Int) (c_0_5 : Int) (c_0_6 : Bool) (size_1 : Int) (cursor_2 : Int) {Q : Value → Heap → Prop} {h : Heap} (hk : ref44_Bounds_v c_0_0 c_0_1 c_0_2 c_0_3 c_0_4 c_0_5 c_0_6 size_1 cursor_2 Q h) : CallT Try.prog fn_ref44_Bounds #[Value.agg #[Value.string c_0_0, Value.bool c_0_1, Value.bool c_0_2, Value.bool c_0_3, Value.int .i64 c_0_4, Value.int .i64 c_0_5, Value.bool c_0_6], Value.int .i64 size_1, Value.int .i64 cursor_2] h Q := by
  obtain ⟨c, hb, he⟩ := ref44_Bounds_e c_0_0 c_0_1 c_0_2 c_0_3 c_0_4 c_0_5 c_0_6 size_1 cursor_2 Q h hk
  exact callT_of (N := 49) Try.func12 hb rfl (Try.call12 _) (Nat.le_of_ble_eq_true rfl) he
/-! ### intrusion/content.At -/
def content_At_b3 (Q : Value → Heap → Prop) (h : Heap) : Prop :=
  Q (Value.bool false) h
def content_At_b6 (c_3 : Addr) (part_7 : ByteArray) (Q : Value → Heap → Prop) (h : Heap) : Prop :=
  ldS h c_3 fun t40 => Q (Value.bool (part_7.toList == t40.toList)) h
def content_At_b14 (Q : Value → Heap → Prop) (Kn9 : (Int) → Heap → Prop) (h : Heap) : Prop :=
  Q (Value.bool false) h
def content_At_b15 (c_3 : Addr) (part_7 : ByteArray) (t43 : Int) (t44 : Int) (Q : Value → Heap → Prop) (Kn9 : (Int) → Heap → Prop) (h : Heap) : Prop :=
  Kn9 (IntKind.wrap .i64 (t44 + (1 : Int))) h
def content_At_b13 (c_3 : Addr) (part_7 : ByteArray) (i_8 : Int) (t43 : Int) (t44 : Int) (Q : Value → Heap → Prop) (Kn9 : (Int) → Heap → Prop) (h : Heap) : Prop :=
  idxS part_7 i_8 fun t49 => ldS h c_3 fun t52 => idxS t52 i_8 fun t54 => CallT Try.prog fn_content_small #[Value.int .u8 t49] h fun v h2 => ∃ t50 : Int, v = Value.int .u8 t50 ∧ (ldS h2 c_3 fun t952 => Value.string t952 = Value.string t52) ∧ CallT Try.prog fn_content_small #[Value.int .u8 t54] h2 fun v h3 => ∃ t55 : Int, v = Value.int .u8 t55 ∧ if (t50 != t55) = true then (content_At_b14 Q Kn9 h3) else (content_At_b15 c_3 part_7 t43 t44 Q Kn9 h3)
def content_At_b12 (c_3 : Addr) (part_7 : ByteArray) (t43 : Int) (t44 : Int) (Q : Value → Heap → Prop) (Kn9 : (Int) → Heap → Prop) (h : Heap) : Prop :=
  content_At_b13 c_3 part_7 t44 t43 t44 Q Kn9 h
def content_At_b11 (c_3 : Addr) (part_7 : ByteArray) (t43 : Int) (t44 : Int) (Q : Value → Heap → Prop) (Kn9 : (Int) → Heap → Prop) (h : Heap) : Prop :=
  content_At_b12 c_3 part_7 t43 t44 Q Kn9 h
def content_At_b16 (Q : Value → Heap → Prop) (h : Heap) : Prop :=
  Q (Value.bool true) h
def content_At_b10 (c_3 : Addr) (part_7 : ByteArray) (t43 : Int) (t44 : Int) (Q : Value → Heap → Prop) (Kn9 : (Int) → Heap → Prop) (h : Heap) : Prop :=
  if (decide (t44 < t43)) = true then (content_At_b11 c_3 part_7 t43 t44 Q Kn9 h) else (content_At_b16 Q h)
def content_At_l9 (c_3 : Addr) (part_7 : ByteArray) (t43 : Int) (Q : Value → Heap → Prop) (t44 : Int) (h : Heap) (Kn9 : (Int) → Heap → Prop) : Prop :=
  content_At_b10 c_3 part_7 t43 t44 Q Kn9 h
def content_At_b8 (c_3 : Addr) (part_7 : ByteArray) (Q : Value → Heap → Prop) (h : Heap) : Prop :=
  LoopV (fun (s : Int) h Kn => content_At_l9 c_3 part_7 ((part_7.size : Nat) : Int) Q s h Kn) 0 h
def content_At_b7 (c_3 : Addr) (part_7 : ByteArray) (Q : Value → Heap → Prop) (h : Heap) : Prop :=
  content_At_b8 c_3 part_7 Q h
def content_At_b5 (c_3 : Addr) (part_7 : ByteArray) (Q : Value → Heap → Prop) (h : Heap) : Prop :=
  ldB h (Addr.add c_3 1) fun t36 => if (!t36) = true then (content_At_b6 c_3 part_7 Q h) else (content_At_b7 c_3 part_7 Q h)
def content_At_b4 (data_1 : ByteArray) (at_2 : Int) (c_3 : Addr) (Q : Value → Heap → Prop) (h : Heap) : Prop :=
  ldS h c_3 fun t31 => sliceStr data_1 (some at_2) (some (IntKind.wrap .i64 (at_2 + ((t31.size : Nat) : Int)))) fun t34 => content_At_b5 c_3 t34 Q h
def content_At_b2 (data_1 : ByteArray) (at_2 : Int) (c_3 : Addr) (Q : Value → Heap → Prop) (h : Heap) : Prop :=
  if (decide (at_2 < (0 : Int))) = true then (content_At_b3 Q h) else (if (decide (at_2 > ((data_1.size : Nat) : Int))) = true then (content_At_b3 Q h) else (ldS h c_3 fun t23 => if (decide ((IntKind.wrap .i64 (((data_1.size : Nat) : Int) - at_2)) < ((t23.size : Nat) : Int))) = true then (content_At_b3 Q h) else (content_At_b4 data_1 at_2 c_3 Q h)))
def content_At_b1 (c_0_0 : ByteArray) (c_0_1 : Bool) (c_0_2 : Bool) (c_0_3 : Bool) (c_0_4 : Int) (c_0_5 : Int) (c_0_6 : Bool) (data_1 : ByteArray) (at_2 : Int) (Q : Value → Heap → Prop) (h : Heap) : Prop :=
  alV h (.cells #[Value.string c_0_0, Value.bool c_0_1, Value.bool c_0_2, Value.bool c_0_3, Value.int .i64 c_0_4, Value.int .i64 c_0_5, Value.bool c_0_6] 23) fun t3 h1 => content_At_b2 data_1 at_2 t3 Q h1
def content_At_v (c_0_0 : ByteArray) (c_0_1 : Bool) (c_0_2 : Bool) (c_0_3 : Bool) (c_0_4 : Int) (c_0_5 : Int) (c_0_6 : Bool) (data_1 : ByteArray) (at_2 : Int) (Q : Value → Heap → Prop) (h : Heap) : Prop :=
  content_At_b1 c_0_0 c_0_1 c_0_2 c_0_3 c_0_4 c_0_5 c_0_6 data_1 at_2 Q h
set_option maxRecDepth 100000 in
theorem content_At_e (c_0_0 : ByteArray) (c_0_1 : Bool) (c_0_2 : Bool) (c_0_3 : Bool) (c_0_4 : Int) (c_0_5 : Int) (c_0_6 : Bool) (data_1 : ByteArray) (at_2 : Int) (Q : Value → Heap → Prop) (h : Heap) (hk : content_At_v c_0_0 c_0_1 c_0_2 c_0_3 c_0_4 c_0_5 c_0_6 data_1 at_2 Q h) :
    ∃ c, Try.f13.body = some c ∧ EWP Try.prog 58 c (fnPost Try.prog Try.f13 Q) (env0 #[Value.agg #[Value.string c_0_0, Value.bool c_0_1, Value.bool c_0_2, Value.bool c_0_3, Value.int .i64 c_0_4, Value.int .i64 c_0_5, Value.bool c_0_6], Value.string data_1, Value.int .i64 at_2]) [] h := by
  refine ⟨_, rfl, ?_⟩
  have hk : content_At_b1 c_0_0 c_0_1 c_0_2 c_0_3 c_0_4 c_0_5 c_0_6 data_1 at_2 Q h := hk
  have f0 : env0 #[Value.agg #[Value.string c_0_0, Value.bool c_0_1, Value.bool c_0_2, Value.bool c_0_3, Value.int .i64 c_0_4, Value.int .i64 c_0_5, Value.bool c_0_6], Value.string data_1, Value.int .i64 at_2] 0 = Value.agg #[Value.string c_0_0, Value.bool c_0_1, Value.bool c_0_2, Value.bool c_0_3, Value.int .i64 c_0_4, Value.int .i64 c_0_5, Value.bool c_0_6] := rfl
  have f1 : env0 #[Value.agg #[Value.string c_0_0, Value.bool c_0_1, Value.bool c_0_2, Value.bool c_0_3, Value.int .i64 c_0_4, Value.int .i64 c_0_5, Value.bool c_0_6], Value.string data_1, Value.int .i64 at_2] 1 = Value.string data_1 := rfl
  have f2 : env0 #[Value.agg #[Value.string c_0_0, Value.bool c_0_1, Value.bool c_0_2, Value.bool c_0_3, Value.int .i64 c_0_4, Value.int .i64 c_0_5, Value.bool c_0_6], Value.string data_1, Value.int .i64 at_2] 2 = Value.int .i64 at_2 := rfl
  generalize env0 #[Value.agg #[Value.string c_0_0, Value.bool c_0_1, Value.bool c_0_2, Value.bool c_0_3, Value.int .i64 c_0_4, Value.int .i64 c_0_5, Value.bool c_0_6], Value.string data_1, Value.int .i64 at_2] = e at *
  have he : upd e 0 (Value.agg #[Value.string c_0_0, Value.bool c_0_1, Value.bool c_0_2, Value.bool c_0_3, Value.int .i64 c_0_4, Value.int .i64 c_0_5, Value.bool c_0_6]) = e := by rw [upd_self f0]
  refine EWP.seqR (fun e h => dA (e 3) fun c_3 => content_At_b2 data_1 at_2 c_3 Q h) ?_ ?_ ?_
  · kernel_rfl
  · rw [← he]
    exact eqMp (by as_aux_lemma => kernel_rfl : _ = content_At_b1 c_0_0 c_0_1 c_0_2 c_0_3 c_0_4 c_0_5 c_0_6 data_1 at_2 Q h) hk
  · intro e h hp hk
    have f1 := (hp 1 (by kernel_rfl)).trans f1
    have f2 := (hp 2 (by kernel_rfl)).trans f2
    clear hp
    obtain ⟨c_3, f3, hk⟩ := dA_elim hk
    refine EWP.seqC (fun e h => e 1 = Value.string data_1 ∧ e 2 = Value.int .i64 at_2 ∧ e 3 = Value.pointer (some c_3) ∧ content_At_b4 data_1 at_2 c_3 Q h) ?_ ?_
    · have he : upd (upd (upd e 1 (Value.string data_1)) 2 (Value.int .i64 at_2)) 3 (Value.pointer (some c_3)) = e := by rw [upd_self f1, upd_self f2, upd_self f3]
      refine EWP.seqR (fun e h => dB (e 26) fun t26 => if t26 = true then (content_At_b3 Q h) else (content_At_b4 data_1 at_2 c_3 Q h)) ?_ ?_ ?_
      · kernel_rfl
      · rw [← he]
        exact eqMp (by as_aux_lemma => kernel_rfl : _ = content_At_b2 data_1 at_2 c_3 Q h) hk
      · intro e h hp hk
        have f1 := (hp 1 (by kernel_rfl)).trans f1
        have f2 := (hp 2 (by kernel_rfl)).trans f2
        have f3 := (hp 3 (by kernel_rfl)).trans f3
        clear hp
        obtain ⟨t26, f26, hk⟩ := dB_elim hk
        have fc : eev e (.tmp 26) = .bool t26 := f26
        refine EWP.condI fc hk ?_ ?_
        · intro hk
          refine EWP.seqR (fun e h => dB (e 6) fun t6 => Q (Value.bool t6) h) ?_ ?_ ?_
          · kernel_rfl
          · skip
            exact eqMp (by as_aux_lemma => kernel_rfl : _ = content_At_b3 Q h) hk
          · intro e h hp hk
            clear hp
            obtain ⟨t6, f6, hk⟩ := dB_elim hk
            refine EWP.ret ?_
            have he : upd e 6 (Value.bool t6) = e := by rw [upd_self f6]
            refine (show _ ∧ _ from ⟨rfl, ?_⟩)
            rw [← he]
            exact eqMp (by as_aux_lemma => kernel_rfl : _ = (Q (Value.bool t6) h)) hk
        · intro hk
          refine EWP.skip ?_
          exact (show _ ∧ _ from ⟨rfl, f1, f2, f3, hk⟩)
    · rintro e h ⟨f1, f2, f3, hk⟩
      have he : upd (upd (upd e 1 (Value.string data_1)) 2 (Value.int .i64 at_2)) 3 (Value.pointer (some c_3)) = e := by rw [upd_self f1, upd_self f2, upd_self f3]
      refine EWP.seqR (fun e h => dS (e 7) fun part_7 => content_At_b5 c_3 part_7 Q h) ?_ ?_ ?_
      · kernel_rfl
      · rw [← he]
        exact eqMp (by as_aux_lemma => kernel_rfl : _ = content_At_b4 data_1 at_2 c_3 Q h) hk
      · intro e h hp hk
        have f3 := (hp 3 (by kernel_rfl)).trans f3
        clear hp
        obtain ⟨part_7, f7, hk⟩ := dS_elim hk
        refine EWP.seqC (fun e h => e 3 = Value.pointer (some c_3) ∧ e 7 = Value.string part_7 ∧ content_At_b7 c_3 part_7 Q h) ?_ ?_
        · have he : upd e 3 (Value.pointer (some c_3)) = e := by rw [upd_self f3]
          refine EWP.seqR (fun e h => dB (e 37) fun t37 => if t37 = true then (content_At_b6 c_3 part_7 Q h) else (content_At_b7 c_3 part_7 Q h)) ?_ ?_ ?_
          · kernel_rfl
          · rw [← he]
            exact eqMp (by as_aux_lemma => kernel_rfl : _ = content_At_b5 c_3 part_7 Q h) hk
          · intro e h hp hk
            have f3 := (hp 3 (by kernel_rfl)).trans f3
            have f7 := (hp 7 (by kernel_rfl)).trans f7
            clear hp
            obtain ⟨t37, f37, hk⟩ := dB_elim hk
            have fc : eev e (.tmp 37) = .bool t37 := f37
            refine EWP.condI fc hk ?_ ?_
            · intro hk
              have he : upd (upd e 3 (Value.pointer (some c_3))) 7 (Value.string part_7) = e := by rw [upd_self f3, upd_self f7]
              refine EWP.seqR (fun e h => dB (e 6) fun t6 => Q (Value.bool t6) h) ?_ ?_ ?_
              · kernel_rfl
              · rw [← he]
                exact eqMp (by as_aux_lemma => kernel_rfl : _ = content_At_b6 c_3 part_7 Q h) hk
              · intro e h hp hk
                clear hp
                obtain ⟨t6, f6, hk⟩ := dB_elim hk
                refine EWP.ret ?_
                have he : upd e 6 (Value.bool t6) = e := by rw [upd_self f6]
                refine (show _ ∧ _ from ⟨rfl, ?_⟩)
                rw [← he]
                exact eqMp (by as_aux_lemma => kernel_rfl : _ = (Q (Value.bool t6) h)) hk
            · intro hk
              refine EWP.skip ?_
              exact (show _ ∧ _ from ⟨rfl, f3, f7, hk⟩)
        · rintro e h ⟨f3, f7, hk⟩
          refine EWP.seqC (fun e h => content_At_b16 Q h) ?_ ?_
          · have he : upd e 7 (Value.string part_7) = e := by rw [upd_self f7]
            refine EWP.seqR (fun e h => dI .i64 (e 43) fun t43 => dI .i64 (e 44) fun t44 => LoopV (fun (s : Int) h Kn => content_At_l9 c_3 part_7 t43 Q s h Kn) t44 h) ?_ ?_ ?_
            · kernel_rfl
            · rw [← he]
              exact eqMp (by as_aux_lemma => kernel_rfl : _ = content_At_b8 c_3 part_7 Q h) hk
            · intro e h hp hk
              have f3 := (hp 3 (by kernel_rfl)).trans f3
              have f7 := (hp 7 (by kernel_rfl)).trans f7
              clear hp
              obtain ⟨t43, f43, hk⟩ := dI_elim hk
              obtain ⟨t44, f44, hk⟩ := dI_elim hk
              refine EWP.block ?_
              refine EWP.loopV (fun e (s : Int) => e 3 = Value.pointer (some c_3) ∧ e 7 = Value.string part_7 ∧ e 43 = Value.int .i64 t43 ∧ e 44 = Value.int .i64 s) ⟨f3, f7, f43, f44⟩ hk ?_
              rintro e t44 h Kn9 ⟨f3, f7, f43, f44⟩ hk
              have f44 : e 44 = Value.int .i64 t44 := f44
              have hk : content_At_l9 c_3 part_7 t43 Q t44 h Kn9 := hk
              have he : upd (upd e 43 (Value.int .i64 t43)) 44 (Value.int .i64 t44) = e := by rw [upd_self f43, upd_self f44]
              refine EWP.seqR (fun e h => dB (e 45) fun t45 => if t45 = true then (content_At_b11 c_3 part_7 t43 t44 Q Kn9 h) else (content_At_b16 Q h)) ?_ ?_ ?_
              · kernel_rfl
              · rw [← he]
                exact eqMp (by as_aux_lemma => kernel_rfl : _ = content_At_b10 c_3 part_7 t43 t44 Q Kn9 h) hk
              · intro e h hp hk
                have f3 := (hp 3 (by kernel_rfl)).trans f3
                have f7 := (hp 7 (by kernel_rfl)).trans f7
                have f43 := (hp 43 (by kernel_rfl)).trans f43
                have f44 := (hp 44 (by kernel_rfl)).trans f44
                clear hp
                obtain ⟨t45, f45, hk⟩ := dB_elim hk
                refine EWP.seqC (fun e h => e 3 = Value.pointer (some c_3) ∧ e 7 = Value.string part_7 ∧ e 43 = Value.int .i64 t43 ∧ e 44 = Value.int .i64 t44 ∧ content_At_b11 c_3 part_7 t43 t44 Q Kn9 h) ?_ ?_
                · have fc : eev e (.tmp 45) = .bool t45 := f45
                  refine EWP.condI fc hk ?_ ?_
                  · intro hk
                    refine EWP.skip ?_
                    exact (show _ ∧ _ from ⟨rfl, f3, f7, f43, f44, hk⟩)
                  · intro hk
                    refine EWP.exit ?_
                    exact (show _ ∧ _ from ⟨rfl, hk⟩)
                · rintro e h ⟨f3, f7, f43, f44, hk⟩
                  refine EWP.seqC (fun e h => e 3 = Value.pointer (some c_3) ∧ e 7 = Value.string part_7 ∧ e 43 = Value.int .i64 t43 ∧ e 44 = Value.int .i64 t44 ∧ content_At_b15 c_3 part_7 t43 t44 Q Kn9 h) ?_ ?_
                  · refine EWP.block ?_
                    have he : upd e 44 (Value.int .i64 t44) = e := by rw [upd_self f44]
                    refine EWP.seqR (fun e h => dI .i64 (e 8) fun i_8 => content_At_b13 c_3 part_7 i_8 t43 t44 Q Kn9 h) ?_ ?_ ?_
                    · kernel_rfl
                    · rw [← he]
                      exact eqMp (by as_aux_lemma => kernel_rfl : _ = content_At_b12 c_3 part_7 t43 t44 Q Kn9 h) hk
                    · intro e h hp hk
                      have f3 := (hp 3 (by kernel_rfl)).trans f3
                      have f7 := (hp 7 (by kernel_rfl)).trans f7
                      have f43 := (hp 43 (by kernel_rfl)).trans f43
                      have f44 := (hp 44 (by kernel_rfl)).trans f44
                      clear hp
                      obtain ⟨i_8, f8, hk⟩ := dI_elim hk
                      have he : upd (upd (upd e 3 (Value.pointer (some c_3))) 7 (Value.string part_7)) 8 (Value.int .i64 i_8) = e := by rw [upd_self f3, upd_self f7, upd_self f8]
                      refine EWP.seqD (fun e h => dB (e 56) fun t56 => if t56 = true then (content_At_b14 Q Kn9 h) else (content_At_b15 c_3 part_7 t43 t44 Q Kn9 h)) ?_ ?_ ?_ ?_
                      · kernel_rfl
                      · kernel_rfl
                      · rw [← he]
                        exact eqMp (by as_aux_lemma => kernel_rfl : _ = content_At_b13 c_3 part_7 i_8 t43 t44 Q Kn9 h) hk
                      · intro e h hp hk
                        have f3 := (hp 3 (by kernel_rfl)).trans f3
                        have f7 := (hp 7 (by kernel_rfl)).trans f7
                        have f43 := (hp 43 (by kernel_rfl)).trans f43
                        have f44 := (hp 44 (by kernel_rfl)).trans f44
                        clear hp
                        obtain ⟨t56, f56, hk⟩ := dB_elim hk
                        have fc : eev e (.tmp 56) = .bool t56 := f56
                        refine EWP.condI fc hk ?_ ?_
                        · intro hk
                          refine EWP.seqR (fun e h => dB (e 6) fun t6 => Q (Value.bool t6) h) ?_ ?_ ?_
                          · kernel_rfl
                          · skip
                            exact eqMp (by as_aux_lemma => kernel_rfl : _ = content_At_b14 Q Kn9 h) hk
                          · intro e h hp hk
                            clear hp
                            obtain ⟨t6, f6, hk⟩ := dB_elim hk
                            refine EWP.ret ?_
                            have he : upd e 6 (Value.bool t6) = e := by rw [upd_self f6]
                            refine (show _ ∧ _ from ⟨rfl, ?_⟩)
                            rw [← he]
                            exact eqMp (by as_aux_lemma => kernel_rfl : _ = (Q (Value.bool t6) h)) hk
                        · intro hk
                          refine EWP.skip ?_
                          exact (show _ ∧ _ from ⟨rfl, f3, f7, f43, f44, hk⟩)
                  · rintro e h ⟨f3, f7, f43, f44, hk⟩
                    have he : upd e 44 (Value.int .i64 t44) = e := by rw [upd_self f44]
                    refine EWP.regionN (fun e h => dI .i64 (e 44) fun t44 => Kn9 (t44) h) ?_ ?_ ?_
                    · kernel_rfl
                    · rw [← he]
                      exact eqMp (by as_aux_lemma => kernel_rfl : _ = content_At_b15 c_3 part_7 t43 t44 Q Kn9 h) hk
                    · intro e h hp hk
                      have f3 := (hp 3 (by kernel_rfl)).trans f3
                      have f7 := (hp 7 (by kernel_rfl)).trans f7
                      have f43 := (hp 43 (by kernel_rfl)).trans f43
                      clear hp
                      obtain ⟨t44, f44, hk⟩ := dI_elim hk
                      exact (show _ ∧ _ from ⟨rfl, t44, ⟨f3, f7, f43, f44⟩, hk⟩)
          · rintro e h hk
            refine EWP.seqR (fun e h => dB (e 6) fun t6 => Q (Value.bool t6) h) ?_ ?_ ?_
            · kernel_rfl
            · skip
              exact eqMp (by as_aux_lemma => kernel_rfl : _ = content_At_b16 Q h) hk
            · intro e h hp hk
              clear hp
              obtain ⟨t6, f6, hk⟩ := dB_elim hk
              refine EWP.ret ?_
              have he : upd e 6 (Value.bool t6) = e := by rw [upd_self f6]
              refine (show _ ∧ _ from ⟨rfl, ?_⟩)
              rw [← he]
              exact eqMp (by as_aux_lemma => kernel_rfl : _ = (Q (Value.bool t6) h)) hk
theorem content_At_s (c_0_0 : ByteArray) (c_0_1 : Bool) (c_0_2 : Bool) (c_0_3 : Bool) (c_0_4 : Int) (c_0_5 : Int) (c_0_6 : Bool) (data_1 : ByteArray) (at_2 : Int) {Q : Value → Heap → Prop} {h : Heap} (hk : content_At_v c_0_0 c_0_1 c_0_2 c_0_3 c_0_4 c_0_5 c_0_6 data_1 at_2 Q h) : CallT Try.prog fn_content_At #[Value.agg #[Value.string c_0_0, Value.bool c_0_1, Value.bool c_0_2, Value.bool c_0_3, Value.int .i64 c_0_4, Value.int .i64 c_0_5, Value.bool c_0_6], Value.string data_1, Value.int .i64 at_2] h Q := by
  obtain ⟨c, hb, he⟩ := content_At_e c_0_0 c_0_1 c_0_2 c_0_3 c_0_4 c_0_5 c_0_6 data_1 at_2 Q h hk
  exact callT_of (N := 58) Try.func13 hb rfl (Try.call13 _) (Nat.le_of_ble_eq_true rfl) he
/-! ### intrusion/intrusionref44.At -/
def ref44_At_b3 (Q : Value → Heap → Prop) (h : Heap) : Prop :=
  Q (Value.bool false) h
def ref44_At_b11 (Q : Value → Heap → Prop) (Kn6 : (Int) → Heap → Prop) (h : Heap) : Prop :=
  Q (Value.bool false) h
def ref44_At_b12 (data_1 : ByteArray) (at_2 : Int) (c_3 : Addr) (i_7 : Int) (Q : Value → Heap → Prop) (Kn6 : (Int) → Heap → Prop) (h : Heap) : Prop :=
  Kn6 (IntKind.wrap .i64 (i_7 + (1 : Int))) h
def ref44_At_b10 (data_1 : ByteArray) (at_2 : Int) (c_3 : Addr) (i_7 : Int) (x_8 : Int) (y_9 : Int) (Q : Value → Heap → Prop) (Kn6 : (Int) → Heap → Prop) (h : Heap) : Prop :=
  if (x_8 != y_9) = true then (ldB h (Addr.add c_3 1) fun t49 => if (!t49) = true then (ref44_At_b11 Q Kn6 h) else (CallT Try.prog fn_ref44_small #[Value.int .u8 x_8] h fun v h2 => ∃ t53 : Int, v = Value.int .u8 t53 ∧ CallT Try.prog fn_ref44_small #[Value.int .u8 y_9] h2 fun v h3 => ∃ t55 : Int, v = Value.int .u8 t55 ∧ if (t53 != t55) = true then (ref44_At_b11 Q Kn6 h3) else (ref44_At_b12 data_1 at_2 c_3 i_7 Q Kn6 h3))) else (ref44_At_b12 data_1 at_2 c_3 i_7 Q Kn6 h)
def ref44_At_b9 (data_1 : ByteArray) (at_2 : Int) (c_3 : Addr) (i_7 : Int) (Q : Value → Heap → Prop) (Kn6 : (Int) → Heap → Prop) (h : Heap) : Prop :=
  ldS h c_3 fun t36 => idxS t36 i_7 fun t38 => idxS data_1 (IntKind.wrap .i64 (at_2 + i_7)) fun t43 => ref44_At_b10 data_1 at_2 c_3 i_7 t38 t43 Q Kn6 h
def ref44_At_b8 (data_1 : ByteArray) (at_2 : Int) (c_3 : Addr) (i_7 : Int) (Q : Value → Heap → Prop) (Kn6 : (Int) → Heap → Prop) (h : Heap) : Prop :=
  ref44_At_b9 data_1 at_2 c_3 i_7 Q Kn6 h
def ref44_At_b13 (Q : Value → Heap → Prop) (h : Heap) : Prop :=
  Q (Value.bool true) h
def ref44_At_b7 (data_1 : ByteArray) (at_2 : Int) (c_3 : Addr) (i_7 : Int) (Q : Value → Heap → Prop) (Kn6 : (Int) → Heap → Prop) (h : Heap) : Prop :=
  ldS h c_3 fun t30 => if (decide (i_7 < ((t30.size : Nat) : Int))) = true then (ref44_At_b8 data_1 at_2 c_3 i_7 Q Kn6 h) else (ref44_At_b13 Q h)
def ref44_At_l6 (data_1 : ByteArray) (at_2 : Int) (c_3 : Addr) (Q : Value → Heap → Prop) (i_7 : Int) (h : Heap) (Kn6 : (Int) → Heap → Prop) : Prop :=
  ref44_At_b7 data_1 at_2 c_3 i_7 Q Kn6 h
def ref44_At_b5 (data_1 : ByteArray) (at_2 : Int) (c_3 : Addr) (Q : Value → Heap → Prop) (h : Heap) : Prop :=
  LoopV (fun (s : Int) h Kn => ref44_At_l6 data_1 at_2 c_3 Q s h Kn) 0 h
def ref44_At_b4 (data_1 : ByteArray) (at_2 : Int) (c_3 : Addr) (Q : Value → Heap → Prop) (h : Heap) : Prop :=
  ref44_At_b5 data_1 at_2 c_3 Q h
def ref44_At_b2 (data_1 : ByteArray) (at_2 : Int) (c_3 : Addr) (Q : Value → Heap → Prop) (h : Heap) : Prop :=
  if (decide (at_2 < (0 : Int))) = true then (ref44_At_b3 Q h) else (if (decide (at_2 > ((data_1.size : Nat) : Int))) = true then (ref44_At_b3 Q h) else (ldS h c_3 fun t20 => if (decide (((t20.size : Nat) : Int) > (IntKind.wrap .i64 (((data_1.size : Nat) : Int) - at_2)))) = true then (ref44_At_b3 Q h) else (ref44_At_b4 data_1 at_2 c_3 Q h)))
def ref44_At_b1 (c_0_0 : ByteArray) (c_0_1 : Bool) (c_0_2 : Bool) (c_0_3 : Bool) (c_0_4 : Int) (c_0_5 : Int) (c_0_6 : Bool) (data_1 : ByteArray) (at_2 : Int) (Q : Value → Heap → Prop) (h : Heap) : Prop :=
  alV h (.cells #[Value.string c_0_0, Value.bool c_0_1, Value.bool c_0_2, Value.bool c_0_3, Value.int .i64 c_0_4, Value.int .i64 c_0_5, Value.bool c_0_6] 23) fun t3 h1 => ref44_At_b2 data_1 at_2 t3 Q h1
def ref44_At_v (c_0_0 : ByteArray) (c_0_1 : Bool) (c_0_2 : Bool) (c_0_3 : Bool) (c_0_4 : Int) (c_0_5 : Int) (c_0_6 : Bool) (data_1 : ByteArray) (at_2 : Int) (Q : Value → Heap → Prop) (h : Heap) : Prop :=
  ref44_At_b1 c_0_0 c_0_1 c_0_2 c_0_3 c_0_4 c_0_5 c_0_6 data_1 at_2 Q h
set_option maxRecDepth 100000 in
theorem ref44_At_e (c_0_0 : ByteArray) (c_0_1 : Bool) (c_0_2 : Bool) (c_0_3 : Bool) (c_0_4 : Int) (c_0_5 : Int) (c_0_6 : Bool) (data_1 : ByteArray) (at_2 : Int) (Q : Value → Heap → Prop) (h : Heap) (hk : ref44_At_v c_0_0 c_0_1 c_0_2 c_0_3 c_0_4 c_0_5 c_0_6 data_1 at_2 Q h) :
    ∃ c, Try.f14.body = some c ∧ EWP Try.prog 59 c (fnPost Try.prog Try.f14 Q) (env0 #[Value.agg #[Value.string c_0_0, Value.bool c_0_1, Value.bool c_0_2, Value.bool c_0_3, Value.int .i64 c_0_4, Value.int .i64 c_0_5, Value.bool c_0_6], Value.string data_1, Value.int .i64 at_2]) [] h := by
  refine ⟨_, rfl, ?_⟩
  have hk : ref44_At_b1 c_0_0 c_0_1 c_0_2 c_0_3 c_0_4 c_0_5 c_0_6 data_1 at_2 Q h := hk
  have f0 : env0 #[Value.agg #[Value.string c_0_0, Value.bool c_0_1, Value.bool c_0_2, Value.bool c_0_3, Value.int .i64 c_0_4, Value.int .i64 c_0_5, Value.bool c_0_6], Value.string data_1, Value.int .i64 at_2] 0 = Value.agg #[Value.string c_0_0, Value.bool c_0_1, Value.bool c_0_2, Value.bool c_0_3, Value.int .i64 c_0_4, Value.int .i64 c_0_5, Value.bool c_0_6] := rfl
  have f1 : env0 #[Value.agg #[Value.string c_0_0, Value.bool c_0_1, Value.bool c_0_2, Value.bool c_0_3, Value.int .i64 c_0_4, Value.int .i64 c_0_5, Value.bool c_0_6], Value.string data_1, Value.int .i64 at_2] 1 = Value.string data_1 := rfl
  have f2 : env0 #[Value.agg #[Value.string c_0_0, Value.bool c_0_1, Value.bool c_0_2, Value.bool c_0_3, Value.int .i64 c_0_4, Value.int .i64 c_0_5, Value.bool c_0_6], Value.string data_1, Value.int .i64 at_2] 2 = Value.int .i64 at_2 := rfl
  generalize env0 #[Value.agg #[Value.string c_0_0, Value.bool c_0_1, Value.bool c_0_2, Value.bool c_0_3, Value.int .i64 c_0_4, Value.int .i64 c_0_5, Value.bool c_0_6], Value.string data_1, Value.int .i64 at_2] = e at *
  have he : upd e 0 (Value.agg #[Value.string c_0_0, Value.bool c_0_1, Value.bool c_0_2, Value.bool c_0_3, Value.int .i64 c_0_4, Value.int .i64 c_0_5, Value.bool c_0_6]) = e := by rw [upd_self f0]
  refine EWP.seqR (fun e h => dA (e 3) fun c_3 => ref44_At_b2 data_1 at_2 c_3 Q h) ?_ ?_ ?_
  · kernel_rfl
  · rw [← he]
    exact eqMp (by as_aux_lemma => kernel_rfl : _ = ref44_At_b1 c_0_0 c_0_1 c_0_2 c_0_3 c_0_4 c_0_5 c_0_6 data_1 at_2 Q h) hk
  · intro e h hp hk
    have f1 := (hp 1 (by kernel_rfl)).trans f1
    have f2 := (hp 2 (by kernel_rfl)).trans f2
    clear hp
    obtain ⟨c_3, f3, hk⟩ := dA_elim hk
    refine EWP.seqC (fun e h => e 1 = Value.string data_1 ∧ e 2 = Value.int .i64 at_2 ∧ e 3 = Value.pointer (some c_3) ∧ ref44_At_b4 data_1 at_2 c_3 Q h) ?_ ?_
    · have he : upd (upd (upd e 1 (Value.string data_1)) 2 (Value.int .i64 at_2)) 3 (Value.pointer (some c_3)) = e := by rw [upd_self f1, upd_self f2, upd_self f3]
      refine EWP.seqR (fun e h => dB (e 27) fun t27 => if t27 = true then (ref44_At_b3 Q h) else (ref44_At_b4 data_1 at_2 c_3 Q h)) ?_ ?_ ?_
      · kernel_rfl
      · rw [← he]
        exact eqMp (by as_aux_lemma => kernel_rfl : _ = ref44_At_b2 data_1 at_2 c_3 Q h) hk
      · intro e h hp hk
        have f1 := (hp 1 (by kernel_rfl)).trans f1
        have f2 := (hp 2 (by kernel_rfl)).trans f2
        have f3 := (hp 3 (by kernel_rfl)).trans f3
        clear hp
        obtain ⟨t27, f27, hk⟩ := dB_elim hk
        have fc : eev e (.tmp 27) = .bool t27 := f27
        refine EWP.condI fc hk ?_ ?_
        · intro hk
          refine EWP.seqR (fun e h => dB (e 6) fun t6 => Q (Value.bool t6) h) ?_ ?_ ?_
          · kernel_rfl
          · skip
            exact eqMp (by as_aux_lemma => kernel_rfl : _ = ref44_At_b3 Q h) hk
          · intro e h hp hk
            clear hp
            obtain ⟨t6, f6, hk⟩ := dB_elim hk
            refine EWP.ret ?_
            have he : upd e 6 (Value.bool t6) = e := by rw [upd_self f6]
            refine (show _ ∧ _ from ⟨rfl, ?_⟩)
            rw [← he]
            exact eqMp (by as_aux_lemma => kernel_rfl : _ = (Q (Value.bool t6) h)) hk
        · intro hk
          refine EWP.skip ?_
          exact (show _ ∧ _ from ⟨rfl, f1, f2, f3, hk⟩)
    · rintro e h ⟨f1, f2, f3, hk⟩
      refine EWP.seqC (fun e h => ref44_At_b13 Q h) ?_ ?_
      · refine EWP.seqR (fun e h => dI .i64 (e 7) fun i_7 => LoopV (fun (s : Int) h Kn => ref44_At_l6 data_1 at_2 c_3 Q s h Kn) i_7 h) ?_ ?_ ?_
        · kernel_rfl
        · skip
          exact eqMp (by as_aux_lemma => kernel_rfl : _ = ref44_At_b5 data_1 at_2 c_3 Q h) hk
        · intro e h hp hk
          have f1 := (hp 1 (by kernel_rfl)).trans f1
          have f2 := (hp 2 (by kernel_rfl)).trans f2
          have f3 := (hp 3 (by kernel_rfl)).trans f3
          clear hp
          obtain ⟨i_7, f7, hk⟩ := dI_elim hk
          refine EWP.block ?_
          refine EWP.loopV (fun e (s : Int) => e 1 = Value.string data_1 ∧ e 2 = Value.int .i64 at_2 ∧ e 3 = Value.pointer (some c_3) ∧ e 7 = Value.int .i64 s) ⟨f1, f2, f3, f7⟩ hk ?_
          rintro e i_7 h Kn6 ⟨f1, f2, f3, f7⟩ hk
          have f7 : e 7 = Value.int .i64 i_7 := f7
          have hk : ref44_At_l6 data_1 at_2 c_3 Q i_7 h Kn6 := hk
          refine EWP.seqC (fun e h => e 1 = Value.string data_1 ∧ e 2 = Value.int .i64 at_2 ∧ e 3 = Value.pointer (some c_3) ∧ e 7 = Value.int .i64 i_7 ∧ ref44_At_b8 data_1 at_2 c_3 i_7 Q Kn6 h) ?_ ?_
          · have he : upd (upd e 3 (Value.pointer (some c_3))) 7 (Value.int .i64 i_7) = e := by rw [upd_self f3, upd_self f7]
            refine EWP.seqR (fun e h => dB (e 32) fun t32 => if t32 = true then (ref44_At_b8 data_1 at_2 c_3 i_7 Q Kn6 h) else (ref44_At_b13 Q h)) ?_ ?_ ?_
            · kernel_rfl
            · rw [← he]
              exact eqMp (by as_aux_lemma => kernel_rfl : _ = ref44_At_b7 data_1 at_2 c_3 i_7 Q Kn6 h) hk
            · intro e h hp hk
              have f1 := (hp 1 (by kernel_rfl)).trans f1
              have f2 := (hp 2 (by kernel_rfl)).trans f2
              have f3 := (hp 3 (by kernel_rfl)).trans f3
              have f7 := (hp 7 (by kernel_rfl)).trans f7
              clear hp
              obtain ⟨t32, f32, hk⟩ := dB_elim hk
              have fc : eev e (.tmp 32) = .bool t32 := f32
              refine EWP.condI fc hk ?_ ?_
              · intro hk
                refine EWP.skip ?_
                exact (show _ ∧ _ from ⟨rfl, f1, f2, f3, f7, hk⟩)
              · intro hk
                refine EWP.exit ?_
                exact (show _ ∧ _ from ⟨rfl, hk⟩)
          · rintro e h ⟨f1, f2, f3, f7, hk⟩
            refine EWP.seqC (fun e h => e 1 = Value.string data_1 ∧ e 2 = Value.int .i64 at_2 ∧ e 3 = Value.pointer (some c_3) ∧ e 7 = Value.int .i64 i_7 ∧ ref44_At_b12 data_1 at_2 c_3 i_7 Q Kn6 h) ?_ ?_
            · refine EWP.block ?_
              have he : upd (upd (upd (upd e 1 (Value.string data_1)) 2 (Value.int .i64 at_2)) 3 (Value.pointer (some c_3))) 7 (Value.int .i64 i_7) = e := by rw [upd_self f1, upd_self f2, upd_self f3, upd_self f7]
              refine EWP.seqD (fun e h => dI .u8 (e 8) fun x_8 => dI .u8 (e 9) fun y_9 => ref44_At_b10 data_1 at_2 c_3 i_7 x_8 y_9 Q Kn6 h) ?_ ?_ ?_ ?_
              · kernel_rfl
              · kernel_rfl
              · rw [← he]
                exact eqMp (by as_aux_lemma => kernel_rfl : _ = ref44_At_b9 data_1 at_2 c_3 i_7 Q Kn6 h) hk
              · intro e h hp hk
                have f1 := (hp 1 (by kernel_rfl)).trans f1
                have f2 := (hp 2 (by kernel_rfl)).trans f2
                have f3 := (hp 3 (by kernel_rfl)).trans f3
                have f7 := (hp 7 (by kernel_rfl)).trans f7
                clear hp
                obtain ⟨x_8, f8, hk⟩ := dI_elim hk
                obtain ⟨y_9, f9, hk⟩ := dI_elim hk
                have he : upd (upd (upd e 3 (Value.pointer (some c_3))) 8 (Value.int .u8 x_8)) 9 (Value.int .u8 y_9) = e := by rw [upd_self f3, upd_self f8, upd_self f9]
                refine EWP.seqR (fun e h => dB (e 58) fun t58 => if t58 = true then (ref44_At_b11 Q Kn6 h) else (ref44_At_b12 data_1 at_2 c_3 i_7 Q Kn6 h)) ?_ ?_ ?_
                · kernel_rfl
                · rw [← he]
                  exact eqMp (by as_aux_lemma => kernel_rfl : _ = ref44_At_b10 data_1 at_2 c_3 i_7 x_8 y_9 Q Kn6 h) hk
                · intro e h hp hk
                  have f1 := (hp 1 (by kernel_rfl)).trans f1
                  have f2 := (hp 2 (by kernel_rfl)).trans f2
                  have f3 := (hp 3 (by kernel_rfl)).trans f3
                  have f7 := (hp 7 (by kernel_rfl)).trans f7
                  clear hp
                  obtain ⟨t58, f58, hk⟩ := dB_elim hk
                  have fc : eev e (.tmp 58) = .bool t58 := f58
                  refine EWP.condI fc hk ?_ ?_
                  · intro hk
                    refine EWP.seqR (fun e h => dB (e 6) fun t6 => Q (Value.bool t6) h) ?_ ?_ ?_
                    · kernel_rfl
                    · skip
                      exact eqMp (by as_aux_lemma => kernel_rfl : _ = ref44_At_b11 Q Kn6 h) hk
                    · intro e h hp hk
                      clear hp
                      obtain ⟨t6, f6, hk⟩ := dB_elim hk
                      refine EWP.ret ?_
                      have he : upd e 6 (Value.bool t6) = e := by rw [upd_self f6]
                      refine (show _ ∧ _ from ⟨rfl, ?_⟩)
                      rw [← he]
                      exact eqMp (by as_aux_lemma => kernel_rfl : _ = (Q (Value.bool t6) h)) hk
                  · intro hk
                    refine EWP.skip ?_
                    exact (show _ ∧ _ from ⟨rfl, f1, f2, f3, f7, hk⟩)
            · rintro e h ⟨f1, f2, f3, f7, hk⟩
              have he : upd e 7 (Value.int .i64 i_7) = e := by rw [upd_self f7]
              refine EWP.regionN (fun e h => dI .i64 (e 7) fun i_7 => Kn6 (i_7) h) ?_ ?_ ?_
              · kernel_rfl
              · rw [← he]
                exact eqMp (by as_aux_lemma => kernel_rfl : _ = ref44_At_b12 data_1 at_2 c_3 i_7 Q Kn6 h) hk
              · intro e h hp hk
                have f1 := (hp 1 (by kernel_rfl)).trans f1
                have f2 := (hp 2 (by kernel_rfl)).trans f2
                have f3 := (hp 3 (by kernel_rfl)).trans f3
                clear hp
                obtain ⟨i_7, f7, hk⟩ := dI_elim hk
                exact (show _ ∧ _ from ⟨rfl, i_7, ⟨f1, f2, f3, f7⟩, hk⟩)
      · rintro e h hk
        refine EWP.seqR (fun e h => dB (e 6) fun t6 => Q (Value.bool t6) h) ?_ ?_ ?_
        · kernel_rfl
        · skip
          exact eqMp (by as_aux_lemma => kernel_rfl : _ = ref44_At_b13 Q h) hk
        · intro e h hp hk
          clear hp
          obtain ⟨t6, f6, hk⟩ := dB_elim hk
          refine EWP.ret ?_
          have he : upd e 6 (Value.bool t6) = e := by rw [upd_self f6]
          refine (show _ ∧ _ from ⟨rfl, ?_⟩)
          rw [← he]
          exact eqMp (by as_aux_lemma => kernel_rfl : _ = (Q (Value.bool t6) h)) hk
theorem ref44_At_s (c_0_0 : ByteArray) (c_0_1 : Bool) (c_0_2 : Bool) (c_0_3 : Bool) (c_0_4 : Int) (c_0_5 : Int) (c_0_6 : Bool) (data_1 : ByteArray) (at_2 : Int) {Q : Value → Heap → Prop} {h : Heap} (hk : ref44_At_v c_0_0 c_0_1 c_0_2 c_0_3 c_0_4 c_0_5 c_0_6 data_1 at_2 Q h) : CallT Try.prog fn_ref44_At #[Value.agg #[Value.string c_0_0, Value.bool c_0_1, Value.bool c_0_2, Value.bool c_0_3, Value.int .i64 c_0_4, Value.int .i64 c_0_5, Value.bool c_0_6], Value.string data_1, Value.int .i64 at_2] h Q := by
  obtain ⟨c, hb, he⟩ := ref44_At_e c_0_0 c_0_1 c_0_2 c_0_3 c_0_4 c_0_5 c_0_6 data_1 at_2 Q h hk
  exact callT_of (N := 59) Try.func14 hb rfl (Try.call14 _) (Nat.le_of_ble_eq_true rfl) he
/-! ### intrusion/content.Test -/
def content_Test_b7 (Q : Value → Heap → Prop) (h : Heap) : Prop :=
  Q (Value.bool false) h
def content_Test_b18 (data_1 : ByteArray) (t_3 : Addr) (at_7 : Int) (n_8 : Int) (t52 : Int) (t53 : Int) (Q : Value → Heap → Prop) (Kn10 : (Int × Int) → Heap → Prop) (h : Heap) : Prop :=
  Kn10 (n_8, IntKind.wrap .i64 (t53 + (1 : Int))) h
def content_Test_b17 (data_1 : ByteArray) (t_3 : Addr) (at_7 : Int) (n_8 : Int) (k_10 : Int) (t52 : Int) (t53 : Int) (Q : Value → Heap → Prop) (Kn10 : (Int × Int) → Heap → Prop) (h : Heap) : Prop :=
  0 ≤ (8 : Int) ∧ idxS data_1 (IntKind.wrap .i64 (at_7 + k_10)) fun t70 => content_Test_b18 data_1 t_3 at_7 (IntKind.wrap .i64 (BitVec.toNat (BitVec.ofInt (IntKind.bits .i64) (IntKind.wrap .i64 (n_8 * 2 ^ (min (Int.toNat (8 : Int)) (IntKind.bits .i64)))) ||| BitVec.ofInt (IntKind.bits .i64) (IntKind.wrap .i64 t70)) : Int)) t52 t53 Q Kn10 h
def content_Test_b16 (data_1 : ByteArray) (t_3 : Addr) (at_7 : Int) (n_8 : Int) (i_9 : Int) (t52 : Int) (t53 : Int) (Q : Value → Heap → Prop) (Kn10 : (Int × Int) → Heap → Prop) (h : Heap) : Prop :=
  ldI h (Addr.add t_3 1) .i64 fun t60 => content_Test_b17 data_1 t_3 at_7 n_8 (IntKind.wrap .i64 ((IntKind.wrap .i64 (t60 - (1 : Int))) - i_9)) t52 t53 Q Kn10 h
def content_Test_b15 (data_1 : ByteArray) (t_3 : Addr) (at_7 : Int) (n_8 : Int) (i_9 : Int) (k_10 : Int) (t52 : Int) (t53 : Int) (Q : Value → Heap → Prop) (Kn10 : (Int × Int) → Heap → Prop) (h : Heap) : Prop :=
  ldB h (Addr.add t_3 5) fun t58 => if t58 = true then (content_Test_b16 data_1 t_3 at_7 n_8 i_9 t52 t53 Q Kn10 h) else (content_Test_b17 data_1 t_3 at_7 n_8 k_10 t52 t53 Q Kn10 h)
def content_Test_b14 (data_1 : ByteArray) (t_3 : Addr) (at_7 : Int) (n_8 : Int) (i_9 : Int) (t52 : Int) (t53 : Int) (Q : Value → Heap → Prop) (Kn10 : (Int × Int) → Heap → Prop) (h : Heap) : Prop :=
  content_Test_b15 data_1 t_3 at_7 n_8 i_9 i_9 t52 t53 Q Kn10 h
def content_Test_b13 (data_1 : ByteArray) (t_3 : Addr) (at_7 : Int) (n_8 : Int) (t52 : Int) (t53 : Int) (Q : Value → Heap → Prop) (Kn10 : (Int × Int) → Heap → Prop) (h : Heap) : Prop :=
  content_Test_b14 data_1 t_3 at_7 n_8 t53 t52 t53 Q Kn10 h
def content_Test_b12 (data_1 : ByteArray) (t_3 : Addr) (at_7 : Int) (n_8 : Int) (t52 : Int) (t53 : Int) (Q : Value → Heap → Prop) (Kn10 : (Int × Int) → Heap → Prop) (h : Heap) : Prop :=
  content_Test_b13 data_1 t_3 at_7 n_8 t52 t53 Q Kn10 h
def content_Test_b23 (t_3 : Addr) (ok_11 : Bool) (Q : Value → Heap → Prop) (h : Heap) : Prop :=
  ldB h (Addr.add t_3 6) fun t103 => Q (Value.bool (!(ok_11 == t103))) h
def content_Test_b22 (t_3 : Addr) (n_8 : Int) (Q : Value → Heap → Prop) (h : Heap) : Prop :=
  ldI h (Addr.add t_3 2) .i64 fun t80 => content_Test_b23 t_3 (decide (n_8 < t80)) Q h
def content_Test_b25 (t_3 : Addr) (n_8 : Int) (Q : Value → Heap → Prop) (h : Heap) : Prop :=
  ldI h (Addr.add t_3 2) .i64 fun t86 => content_Test_b23 t_3 (n_8 == t86) Q h
def content_Test_b27 (t_3 : Addr) (n_8 : Int) (Q : Value → Heap → Prop) (h : Heap) : Prop :=
  ldI h (Addr.add t_3 2) .i64 fun t92 => content_Test_b23 t_3 (decide (n_8 > t92)) Q h
def content_Test_b29 (t_3 : Addr) (n_8 : Int) (Q : Value → Heap → Prop) (h : Heap) : Prop :=
  ldI h (Addr.add t_3 2) .i64 fun t98 => content_Test_b23 t_3 ((IntKind.wrap .i64 (BitVec.toNat (BitVec.ofInt (IntKind.bits .i64) n_8 &&& BitVec.ofInt (IntKind.bits .i64) t98) : Int)) != (0 : Int)) Q h
def content_Test_b30 (Q : Value → Heap → Prop) (h : Heap) : Prop :=
  Q (Value.bool false) h
def content_Test_b28 (t_3 : Addr) (n_8 : Int) (t75 : Int) (Q : Value → Heap → Prop) (h : Heap) : Prop :=
  if (t75 == (4 : Int)) = true then (content_Test_b29 t_3 n_8 Q h) else (content_Test_b30 Q h)
def content_Test_b26 (t_3 : Addr) (n_8 : Int) (t75 : Int) (Q : Value → Heap → Prop) (h : Heap) : Prop :=
  if (t75 == (3 : Int)) = true then (content_Test_b27 t_3 n_8 Q h) else (content_Test_b28 t_3 n_8 t75 Q h)
def content_Test_b24 (t_3 : Addr) (n_8 : Int) (t75 : Int) (Q : Value → Heap → Prop) (h : Heap) : Prop :=
  if (t75 == (2 : Int)) = true then (content_Test_b25 t_3 n_8 Q h) else (content_Test_b26 t_3 n_8 t75 Q h)
def content_Test_b21 (t_3 : Addr) (n_8 : Int) (t75 : Int) (Q : Value → Heap → Prop) (h : Heap) : Prop :=
  if (t75 == (1 : Int)) = true then (content_Test_b22 t_3 n_8 Q h) else (content_Test_b24 t_3 n_8 t75 Q h)
def content_Test_b20 (t_3 : Addr) (n_8 : Int) (Q : Value → Heap → Prop) (h : Heap) : Prop :=
  ldI h t_3 .i64 fun t75 => content_Test_b21 t_3 n_8 t75 Q h
def content_Test_b19 (t_3 : Addr) (n_8 : Int) (Q : Value → Heap → Prop) (h : Heap) : Prop :=
  content_Test_b20 t_3 n_8 Q h
def content_Test_b11 (data_1 : ByteArray) (t_3 : Addr) (at_7 : Int) (n_8 : Int) (t52 : Int) (t53 : Int) (Q : Value → Heap → Prop) (Kn10 : (Int × Int) → Heap → Prop) (h : Heap) : Prop :=
  if (decide (t53 < t52)) = true then (content_Test_b12 data_1 t_3 at_7 n_8 t52 t53 Q Kn10 h) else (content_Test_b19 t_3 n_8 Q h)
def content_Test_l10 (data_1 : ByteArray) (t_3 : Addr) (at_7 : Int) (t52 : Int) (Q : Value → Heap → Prop) (n_8 : Int) (t53 : Int) (h : Heap) (Kn10 : (Int × Int) → Heap → Prop) : Prop :=
  content_Test_b11 data_1 t_3 at_7 n_8 t52 t53 Q Kn10 h
def content_Test_b9 (data_1 : ByteArray) (t_3 : Addr) (at_7 : Int) (n_8 : Int) (Q : Value → Heap → Prop) (h : Heap) : Prop :=
  ldI h (Addr.add t_3 1) .i64 fun t52 => LoopV (fun (s : Int × Int) h Kn => content_Test_l10 data_1 t_3 at_7 t52 Q s.1 s.2 h Kn) (n_8, 0) h
def content_Test_b8 (data_1 : ByteArray) (t_3 : Addr) (at_7 : Int) (Q : Value → Heap → Prop) (h : Heap) : Prop :=
  content_Test_b9 data_1 t_3 at_7 0 Q h
def content_Test_b6 (data_1 : ByteArray) (t_3 : Addr) (at_7 : Int) (Q : Value → Heap → Prop) (h : Heap) : Prop :=
  ldI h (Addr.add t_3 1) .i64 fun t20 => if (t20 != (1 : Int)) = true then (ldI h (Addr.add t_3 1) .i64 fun t24 => if (t24 != (2 : Int)) = true then (ldI h (Addr.add t_3 1) .i64 fun t29 => if (t29 != (4 : Int)) = true then (content_Test_b7 Q h) else (if (decide (at_7 < (0 : Int))) = true then (content_Test_b7 Q h) else (if (decide (at_7 > ((data_1.size : Nat) : Int))) = true then (content_Test_b7 Q h) else (ldI h (Addr.add t_3 1) .i64 fun t48 => if (decide ((IntKind.wrap .i64 (((data_1.size : Nat) : Int) - at_7)) < t48)) = true then (content_Test_b7 Q h) else (content_Test_b8 data_1 t_3 at_7 Q h))))) else (if (decide (at_7 < (0 : Int))) = true then (content_Test_b7 Q h) else (if (decide (at_7 > ((data_1.size : Nat) : Int))) = true then (content_Test_b7 Q h) else (ldI h (Addr.add t_3 1) .i64 fun t48 => if (decide ((IntKind.wrap .i64 (((data_1.size : Nat) : Int) - at_7)) < t48)) = true then (content_Test_b7 Q h) else (content_Test_b8 data_1 t_3 at_7 Q h))))) else (if (decide (at_7 < (0 : Int))) = true then (content_Test_b7 Q h) else (if (decide (at_7 > ((data_1.size : Nat) : Int))) = true then (content_Test_b7 Q h) else (ldI h (Addr.add t_3 1) .i64 fun t48 => if (decide ((IntKind.wrap .i64 (((data_1.size : Nat) : Int) - at_7)) < t48)) = true then (content_Test_b7 Q h) else (content_Test_b8 data_1 t_3 at_7 Q h))))
def content_Test_b5 (data_1 : ByteArray) (t_3 : Addr) (at_7 : Int) (Q : Value → Heap → Prop) (h : Heap) : Prop :=
  content_Test_b6 data_1 t_3 at_7 Q h
def content_Test_b4 (data_1 : ByteArray) (cursor_2 : Int) (t_3 : Addr) (at_7 : Int) (Q : Value → Heap → Prop) (h : Heap) : Prop :=
  content_Test_b5 data_1 t_3 (IntKind.wrap .i64 (at_7 + cursor_2)) Q h
def content_Test_b3 (data_1 : ByteArray) (cursor_2 : Int) (t_3 : Addr) (at_7 : Int) (Q : Value → Heap → Prop) (h : Heap) : Prop :=
  ldB h (Addr.add t_3 4) fun t15 => if t15 = true then (content_Test_b4 data_1 cursor_2 t_3 at_7 Q h) else (content_Test_b5 data_1 t_3 at_7 Q h)
def content_Test_b2 (data_1 : ByteArray) (cursor_2 : Int) (t_3 : Addr) (Q : Value → Heap → Prop) (h : Heap) : Prop :=
  ldI h (Addr.add t_3 3) .i64 fun t13 => content_Test_b3 data_1 cursor_2 t_3 t13 Q h
def content_Test_b1 (t_0_0 : Int) (t_0_1 : Int) (t_0_2 : Int) (t_0_3 : Int) (t_0_4 : Bool) (t_0_5 : Bool) (t_0_6 : Bool) (data_1 : ByteArray) (cursor_2 : Int) (Q : Value → Heap → Prop) (h : Heap) : Prop :=
  alV h (.cells #[Value.int .i64 t_0_0, Value.int .i64 t_0_1, Value.int .i64 t_0_2, Value.int .i64 t_0_3, Value.bool t_0_4, Value.bool t_0_5, Value.bool t_0_6] 34) fun t3 h1 => content_Test_b2 data_1 cursor_2 t3 Q h1
def content_Test_v (t_0_0 : Int) (t_0_1 : Int) (t_0_2 : Int) (t_0_3 : Int) (t_0_4 : Bool) (t_0_5 : Bool) (t_0_6 : Bool) (data_1 : ByteArray) (cursor_2 : Int) (Q : Value → Heap → Prop) (h : Heap) : Prop :=
  content_Test_b1 t_0_0 t_0_1 t_0_2 t_0_3 t_0_4 t_0_5 t_0_6 data_1 cursor_2 Q h
set_option maxRecDepth 100000 in
theorem content_Test_e (t_0_0 : Int) (t_0_1 : Int) (t_0_2 : Int) (t_0_3 : Int) (t_0_4 : Bool) (t_0_5 : Bool) (t_0_6 : Bool) (data_1 : ByteArray) (cursor_2 : Int) (Q : Value → Heap → Prop) (h : Heap) (hk : content_Test_v t_0_0 t_0_1 t_0_2 t_0_3 t_0_4 t_0_5 t_0_6 data_1 cursor_2 Q h) :
    ∃ c, Try.f15.body = some c ∧ EWP Try.prog 105 c (fnPost Try.prog Try.f15 Q) (env0 #[Value.agg #[Value.int .i64 t_0_0, Value.int .i64 t_0_1, Value.int .i64 t_0_2, Value.int .i64 t_0_3, Value.bool t_0_4, Value.bool t_0_5, Value.bool t_0_6], Value.string data_1, Value.int .i64 cursor_2]) [] h := by
  refine ⟨_, rfl, ?_⟩
  have hk : content_Test_b1 t_0_0 t_0_1 t_0_2 t_0_3 t_0_4 t_0_5 t_0_6 data_1 cursor_2 Q h := hk
  have f0 : env0 #[Value.agg #[Value.int .i64 t_0_0, Value.int .i64 t_0_1, Value.int .i64 t_0_2, Value.int .i64 t_0_3, Value.bool t_0_4, Value.bool t_0_5, Value.bool t_0_6], Value.string data_1, Value.int .i64 cursor_2] 0 = Value.agg #[Value.int .i64 t_0_0, Value.int .i64 t_0_1, Value.int .i64 t_0_2, Value.int .i64 t_0_3, Value.bool t_0_4, Value.bool t_0_5, Value.bool t_0_6] := rfl
  have f1 : env0 #[Value.agg #[Value.int .i64 t_0_0, Value.int .i64 t_0_1, Value.int .i64 t_0_2, Value.int .i64 t_0_3, Value.bool t_0_4, Value.bool t_0_5, Value.bool t_0_6], Value.string data_1, Value.int .i64 cursor_2] 1 = Value.string data_1 := rfl
  have f2 : env0 #[Value.agg #[Value.int .i64 t_0_0, Value.int .i64 t_0_1, Value.int .i64 t_0_2, Value.int .i64 t_0_3, Value.bool t_0_4, Value.bool t_0_5, Value.bool t_0_6], Value.string data_1, Value.int .i64 cursor_2] 2 = Value.int .i64 cursor_2 := rfl
  generalize env0 #[Value.agg #[Value.int .i64 t_0_0, Value.int .i64 t_0_1, Value.int .i64 t_0_2, Value.int .i64 t_0_3, Value.bool t_0_4, Value.bool t_0_5, Value.bool t_0_6], Value.string data_1, Value.int .i64 cursor_2] = e at *
  have he : upd e 0 (Value.agg #[Value.int .i64 t_0_0, Value.int .i64 t_0_1, Value.int .i64 t_0_2, Value.int .i64 t_0_3, Value.bool t_0_4, Value.bool t_0_5, Value.bool t_0_6]) = e := by rw [upd_self f0]
  refine EWP.seqR (fun e h => dA (e 3) fun t_3 => content_Test_b2 data_1 cursor_2 t_3 Q h) ?_ ?_ ?_
  · kernel_rfl
  · rw [← he]
    exact eqMp (by as_aux_lemma => kernel_rfl : _ = content_Test_b1 t_0_0 t_0_1 t_0_2 t_0_3 t_0_4 t_0_5 t_0_6 data_1 cursor_2 Q h) hk
  · intro e h hp hk
    have f1 := (hp 1 (by kernel_rfl)).trans f1
    have f2 := (hp 2 (by kernel_rfl)).trans f2
    clear hp
    obtain ⟨t_3, f3, hk⟩ := dA_elim hk
    have he : upd e 3 (Value.pointer (some t_3)) = e := by rw [upd_self f3]
    refine EWP.seqR (fun e h => dI .i64 (e 7) fun at_7 => content_Test_b3 data_1 cursor_2 t_3 at_7 Q h) ?_ ?_ ?_
    · kernel_rfl
    · rw [← he]
      exact eqMp (by as_aux_lemma => kernel_rfl : _ = content_Test_b2 data_1 cursor_2 t_3 Q h) hk
    · intro e h hp hk
      have f1 := (hp 1 (by kernel_rfl)).trans f1
      have f2 := (hp 2 (by kernel_rfl)).trans f2
      have f3 := (hp 3 (by kernel_rfl)).trans f3
      clear hp
      obtain ⟨at_7, f7, hk⟩ := dI_elim hk
      refine EWP.seqC (fun e h => e 1 = Value.string data_1 ∧ e 3 = Value.pointer (some t_3) ∧ dI .i64 (e 7) fun at_7 => content_Test_b5 data_1 t_3 at_7 Q h) ?_ ?_
      · have he : upd e 3 (Value.pointer (some t_3)) = e := by rw [upd_self f3]
        refine EWP.seqR (fun e h => dB (e 15) fun t15 => if t15 = true then (content_Test_b4 data_1 cursor_2 t_3 at_7 Q h) else (content_Test_b5 data_1 t_3 at_7 Q h)) ?_ ?_ ?_
        · kernel_rfl
        · rw [← he]
          exact eqMp (by as_aux_lemma => kernel_rfl : _ = content_Test_b3 data_1 cursor_2 t_3 at_7 Q h) hk
        · intro e h hp hk
          have f1 := (hp 1 (by kernel_rfl)).trans f1
          have f2 := (hp 2 (by kernel_rfl)).trans f2
          have f3 := (hp 3 (by kernel_rfl)).trans f3
          have f7 := (hp 7 (by kernel_rfl)).trans f7
          clear hp
          obtain ⟨t15, f15, hk⟩ := dB_elim hk
          have fc : eev e (.tmp 15) = .bool t15 := f15
          refine EWP.condI fc hk ?_ ?_
          · intro hk
            have he : upd (upd e 2 (Value.int .i64 cursor_2)) 7 (Value.int .i64 at_7) = e := by rw [upd_self f2, upd_self f7]
            refine EWP.regionN (fun e h => dI .i64 (e 7) fun at_7 => content_Test_b5 data_1 t_3 at_7 Q h) ?_ ?_ ?_
            · kernel_rfl
            · rw [← he]
              exact eqMp (by as_aux_lemma => kernel_rfl : _ = content_Test_b4 data_1 cursor_2 t_3 at_7 Q h) hk
            · intro e h hp hk
              have f1 := (hp 1 (by kernel_rfl)).trans f1
              have f3 := (hp 3 (by kernel_rfl)).trans f3
              clear hp
              obtain ⟨at_7, f7, hk⟩ := dI_elim hk
              exact (show _ ∧ _ from ⟨rfl, f1, f3, dI_intro f7 (hk)⟩)
          · intro hk
            refine EWP.skip ?_
            exact (show _ ∧ _ from ⟨rfl, f1, f3, dI_intro f7 (hk)⟩)
      · rintro e h ⟨f1, f3, hk⟩
        obtain ⟨at_7, f7, hk⟩ := dI_elim hk
        refine EWP.seqC (fun e h => e 1 = Value.string data_1 ∧ e 3 = Value.pointer (some t_3) ∧ e 7 = Value.int .i64 at_7 ∧ content_Test_b8 data_1 t_3 at_7 Q h) ?_ ?_
        · have he : upd (upd (upd e 1 (Value.string data_1)) 3 (Value.pointer (some t_3))) 7 (Value.int .i64 at_7) = e := by rw [upd_self f1, upd_self f3, upd_self f7]
          refine EWP.seqR (fun e h => dB (e 50) fun t50 => if t50 = true then (content_Test_b7 Q h) else (content_Test_b8 data_1 t_3 at_7 Q h)) ?_ ?_ ?_
          · kernel_rfl
          · rw [← he]
            exact eqMp (by as_aux_lemma => kernel_rfl : _ = content_Test_b6 data_1 t_3 at_7 Q h) hk
          · intro e h hp hk
            have f1 := (hp 1 (by kernel_rfl)).trans f1
            have f3 := (hp 3 (by kernel_rfl)).trans f3
            have f7 := (hp 7 (by kernel_rfl)).trans f7
            clear hp
            obtain ⟨t50, f50, hk⟩ := dB_elim hk
            have fc : eev e (.tmp 50) = .bool t50 := f50
            refine EWP.condI fc hk ?_ ?_
            · intro hk
              refine EWP.seqR (fun e h => dB (e 6) fun t6 => Q (Value.bool t6) h) ?_ ?_ ?_
              · kernel_rfl
              · skip
                exact eqMp (by as_aux_lemma => kernel_rfl : _ = content_Test_b7 Q h) hk
              · intro e h hp hk
                clear hp
                obtain ⟨t6, f6, hk⟩ := dB_elim hk
                refine EWP.ret ?_
                have he : upd e 6 (Value.bool t6) = e := by rw [upd_self f6]
                refine (show _ ∧ _ from ⟨rfl, ?_⟩)
                rw [← he]
                exact eqMp (by as_aux_lemma => kernel_rfl : _ = (Q (Value.bool t6) h)) hk
            · intro hk
              refine EWP.skip ?_
              exact (show _ ∧ _ from ⟨rfl, f1, f3, f7, hk⟩)
        · rintro e h ⟨f1, f3, f7, hk⟩
          refine EWP.seqR (fun e h => dI .i64 (e 8) fun n_8 => content_Test_b9 data_1 t_3 at_7 n_8 Q h) ?_ ?_ ?_
          · kernel_rfl
          · skip
            exact eqMp (by as_aux_lemma => kernel_rfl : _ = content_Test_b8 data_1 t_3 at_7 Q h) hk
          · intro e h hp hk
            have f1 := (hp 1 (by kernel_rfl)).trans f1
            have f3 := (hp 3 (by kernel_rfl)).trans f3
            have f7 := (hp 7 (by kernel_rfl)).trans f7
            clear hp
            obtain ⟨n_8, f8, hk⟩ := dI_elim hk
            refine EWP.seqC (fun e h => e 3 = Value.pointer (some t_3) ∧ dI .i64 (e 8) fun n_8 => content_Test_b19 t_3 n_8 Q h) ?_ ?_
            · have he : upd e 3 (Value.pointer (some t_3)) = e := by rw [upd_self f3]
              refine EWP.seqR (fun e h => dI .i64 (e 52) fun t52 => dI .i64 (e 53) fun t53 => LoopV (fun (s : Int × Int) h Kn => content_Test_l10 data_1 t_3 at_7 t52 Q s.1 s.2 h Kn) (n_8, t53) h) ?_ ?_ ?_
              · kernel_rfl
              · rw [← he]
                exact eqMp (by as_aux_lemma => kernel_rfl : _ = content_Test_b9 data_1 t_3 at_7 n_8 Q h) hk
              · intro e h hp hk
                have f1 := (hp 1 (by kernel_rfl)).trans f1
                have f3 := (hp 3 (by kernel_rfl)).trans f3
                have f7 := (hp 7 (by kernel_rfl)).trans f7
                have f8 := (hp 8 (by kernel_rfl)).trans f8
                clear hp
                obtain ⟨t52, f52, hk⟩ := dI_elim hk
                obtain ⟨t53, f53, hk⟩ := dI_elim hk
                refine EWP.block ?_
                refine EWP.loopV (fun e (s : Int × Int) => e 1 = Value.string data_1 ∧ e 3 = Value.pointer (some t_3) ∧ e 7 = Value.int .i64 at_7 ∧ e 52 = Value.int .i64 t52 ∧ e 8 = Value.int .i64 s.1 ∧ e 53 = Value.int .i64 s.2) ⟨f1, f3, f7, f52, f8, f53⟩ hk ?_
                rintro e ⟨n_8, t53⟩ h Kn10 ⟨f1, f3, f7, f52, f8, f53⟩ hk
                have f8 : e 8 = Value.int .i64 n_8 := f8
                have f53 : e 53 = Value.int .i64 t53 := f53
                have hk : content_Test_l10 data_1 t_3 at_7 t52 Q n_8 t53 h Kn10 := hk
                have he : upd (upd e 52 (Value.int .i64 t52)) 53 (Value.int .i64 t53) = e := by rw [upd_self f52, upd_self f53]
                refine EWP.seqR (fun e h => dB (e 54) fun t54 => if t54 = true then (content_Test_b12 data_1 t_3 at_7 n_8 t52 t53 Q Kn10 h) else (content_Test_b19 t_3 n_8 Q h)) ?_ ?_ ?_
                · kernel_rfl
                · rw [← he]
                  exact eqMp (by as_aux_lemma => kernel_rfl : _ = content_Test_b11 data_1 t_3 at_7 n_8 t52 t53 Q Kn10 h) hk
                · intro e h hp hk
                  have f1 := (hp 1 (by kernel_rfl)).trans f1
                  have f3 := (hp 3 (by kernel_rfl)).trans f3
                  have f7 := (hp 7 (by kernel_rfl)).trans f7
                  have f8 := (hp 8 (by kernel_rfl)).trans f8
                  have f52 := (hp 52 (by kernel_rfl)).trans f52
                  have f53 := (hp 53 (by kernel_rfl)).trans f53
                  clear hp
                  obtain ⟨t54, f54, hk⟩ := dB_elim hk
                  refine EWP.seqC (fun e h => e 1 = Value.string data_1 ∧ e 3 = Value.pointer (some t_3) ∧ e 7 = Value.int .i64 at_7 ∧ e 8 = Value.int .i64 n_8 ∧ e 52 = Value.int .i64 t52 ∧ e 53 = Value.int .i64 t53 ∧ content_Test_b12 data_1 t_3 at_7 n_8 t52 t53 Q Kn10 h) ?_ ?_
                  · have fc : eev e (.tmp 54) = .bool t54 := f54
                    refine EWP.condI fc hk ?_ ?_
                    · intro hk
                      refine EWP.skip ?_
                      exact (show _ ∧ _ from ⟨rfl, f1, f3, f7, f8, f52, f53, hk⟩)
                    · intro hk
                      refine EWP.exit ?_
                      exact (show _ ∧ _ from ⟨rfl, f3, dI_intro f8 (hk)⟩)
                  · rintro e h ⟨f1, f3, f7, f8, f52, f53, hk⟩
                    refine EWP.seqC (fun e h => e 1 = Value.string data_1 ∧ e 3 = Value.pointer (some t_3) ∧ e 7 = Value.int .i64 at_7 ∧ e 52 = Value.int .i64 t52 ∧ e 53 = Value.int .i64 t53 ∧ dI .i64 (e 8) fun n_8 => content_Test_b18 data_1 t_3 at_7 n_8 t52 t53 Q Kn10 h) ?_ ?_
                    · refine EWP.block ?_
                      have he : upd e 53 (Value.int .i64 t53) = e := by rw [upd_self f53]
                      refine EWP.seqR (fun e h => dI .i64 (e 9) fun i_9 => content_Test_b14 data_1 t_3 at_7 n_8 i_9 t52 t53 Q Kn10 h) ?_ ?_ ?_
                      · kernel_rfl
                      · rw [← he]
                        exact eqMp (by as_aux_lemma => kernel_rfl : _ = content_Test_b13 data_1 t_3 at_7 n_8 t52 t53 Q Kn10 h) hk
                      · intro e h hp hk
                        have f1 := (hp 1 (by kernel_rfl)).trans f1
                        have f3 := (hp 3 (by kernel_rfl)).trans f3
                        have f7 := (hp 7 (by kernel_rfl)).trans f7
                        have f8 := (hp 8 (by kernel_rfl)).trans f8
                        have f52 := (hp 52 (by kernel_rfl)).trans f52
                        have f53 := (hp 53 (by kernel_rfl)).trans f53
                        clear hp
                        obtain ⟨i_9, f9, hk⟩ := dI_elim hk
                        have he : upd e 9 (Value.int .i64 i_9) = e := by rw [upd_self f9]
                        refine EWP.seqR (fun e h => dI .i64 (e 10) fun k_10 => content_Test_b15 data_1 t_3 at_7 n_8 i_9 k_10 t52 t53 Q Kn10 h) ?_ ?_ ?_
                        · kernel_rfl
                        · rw [← he]
                          exact eqMp (by as_aux_lemma => kernel_rfl : _ = content_Test_b14 data_1 t_3 at_7 n_8 i_9 t52 t53 Q Kn10 h) hk
                        · intro e h hp hk
                          have f1 := (hp 1 (by kernel_rfl)).trans f1
                          have f3 := (hp 3 (by kernel_rfl)).trans f3
                          have f7 := (hp 7 (by kernel_rfl)).trans f7
                          have f8 := (hp 8 (by kernel_rfl)).trans f8
                          have f9 := (hp 9 (by kernel_rfl)).trans f9
                          have f52 := (hp 52 (by kernel_rfl)).trans f52
                          have f53 := (hp 53 (by kernel_rfl)).trans f53
                          clear hp
                          obtain ⟨k_10, f10, hk⟩ := dI_elim hk
                          refine EWP.seqC (fun e h => e 1 = Value.string data_1 ∧ e 3 = Value.pointer (some t_3) ∧ e 7 = Value.int .i64 at_7 ∧ e 8 = Value.int .i64 n_8 ∧ e 52 = Value.int .i64 t52 ∧ e 53 = Value.int .i64 t53 ∧ dI .i64 (e 10) fun k_10 => content_Test_b17 data_1 t_3 at_7 n_8 k_10 t52 t53 Q Kn10 h) ?_ ?_
                          · have he : upd e 3 (Value.pointer (some t_3)) = e := by rw [upd_self f3]
                            refine EWP.seqR (fun e h => dB (e 58) fun t58 => if t58 = true then (content_Test_b16 data_1 t_3 at_7 n_8 i_9 t52 t53 Q Kn10 h) else (content_Test_b17 data_1 t_3 at_7 n_8 k_10 t52 t53 Q Kn10 h)) ?_ ?_ ?_
                            · kernel_rfl
                            · rw [← he]
                              exact eqMp (by as_aux_lemma => kernel_rfl : _ = content_Test_b15 data_1 t_3 at_7 n_8 i_9 k_10 t52 t53 Q Kn10 h) hk
                            · intro e h hp hk
                              have f1 := (hp 1 (by kernel_rfl)).trans f1
                              have f3 := (hp 3 (by kernel_rfl)).trans f3
                              have f7 := (hp 7 (by kernel_rfl)).trans f7
                              have f8 := (hp 8 (by kernel_rfl)).trans f8
                              have f9 := (hp 9 (by kernel_rfl)).trans f9
                              have f10 := (hp 10 (by kernel_rfl)).trans f10
                              have f52 := (hp 52 (by kernel_rfl)).trans f52
                              have f53 := (hp 53 (by kernel_rfl)).trans f53
                              clear hp
                              obtain ⟨t58, f58, hk⟩ := dB_elim hk
                              have fc : eev e (.tmp 58) = .bool t58 := f58
                              refine EWP.condI fc hk ?_ ?_
                              · intro hk
                                have he : upd (upd e 3 (Value.pointer (some t_3))) 9 (Value.int .i64 i_9) = e := by rw [upd_self f3, upd_self f9]
                                refine EWP.regionN (fun e h => dI .i64 (e 10) fun k_10 => content_Test_b17 data_1 t_3 at_7 n_8 k_10 t52 t53 Q Kn10 h) ?_ ?_ ?_
                                · kernel_rfl
                                · rw [← he]
                                  exact eqMp (by as_aux_lemma => kernel_rfl : _ = content_Test_b16 data_1 t_3 at_7 n_8 i_9 t52 t53 Q Kn10 h) hk
                                · intro e h hp hk
                                  have f1 := (hp 1 (by kernel_rfl)).trans f1
                                  have f3 := (hp 3 (by kernel_rfl)).trans f3
                                  have f7 := (hp 7 (by kernel_rfl)).trans f7
                                  have f8 := (hp 8 (by kernel_rfl)).trans f8
                                  have f52 := (hp 52 (by kernel_rfl)).trans f52
                                  have f53 := (hp 53 (by kernel_rfl)).trans f53
                                  clear hp
                                  obtain ⟨k_10, f10, hk⟩ := dI_elim hk
                                  exact (show _ ∧ _ from ⟨rfl, f1, f3, f7, f8, f52, f53, dI_intro f10 (hk)⟩)
                              · intro hk
                                refine EWP.skip ?_
                                exact (show _ ∧ _ from ⟨rfl, f1, f3, f7, f8, f52, f53, dI_intro f10 (hk)⟩)
                          · rintro e h ⟨f1, f3, f7, f8, f52, f53, hk⟩
                            obtain ⟨k_10, f10, hk⟩ := dI_elim hk
                            have he : upd (upd (upd (upd e 1 (Value.string data_1)) 7 (Value.int .i64 at_7)) 8 (Value.int .i64 n_8)) 10 (Value.int .i64 k_10) = e := by rw [upd_self f1, upd_self f7, upd_self f8, upd_self f10]
                            refine EWP.regionN (fun e h => dI .i64 (e 8) fun n_8 => content_Test_b18 data_1 t_3 at_7 n_8 t52 t53 Q Kn10 h) ?_ ?_ ?_
                            · kernel_rfl
                            · rw [← he]
                              exact eqMp (by as_aux_lemma => kernel_rfl : _ = content_Test_b17 data_1 t_3 at_7 n_8 k_10 t52 t53 Q Kn10 h) hk
                            · intro e h hp hk
                              have f1 := (hp 1 (by kernel_rfl)).trans f1
                              have f3 := (hp 3 (by kernel_rfl)).trans f3
                              have f7 := (hp 7 (by kernel_rfl)).trans f7
                              have f52 := (hp 52 (by kernel_rfl)).trans f52
                              have f53 := (hp 53 (by kernel_rfl)).trans f53
                              clear hp
                              obtain ⟨n_8, f8, hk⟩ := dI_elim hk
                              exact (show _ ∧ _ from ⟨rfl, f1, f3, f7, f52, f53, dI_intro f8 (hk)⟩)
                    · rintro e h ⟨f1, f3, f7, f52, f53, hk⟩
                      obtain ⟨n_8, f8, hk⟩ := dI_elim hk
                      have he : upd e 53 (Value.int .i64 t53) = e := by rw [upd_self f53]
                      refine EWP.regionN (fun e h => dI .i64 (e 53) fun t53 => Kn10 (n_8, t53) h) ?_ ?_ ?_
                      · kernel_rfl
                      · rw [← he]
                        exact eqMp (by as_aux_lemma => kernel_rfl : _ = content_Test_b18 data_1 t_3 at_7 n_8 t52 t53 Q Kn10 h) hk
                      · intro e h hp hk
                        have f1 := (hp 1 (by kernel_rfl)).trans f1
                        have f3 := (hp 3 (by kernel_rfl)).trans f3
                        have f7 := (hp 7 (by kernel_rfl)).trans f7
                        have f8 := (hp 8 (by kernel_rfl)).trans f8
                        have f52 := (hp 52 (by kernel_rfl)).trans f52
                        clear hp
                        obtain ⟨t53, f53, hk⟩ := dI_elim hk
                        exact (show _ ∧ _ from ⟨rfl, (n_8, t53), ⟨f1, f3, f7, f52, f8, f53⟩, hk⟩)
            · rintro e h ⟨f3, hk⟩
              obtain ⟨n_8, f8, hk⟩ := dI_elim hk
              refine EWP.seqR (fun e h => content_Test_b20 t_3 n_8 Q h) ?_ ?_ ?_
              · kernel_rfl
              · skip
                exact eqMp (by as_aux_lemma => kernel_rfl : _ = content_Test_b19 t_3 n_8 Q h) hk
              · intro e h hp hk
                have f3 := (hp 3 (by kernel_rfl)).trans f3
                have f8 := (hp 8 (by kernel_rfl)).trans f8
                clear hp
                refine EWP.seqC (fun e h => e 3 = Value.pointer (some t_3) ∧ dB (e 11) fun ok_11 => content_Test_b23 t_3 ok_11 Q h) ?_ ?_
                · have he : upd e 3 (Value.pointer (some t_3)) = e := by rw [upd_self f3]
                  refine EWP.seqR (fun e h => dI .i64 (e 75) fun t75 => content_Test_b21 t_3 n_8 t75 Q h) ?_ ?_ ?_
                  · kernel_rfl
                  · rw [← he]
                    exact eqMp (by as_aux_lemma => kernel_rfl : _ = content_Test_b20 t_3 n_8 Q h) hk
                  · intro e h hp hk
                    have f3 := (hp 3 (by kernel_rfl)).trans f3
                    have f8 := (hp 8 (by kernel_rfl)).trans f8
                    clear hp
                    obtain ⟨t75, f75, hk⟩ := dI_elim hk
                    refine EWP.block ?_
                    have he : upd e 75 (Value.int .i64 t75) = e := by rw [upd_self f75]
                    refine EWP.seqR (fun e h => dB (e 76) fun t76 => if t76 = true then (content_Test_b22 t_3 n_8 Q h) else (content_Test_b24 t_3 n_8 t75 Q h)) ?_ ?_ ?_
                    · kernel_rfl
                    · rw [← he]
                      exact eqMp (by as_aux_lemma => kernel_rfl : _ = content_Test_b21 t_3 n_8 t75 Q h) hk
                    · intro e h hp hk
                      have f3 := (hp 3 (by kernel_rfl)).trans f3
                      have f8 := (hp 8 (by kernel_rfl)).trans f8
                      have f75 := (hp 75 (by kernel_rfl)).trans f75
                      clear hp
                      obtain ⟨t76, f76, hk⟩ := dB_elim hk
                      have fc : eev e (.tmp 76) = .bool t76 := f76
                      refine EWP.condI fc hk ?_ ?_
                      · intro hk
                        have he : upd (upd e 3 (Value.pointer (some t_3))) 8 (Value.int .i64 n_8) = e := by rw [upd_self f3, upd_self f8]
                        refine EWP.regionN (fun e h => dB (e 11) fun ok_11 => content_Test_b23 t_3 ok_11 Q h) ?_ ?_ ?_
                        · kernel_rfl
                        · rw [← he]
                          exact eqMp (by as_aux_lemma => kernel_rfl : _ = content_Test_b22 t_3 n_8 Q h) hk
                        · intro e h hp hk
                          have f3 := (hp 3 (by kernel_rfl)).trans f3
                          clear hp
                          obtain ⟨ok_11, f11, hk⟩ := dB_elim hk
                          exact (show _ ∧ _ from ⟨rfl, f3, dB_intro f11 (hk)⟩)
                      · intro hk
                        have he : upd e 75 (Value.int .i64 t75) = e := by rw [upd_self f75]
                        refine EWP.seqR (fun e h => dB (e 82) fun t82 => if t82 = true then (content_Test_b25 t_3 n_8 Q h) else (content_Test_b26 t_3 n_8 t75 Q h)) ?_ ?_ ?_
                        · kernel_rfl
                        · rw [← he]
                          exact eqMp (by as_aux_lemma => kernel_rfl : _ = content_Test_b24 t_3 n_8 t75 Q h) hk
                        · intro e h hp hk
                          have f3 := (hp 3 (by kernel_rfl)).trans f3
                          have f8 := (hp 8 (by kernel_rfl)).trans f8
                          have f75 := (hp 75 (by kernel_rfl)).trans f75
                          clear hp
                          obtain ⟨t82, f82, hk⟩ := dB_elim hk
                          have fc : eev e (.tmp 82) = .bool t82 := f82
                          refine EWP.condI fc hk ?_ ?_
                          · intro hk
                            have he : upd (upd e 3 (Value.pointer (some t_3))) 8 (Value.int .i64 n_8) = e := by rw [upd_self f3, upd_self f8]
                            refine EWP.regionN (fun e h => dB (e 11) fun ok_11 => content_Test_b23 t_3 ok_11 Q h) ?_ ?_ ?_
                            · kernel_rfl
                            · rw [← he]
                              exact eqMp (by as_aux_lemma => kernel_rfl : _ = content_Test_b25 t_3 n_8 Q h) hk
                            · intro e h hp hk
                              have f3 := (hp 3 (by kernel_rfl)).trans f3
                              clear hp
                              obtain ⟨ok_11, f11, hk⟩ := dB_elim hk
                              exact (show _ ∧ _ from ⟨rfl, f3, dB_intro f11 (hk)⟩)
                          · intro hk
                            have he : upd e 75 (Value.int .i64 t75) = e := by rw [upd_self f75]
                            refine EWP.seqR (fun e h => dB (e 88) fun t88 => if t88 = true then (content_Test_b27 t_3 n_8 Q h) else (content_Test_b28 t_3 n_8 t75 Q h)) ?_ ?_ ?_
                            · kernel_rfl
                            · rw [← he]
                              exact eqMp (by as_aux_lemma => kernel_rfl : _ = content_Test_b26 t_3 n_8 t75 Q h) hk
                            · intro e h hp hk
                              have f3 := (hp 3 (by kernel_rfl)).trans f3
                              have f8 := (hp 8 (by kernel_rfl)).trans f8
                              have f75 := (hp 75 (by kernel_rfl)).trans f75
                              clear hp
                              obtain ⟨t88, f88, hk⟩ := dB_elim hk
                              have fc : eev e (.tmp 88) = .bool t88 := f88
                              refine EWP.condI fc hk ?_ ?_
                              · intro hk
                                have he : upd (upd e 3 (Value.pointer (some t_3))) 8 (Value.int .i64 n_8) = e := by rw [upd_self f3, upd_self f8]
                                refine EWP.regionN (fun e h => dB (e 11) fun ok_11 => content_Test_b23 t_3 ok_11 Q h) ?_ ?_ ?_
                                · kernel_rfl
                                · rw [← he]
                                  exact eqMp (by as_aux_lemma => kernel_rfl : _ = content_Test_b27 t_3 n_8 Q h) hk
                                · intro e h hp hk
                                  have f3 := (hp 3 (by kernel_rfl)).trans f3
                                  clear hp
                                  obtain ⟨ok_11, f11, hk⟩ := dB_elim hk
                                  exact (show _ ∧ _ from ⟨rfl, f3, dB_intro f11 (hk)⟩)
                              · intro hk
                                have he : upd e 75 (Value.int .i64 t75) = e := by rw [upd_self f75]
                                refine EWP.seqR (fun e h => dB (e 94) fun t94 => if t94 = true then (content_Test_b29 t_3 n_8 Q h) else (content_Test_b30 Q h)) ?_ ?_ ?_
                                · kernel_rfl
                                · rw [← he]
                                  exact eqMp (by as_aux_lemma => kernel_rfl : _ = content_Test_b28 t_3 n_8 t75 Q h) hk
                                · intro e h hp hk
                                  have f3 := (hp 3 (by kernel_rfl)).trans f3
                                  have f8 := (hp 8 (by kernel_rfl)).trans f8
                                  clear hp
                                  obtain ⟨t94, f94, hk⟩ := dB_elim hk
                                  have fc : eev e (.tmp 94) = .bool t94 := f94
                                  refine EWP.condI fc hk ?_ ?_
                                  · intro hk
                                    have he : upd (upd e 3 (Value.pointer (some t_3))) 8 (Value.int .i64 n_8) = e := by rw [upd_self f3, upd_self f8]
                                    refine EWP.regionN (fun e h => dB (e 11) fun ok_11 => content_Test_b23 t_3 ok_11 Q h) ?_ ?_ ?_
                                    · kernel_rfl
                                    · rw [← he]
                                      exact eqMp (by as_aux_lemma => kernel_rfl : _ = content_Test_b29 t_3 n_8 Q h) hk
                                    · intro e h hp hk
                                      have f3 := (hp 3 (by kernel_rfl)).trans f3
                                      clear hp
                                      obtain ⟨ok_11, f11, hk⟩ := dB_elim hk
                                      exact (show _ ∧ _ from ⟨rfl, f3, dB_intro f11 (hk)⟩)
                                  · intro hk
                                    refine EWP.seqR (fun e h => dB (e 6) fun t6 => Q (Value.bool t6) h) ?_ ?_ ?_
                                    · kernel_rfl
                                    · skip
                                      exact eqMp (by as_aux_lemma => kernel_rfl : _ = content_Test_b30 Q h) hk
                                    · intro e h hp hk
                                      clear hp
                                      obtain ⟨t6, f6, hk⟩ := dB_elim hk
                                      refine EWP.ret ?_
                                      have he : upd e 6 (Value.bool t6) = e := by rw [upd_self f6]
                                      refine (show _ ∧ _ from ⟨rfl, ?_⟩)
                                      rw [← he]
                                      exact eqMp (by as_aux_lemma => kernel_rfl : _ = (Q (Value.bool t6) h)) hk
                · rintro e h ⟨f3, hk⟩
                  obtain ⟨ok_11, f11, hk⟩ := dB_elim hk
                  have he : upd (upd e 3 (Value.pointer (some t_3))) 11 (Value.bool ok_11) = e := by rw [upd_self f3, upd_self f11]
                  refine EWP.seqR (fun e h => dB (e 6) fun t6 => Q (Value.bool t6) h) ?_ ?_ ?_
                  · kernel_rfl
                  · rw [← he]
                    exact eqMp (by as_aux_lemma => kernel_rfl : _ = content_Test_b23 t_3 ok_11 Q h) hk
                  · intro e h hp hk
                    clear hp
                    obtain ⟨t6, f6, hk⟩ := dB_elim hk
                    refine EWP.ret ?_
                    have he : upd e 6 (Value.bool t6) = e := by rw [upd_self f6]
                    refine (show _ ∧ _ from ⟨rfl, ?_⟩)
                    rw [← he]
                    exact eqMp (by as_aux_lemma => kernel_rfl : _ = (Q (Value.bool t6) h)) hk
theorem content_Test_s (t_0_0 : Int) (t_0_1 : Int) (t_0_2 : Int) (t_0_3 : Int) (t_0_4 : Bool) (t_0_5 : Bool) (t_0_6 : Bool) (data_1 : ByteArray) (cursor_2 : Int) {Q : Value → Heap → Prop} {h : Heap} (hk : content_Test_v t_0_0 t_0_1 t_0_2 t_0_3 t_0_4 t_0_5 t_0_6 data_1 cursor_2 Q h) : CallT Try.prog fn_content_Test #[Value.agg #[Value.int .i64 t_0_0, Value.int .i64 t_0_1, Value.int .i64 t_0_2, Value.int .i64 t_0_3, Value.bool t_0_4, Value.bool t_0_5, Value.bool t_0_6], Value.string data_1, Value.int .i64 cursor_2] h Q := by
  obtain ⟨c, hb, he⟩ := content_Test_e t_0_0 t_0_1 t_0_2 t_0_3 t_0_4 t_0_5 t_0_6 data_1 cursor_2 Q h hk
  exact callT_of (N := 105) Try.func15 hb rfl (Try.call15 _) (Nat.le_of_ble_eq_true rfl) he
end Go.Proofs.Ytkmommchanjobaa
