/-
  Printed by wip/tool/gen.py (functions with a deferred call).
-/
import Derived.Test.YtdpimhlppflidaaDoorG1
namespace Go.Proofs.YtdpimhlppflidaaDoor
set_option linter.unusedSimpArgs false
set_option linter.unusedVariables false
set_option maxRecDepth 20000
open Go
variable [Gh]
/-! ### (*intrusion/lines.Splitter).forget -/
def lines_Splitter_forgetD_b1 (p_0 : Option Addr) (Q : Value → Heap → Prop) (h : Heap) : Prop :=
  nn p_0 fun t6 => ldL h (Addr.add t6 1) fun t8a t8n t8c => sliceSl 1 t8a t8n t8c none (some (0 : Int)) none fun t9a t9n t9c => nn p_0 fun t10 => st1 h (Addr.add t10 1) (Value.slice t9a t9n t9c) fun h1 => nn p_0 fun t12 => st1 h1 (Addr.add t12 2) (Value.int .i64 (0 : Int)) fun h2 => nn p_0 fun t14 => st1 h2 (Addr.add t14 3) (Value.bool false) fun h3 => Q (Value.tuple #[]) h3
def lines_Splitter_forgetD_v (p_0 : Option Addr) (Q : Value → Heap → Prop) (h : Heap) : Prop :=
  lines_Splitter_forgetD_b1 p_0 Q h
set_option maxRecDepth 100000 in
theorem lines_Splitter_forgetD_e (p_0 : Option Addr) (Q : Value → Heap → Prop) (h : Heap) (hk : lines_Splitter_forgetD_v p_0 Q h) :
    ∃ c, Tryd.f56.body = some c ∧ EWP Tryd.prog 16 c (fnPost Tryd.prog Tryd.f56 Q) (env0 #[Value.pointer p_0]) [] h := by
  refine ⟨_, rfl, ?_⟩
  have hk : lines_Splitter_forgetD_b1 p_0 Q h := hk
  have f0 : env0 #[Value.pointer p_0] 0 = Value.pointer p_0 := rfl
  generalize env0 #[Value.pointer p_0] = e at *
  have he : upd e 0 (Value.pointer p_0) = e := by rw [upd_self f0]
  refine EWP.regionN (fun e h => Q (Value.tuple #[]) h) ?_ ?_ ?_
  · kernel_rfl
  · rw [← he]
    exact eqMp (by as_aux_lemma => kernel_rfl : _ = lines_Splitter_forgetD_b1 p_0 Q h) hk
  · intro e h hp hk
    clear hp
    refine (show _ ∧ _ from ⟨rfl, ?_⟩)
    exact eqMp (by as_aux_lemma => kernel_rfl : _ = (Q (Value.tuple #[]) h)) hk
set_option maxRecDepth 100000 in
theorem lines_Splitter_forgetD_s (p_0 : Option Addr) {Q : Value → Heap → Prop} {h : Heap} (hk : lines_Splitter_forgetD_v p_0 Q h) : CallT Tryd.prog fn_lines_Splitter_forget #[Value.pointer p_0] h Q := by
  obtain ⟨c, hb, he⟩ := lines_Splitter_forgetD_e p_0 Q h hk
  exact callT_of (N := 16) Tryd.func56 hb rfl (Tryd.call56 _) (Nat.le_of_ble_eq_true rfl) he
set_option maxRecDepth 100000 in
theorem lines_Splitter_forgetD_d (p_0 : Option Addr) {K : Heap → Prop} {h : Heap} (hk : lines_Splitter_forgetD_v p_0 (fun _ h => K h) h) : CallDT Tryd.prog fn_lines_Splitter_forget #[Value.pointer p_0] h K := by
  obtain ⟨c, hb, he⟩ := lines_Splitter_forgetD_e p_0 _ h hk
  exact callDT_of (N := 16) Tryd.func56 hb rfl (Tryd.call56 _) (Nat.le_of_ble_eq_true rfl) he
/-! ### (*intrusion/lines.Splitter).line -/
def lines_Splitter_line_b3 (p_0 : Option Addr) (n_1 : Int) (t4 : Addr) (Q : Value → Heap → Prop) (h : Heap) : Prop :=
  nn p_0 fun t9 => ldI h t9 .i64 fun t11 => nn p_0 fun t15 => ldI h t15 .i64 fun t17 => CallT Tryd.prog fn_lines_Splitter_first #[Value.pointer p_0, Value.int .i64 n_1, Value.int .i64 t11] h fun v h2 => ∃ t12 : ByteArray, v = Value.string t12 ∧ (ldI h2 t15 .i64 fun t917 => Value.int .i64 t917 = Value.int .i64 t17) ∧ stN h2 t4 [Value.string (⟨#[]⟩ : ByteArray), Value.bool false] 0 fun h3 => (ldI h3 t15 .i64 fun t917 => Value.int .i64 t917 = Value.int .i64 t17) ∧ st1 h3 t4 (Value.string t12) fun h4 => (ldI h4 t15 .i64 fun t917 => Value.int .i64 t917 = Value.int .i64 t17) ∧ st1 h4 (Addr.add t4 1) (Value.bool (decide (n_1 > t17))) fun h5 => CallDT Tryd.prog fn_lines_Splitter_forget #[Value.pointer p_0] h5 fun h6 => ldS h6 t4 fun r0_0 => ldB h6 (Addr.add t4 1) fun r0_1 => Q (Value.agg #[Value.string r0_0, Value.bool r0_1]) h6
def lines_Splitter_line_b2 (p_0 : Option Addr) (n_1 : Int) (t4 : Addr) (Q : Value → Heap → Prop) (h : Heap) : Prop :=
  lines_Splitter_line_b3 p_0 n_1 t4 Q h
def lines_Splitter_line_b1 (p_0 : Option Addr) (n_1 : Int) (Q : Value → Heap → Prop) (h : Heap) : Prop :=
  alV h (.cells #[Value.string (⟨#[]⟩ : ByteArray), Value.bool false] 67) fun t4 h1 => lines_Splitter_line_b2 p_0 n_1 t4 Q h1
def lines_Splitter_line_v (p_0 : Option Addr) (n_1 : Int) (Q : Value → Heap → Prop) (h : Heap) : Prop :=
  lines_Splitter_line_b1 p_0 n_1 Q h
set_option maxRecDepth 100000 in
theorem lines_Splitter_line_e (p_0 : Option Addr) (n_1 : Int) (Q : Value → Heap → Prop) (h : Heap) (hk : lines_Splitter_line_v p_0 n_1 Q h) :
    ∃ c, Tryd.f41.body = some c ∧ EWP Tryd.prog 21 c (fnPostD Tryd.prog Tryd.f41 Q) (env0 #[Value.pointer p_0, Value.int .i64 n_1]) [] h := by
  refine ⟨_, rfl, ?_⟩
  have hk : lines_Splitter_line_b1 p_0 n_1 Q h := hk
  have f0 : env0 #[Value.pointer p_0, Value.int .i64 n_1] 0 = Value.pointer p_0 := rfl
  have f1 : env0 #[Value.pointer p_0, Value.int .i64 n_1] 1 = Value.int .i64 n_1 := rfl
  generalize env0 #[Value.pointer p_0, Value.int .i64 n_1] = e at *
  refine EWP.seqR (fun e h => dA (e 4) fun t4 => lines_Splitter_line_b2 p_0 n_1 t4 Q h) ?_ ?_ ?_
  · kernel_rfl
  · skip
    exact eqMp (by as_aux_lemma => kernel_rfl : _ = lines_Splitter_line_b1 p_0 n_1 Q h) hk
  · intro e h hp hk
    have f0 := (hp 0 (by kernel_rfl)).trans f0
    have f1 := (hp 1 (by kernel_rfl)).trans f1
    clear hp
    obtain ⟨t4, f4, hk⟩ := dA_elim hk
    have he : upd (upd (upd e 0 (Value.pointer p_0)) 1 (Value.int .i64 n_1)) 4 (Value.pointer (some t4)) = e := by rw [upd_self f0, upd_self f1, upd_self f4]
    refine EWP.seq (fun e ds h => ds = [({ target := .fn (.func 56) #[], args := #[Value.pointer p_0] } : Deferred)] ∧ e 0 = Value.pointer p_0 ∧ e 1 = Value.int .i64 n_1 ∧ e 4 = Value.pointer (some t4) ∧ lines_Splitter_line_b3 p_0 n_1 t4 Q h) (EWP.region ?_) ?_
    · rw [← he]
      exact eqMp (by as_aux_lemma => kernel_rfl : _ = ([({ target := .fn (.func 56) #[], args := #[Value.pointer p_0] } : Deferred)] = [({ target := .fn (.func 56) #[], args := #[Value.pointer p_0] } : Deferred)] ∧ Value.pointer p_0 = Value.pointer p_0 ∧ Value.int .i64 n_1 = Value.int .i64 n_1 ∧ Value.pointer (some t4) = Value.pointer (some t4) ∧ lines_Splitter_line_b2 p_0 n_1 t4 Q h)) ⟨rfl, rfl, rfl, rfl, hk⟩
    · rintro e ds h ⟨rfl, f0, f1, f4, hk⟩
      have he : upd (upd (upd e 0 (Value.pointer p_0)) 1 (Value.int .i64 n_1)) 4 (Value.pointer (some t4)) = e := by rw [upd_self f0, upd_self f1, upd_self f4]
      refine EWP.seqD (fun e h => CallDT Tryd.prog fn_lines_Splitter_forget #[Value.pointer p_0] h fun h12 => ldS h12 t4 fun r0_0 => ldB h12 (Addr.add t4 1) fun r0_1 => Q (Value.agg #[Value.string r0_0, Value.bool r0_1]) h12) ?_ ?_ ?_ ?_
      · kernel_rfl
      · kernel_rfl
      · rw [← he]
        exact eqMp (by as_aux_lemma => kernel_rfl : _ = lines_Splitter_line_b3 p_0 n_1 t4 Q h) hk
      · intro e h hp hk
        have f4 := (hp 4 (by kernel_rfl)).trans f4
        clear hp
        refine EWP.ret ?_
        have he : upd e 4 (Value.pointer (some t4)) = e := by rw [upd_self f4]
        show leavesT _ _ _ _ _ _
        rw [← he]
        exact eqMp (by as_aux_lemma => kernel_rfl : _ = (CallDT Tryd.prog fn_lines_Splitter_forget #[Value.pointer p_0] h fun h13 => ldS h13 t4 fun r0_0 => ldB h13 (Addr.add t4 1) fun r0_1 => Q (Value.agg #[Value.string r0_0, Value.bool r0_1]) h13)) hk
set_option maxRecDepth 100000 in
theorem lines_Splitter_line_s (p_0 : Option Addr) (n_1 : Int) {Q : Value → Heap → Prop} {h : Heap} (hk : lines_Splitter_line_v p_0 n_1 Q h) : CallT Tryd.prog fn_lines_Splitter_line #[Value.pointer p_0, Value.int .i64 n_1] h Q := by
  obtain ⟨c, hb, he⟩ := lines_Splitter_line_e p_0 n_1 Q h hk
  exact callT_ofD (N := 21) Tryd.func41 hb rfl (Tryd.call41 _) (Nat.le_of_ble_eq_true rfl) he
end Go.Proofs.YtdpimhlppflidaaDoor
