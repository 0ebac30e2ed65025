/-
  Printed by wip/tool/gen.py: verification conditions, and the proof that each suffices.
-/
import Derived.Test.YtkmommchanjobaaG1
namespace Go.Proofs.Ytkmommchanjobaa
set_option linter.unusedSimpArgs false
set_option linter.unusedVariables false
open Go
variable [Gh]
/-! ### intrusion/intrusionref44.Test -/
def ref44_Test_b7 (Q : Value → Heap → Prop) (h : Heap) : Prop :=
  Q (Value.bool false) h
def ref44_Test_b17 (data_1 : ByteArray) (t_3 : Addr) (at_7 : Int) (n_8 : Int) (i_9 : Int) (Q : Value → Heap → Prop) (Kn10 : (Int × Int) → Heap → Prop) (h : Heap) : Prop :=
  Kn10 (n_8, IntKind.wrap .i64 (i_9 + (1 : Int))) h
def ref44_Test_b16 (data_1 : ByteArray) (t_3 : Addr) (at_7 : Int) (n_8 : Int) (i_9 : Int) (k_10 : Int) (Q : Value → Heap → Prop) (Kn10 : (Int × Int) → Heap → Prop) (h : Heap) : Prop :=
  idxS data_1 k_10 fun t74 => ref44_Test_b17 data_1 t_3 at_7 (IntKind.wrap .i64 ((IntKind.wrap .i64 (n_8 * (256 : Int))) + (IntKind.wrap .i64 t74))) i_9 Q Kn10 h
def ref44_Test_b15 (data_1 : ByteArray) (t_3 : Addr) (at_7 : Int) (n_8 : Int) (i_9 : Int) (Q : Value → Heap → Prop) (Kn10 : (Int × Int) → Heap → Prop) (h : Heap) : Prop :=
  ldI h (Addr.add t_3 1) .i64 fun t65 => ref44_Test_b16 data_1 t_3 at_7 n_8 i_9 (IntKind.wrap .i64 ((IntKind.wrap .i64 ((IntKind.wrap .i64 (at_7 + t65)) - (1 : Int))) - i_9)) Q Kn10 h
def ref44_Test_b14 (data_1 : ByteArray) (t_3 : Addr) (at_7 : Int) (n_8 : Int) (i_9 : Int) (k_10 : Int) (Q : Value → Heap → Prop) (Kn10 : (Int × Int) → Heap → Prop) (h : Heap) : Prop :=
  ldB h (Addr.add t_3 5) fun t62 => if t62 = true then (ref44_Test_b15 data_1 t_3 at_7 n_8 i_9 Q Kn10 h) else (ref44_Test_b16 data_1 t_3 at_7 n_8 i_9 k_10 Q Kn10 h)
def ref44_Test_b13 (data_1 : ByteArray) (t_3 : Addr) (at_7 : Int) (n_8 : Int) (i_9 : Int) (Q : Value → Heap → Prop) (Kn10 : (Int × Int) → Heap → Prop) (h : Heap) : Prop :=
  ref44_Test_b14 data_1 t_3 at_7 n_8 i_9 (IntKind.wrap .i64 (at_7 + i_9)) Q Kn10 h
def ref44_Test_b12 (data_1 : ByteArray) (t_3 : Addr) (at_7 : Int) (n_8 : Int) (i_9 : Int) (Q : Value → Heap → Prop) (Kn10 : (Int × Int) → Heap → Prop) (h : Heap) : Prop :=
  ref44_Test_b13 data_1 t_3 at_7 n_8 i_9 Q Kn10 h
def ref44_Test_b22 (t_3 : Addr) (is_11 : Bool) (Q : Value → Heap → Prop) (h : Heap) : Prop :=
  ldB h (Addr.add t_3 6) fun t106 => Q (Value.bool (!(is_11 == t106))) h
def ref44_Test_b21 (t_3 : Addr) (n_8 : Int) (Q : Value → Heap → Prop) (h : Heap) : Prop :=
  ldI h (Addr.add t_3 2) .i64 fun t83 => ref44_Test_b22 t_3 (decide (n_8 < t83)) Q h
def ref44_Test_b24 (t_3 : Addr) (n_8 : Int) (Q : Value → Heap → Prop) (h : Heap) : Prop :=
  ldI h (Addr.add t_3 2) .i64 fun t89 => ref44_Test_b22 t_3 (n_8 == t89) Q h
def ref44_Test_b26 (t_3 : Addr) (n_8 : Int) (Q : Value → Heap → Prop) (h : Heap) : Prop :=
  ldI h (Addr.add t_3 2) .i64 fun t95 => ref44_Test_b22 t_3 (decide (n_8 > t95)) Q h
def ref44_Test_b28 (t_3 : Addr) (n_8 : Int) (Q : Value → Heap → Prop) (h : Heap) : Prop :=
  ldI h (Addr.add t_3 2) .i64 fun t101 => ref44_Test_b22 t_3 ((IntKind.wrap .i64 (BitVec.toNat (BitVec.ofInt (IntKind.bits .i64) n_8 &&& BitVec.ofInt (IntKind.bits .i64) t101) : Int)) != (0 : Int)) Q h
def ref44_Test_b29 (Q : Value → Heap → Prop) (h : Heap) : Prop :=
  Q (Value.bool false) h
def ref44_Test_b27 (t_3 : Addr) (n_8 : Int) (t78 : Int) (Q : Value → Heap → Prop) (h : Heap) : Prop :=
  if (t78 == (4 : Int)) = true then (ref44_Test_b28 t_3 n_8 Q h) else (ref44_Test_b29 Q h)
def ref44_Test_b25 (t_3 : Addr) (n_8 : Int) (t78 : Int) (Q : Value → Heap → Prop) (h : Heap) : Prop :=
  if (t78 == (3 : Int)) = true then (ref44_Test_b26 t_3 n_8 Q h) else (ref44_Test_b27 t_3 n_8 t78 Q h)
def ref44_Test_b23 (t_3 : Addr) (n_8 : Int) (t78 : Int) (Q : Value → Heap → Prop) (h : Heap) : Prop :=
  if (t78 == (2 : Int)) = true then (ref44_Test_b24 t_3 n_8 Q h) else (ref44_Test_b25 t_3 n_8 t78 Q h)
def ref44_Test_b20 (t_3 : Addr) (n_8 : Int) (t78 : Int) (Q : Value → Heap → Prop) (h : Heap) : Prop :=
  if (t78 == (1 : Int)) = true then (ref44_Test_b21 t_3 n_8 Q h) else (ref44_Test_b23 t_3 n_8 t78 Q h)
def ref44_Test_b19 (t_3 : Addr) (n_8 : Int) (Q : Value → Heap → Prop) (h : Heap) : Prop :=
  ldI h t_3 .i64 fun t78 => ref44_Test_b20 t_3 n_8 t78 Q h
def ref44_Test_b18 (t_3 : Addr) (n_8 : Int) (Q : Value → Heap → Prop) (h : Heap) : Prop :=
  ref44_Test_b19 t_3 n_8 Q h
def ref44_Test_b11 (data_1 : ByteArray) (t_3 : Addr) (at_7 : Int) (n_8 : Int) (i_9 : Int) (Q : Value → Heap → Prop) (Kn10 : (Int × Int) → Heap → Prop) (h : Heap) : Prop :=
  ldI h (Addr.add t_3 1) .i64 fun t54 => if (decide (i_9 < t54)) = true then (ref44_Test_b12 data_1 t_3 at_7 n_8 i_9 Q Kn10 h) else (ref44_Test_b18 t_3 n_8 Q h)
def ref44_Test_l10 (data_1 : ByteArray) (t_3 : Addr) (at_7 : Int) (Q : Value → Heap → Prop) (n_8 : Int) (i_9 : Int) (h : Heap) (Kn10 : (Int × Int) → Heap → Prop) : Prop :=
  ref44_Test_b11 data_1 t_3 at_7 n_8 i_9 Q Kn10 h
def ref44_Test_b9 (data_1 : ByteArray) (t_3 : Addr) (at_7 : Int) (n_8 : Int) (Q : Value → Heap → Prop) (h : Heap) : Prop :=
  LoopV (fun (s : Int × Int) h Kn => ref44_Test_l10 data_1 t_3 at_7 Q s.1 s.2 h Kn) (n_8, 0) h
def ref44_Test_b8 (data_1 : ByteArray) (t_3 : Addr) (at_7 : Int) (Q : Value → Heap → Prop) (h : Heap) : Prop :=
  ref44_Test_b9 data_1 t_3 at_7 0 Q h
def ref44_Test_b6 (data_1 : ByteArray) (t_3 : Addr) (at_7 : Int) (Q : Value → Heap → Prop) (h : Heap) : Prop :=
  ldI h (Addr.add t_3 1) .i64 fun t21 => if (t21 != (1 : Int)) = true then (ldI h (Addr.add t_3 1) .i64 fun t25 => if (t25 != (2 : Int)) = true then (ldI h (Addr.add t_3 1) .i64 fun t30 => if (t30 != (4 : Int)) = true then (ref44_Test_b7 Q h) else (if (decide (at_7 < (0 : Int))) = true then (ref44_Test_b7 Q h) else (if (decide (at_7 > ((data_1.size : Nat) : Int))) = true then (ref44_Test_b7 Q h) else (ldI h (Addr.add t_3 1) .i64 fun t45 => if (decide (t45 > (IntKind.wrap .i64 (((data_1.size : Nat) : Int) - at_7)))) = true then (ref44_Test_b7 Q h) else (ref44_Test_b8 data_1 t_3 at_7 Q h))))) else (if (decide (at_7 < (0 : Int))) = true then (ref44_Test_b7 Q h) else (if (decide (at_7 > ((data_1.size : Nat) : Int))) = true then (ref44_Test_b7 Q h) else (ldI h (Addr.add t_3 1) .i64 fun t45 => if (decide (t45 > (IntKind.wrap .i64 (((data_1.size : Nat) : Int) - at_7)))) = true then (ref44_Test_b7 Q h) else (ref44_Test_b8 data_1 t_3 at_7 Q h))))) else (if (decide (at_7 < (0 : Int))) = true then (ref44_Test_b7 Q h) else (if (decide (at_7 > ((data_1.size : Nat) : Int))) = true then (ref44_Test_b7 Q h) else (ldI h (Addr.add t_3 1) .i64 fun t45 => if (decide (t45 > (IntKind.wrap .i64 (((data_1.size : Nat) : Int) - at_7)))) = true then (ref44_Test_b7 Q h) else (ref44_Test_b8 data_1 t_3 at_7 Q h))))
def ref44_Test_b5 (data_1 : ByteArray) (t_3 : Addr) (at_7 : Int) (Q : Value → Heap → Prop) (h : Heap) : Prop :=
  ref44_Test_b6 data_1 t_3 at_7 Q h
def ref44_Test_b4 (data_1 : ByteArray) (cursor_2 : Int) (t_3 : Addr) (Q : Value → Heap → Prop) (h : Heap) : Prop :=
  ldI h (Addr.add t_3 3) .i64 fun t18 => ref44_Test_b5 data_1 t_3 (IntKind.wrap .i64 (cursor_2 + t18)) Q h
def ref44_Test_b3 (data_1 : ByteArray) (cursor_2 : Int) (t_3 : Addr) (at_7 : Int) (Q : Value → Heap → Prop) (h : Heap) : Prop :=
  ldB h (Addr.add t_3 4) fun t15 => if t15 = true then (ref44_Test_b4 data_1 cursor_2 t_3 Q h) else (ref44_Test_b5 data_1 t_3 at_7 Q h)
def ref44_Test_b2 (data_1 : ByteArray) (cursor_2 : Int) (t_3 : Addr) (Q : Value → Heap → Prop) (h : Heap) : Prop :=
  ldI h (Addr.add t_3 3) .i64 fun t13 => ref44_Test_b3 data_1 cursor_2 t_3 t13 Q h
def ref44_Test_b1 (t_0_0 : Int) (t_0_1 : Int) (t_0_2 : Int) (t_0_3 : Int) (t_0_4 : Bool) (t_0_5 : Bool) (t_0_6 : Bool) (data_1 : ByteArray) (cursor_2 : Int) (Q : Value → Heap → Prop) (h : Heap) : Prop :=
  alV h (.cells #[Value.int .i64 t_0_0, Value.int .i64 t_0_1, Value.int .i64 t_0_2, Value.int .i64 t_0_3, Value.bool t_0_4, Value.bool t_0_5, Value.bool t_0_6] 34) fun t3 h1 => ref44_Test_b2 data_1 cursor_2 t3 Q h1
def ref44_Test_v (t_0_0 : Int) (t_0_1 : Int) (t_0_2 : Int) (t_0_3 : Int) (t_0_4 : Bool) (t_0_5 : Bool) (t_0_6 : Bool) (data_1 : ByteArray) (cursor_2 : Int) (Q : Value → Heap → Prop) (h : Heap) : Prop :=
  ref44_Test_b1 t_0_0 t_0_1 t_0_2 t_0_3 t_0_4 t_0_5 t_0_6 data_1 cursor_2 Q h
set_option maxRecDepth 100000 in
theorem ref44_Test_e (t_0_0 : Int) (t_0_1 : Int) (t_0_2 : Int) (t_0_3 : Int) (t_0_4 : Bool) (t_0_5 : Bool) (t_0_6 : Bool) (data_1 : ByteArray) (cursor_2 : Int) (Q : Value → Heap → Prop) (h : Heap) (hk : ref44_Test_v t_0_0 t_0_1 t_0_2 t_0_3 t_0_4 t_0_5 t_0_6 data_1 cursor_2 Q h) :
    ∃ c, Try.f16.body = some c ∧ EWP Try.prog 108 c (fnPost Try.prog Try.f16 Q) (env0 #[Value.agg #[Value.int .i64 t_0_0, Value.int .i64 t_0_1, Value.int .i64 t_0_2, Value.int .i64 t_0_3, Value.bool t_0_4, Value.bool t_0_5, Value.bool t_0_6], Value.string data_1, Value.int .i64 cursor_2]) [] h := by
  refine ⟨_, rfl, ?_⟩
  have hk : ref44_Test_b1 t_0_0 t_0_1 t_0_2 t_0_3 t_0_4 t_0_5 t_0_6 data_1 cursor_2 Q h := hk
  have f0 : env0 #[Value.agg #[Value.int .i64 t_0_0, Value.int .i64 t_0_1, Value.int .i64 t_0_2, Value.int .i64 t_0_3, Value.bool t_0_4, Value.bool t_0_5, Value.bool t_0_6], Value.string data_1, Value.int .i64 cursor_2] 0 = Value.agg #[Value.int .i64 t_0_0, Value.int .i64 t_0_1, Value.int .i64 t_0_2, Value.int .i64 t_0_3, Value.bool t_0_4, Value.bool t_0_5, Value.bool t_0_6] := rfl
  have f1 : env0 #[Value.agg #[Value.int .i64 t_0_0, Value.int .i64 t_0_1, Value.int .i64 t_0_2, Value.int .i64 t_0_3, Value.bool t_0_4, Value.bool t_0_5, Value.bool t_0_6], Value.string data_1, Value.int .i64 cursor_2] 1 = Value.string data_1 := rfl
  have f2 : env0 #[Value.agg #[Value.int .i64 t_0_0, Value.int .i64 t_0_1, Value.int .i64 t_0_2, Value.int .i64 t_0_3, Value.bool t_0_4, Value.bool t_0_5, Value.bool t_0_6], Value.string data_1, Value.int .i64 cursor_2] 2 = Value.int .i64 cursor_2 := rfl
  generalize env0 #[Value.agg #[Value.int .i64 t_0_0, Value.int .i64 t_0_1, Value.int .i64 t_0_2, Value.int .i64 t_0_3, Value.bool t_0_4, Value.bool t_0_5, Value.bool t_0_6], Value.string data_1, Value.int .i64 cursor_2] = e at *
  have he : upd e 0 (Value.agg #[Value.int .i64 t_0_0, Value.int .i64 t_0_1, Value.int .i64 t_0_2, Value.int .i64 t_0_3, Value.bool t_0_4, Value.bool t_0_5, Value.bool t_0_6]) = e := by rw [upd_self f0]
  refine EWP.seqR (fun e h => dA (e 3) fun t_3 => ref44_Test_b2 data_1 cursor_2 t_3 Q h) ?_ ?_ ?_
  · kernel_rfl
  · rw [← he]
    exact eqMp (by as_aux_lemma => kernel_rfl : _ = ref44_Test_b1 t_0_0 t_0_1 t_0_2 t_0_3 t_0_4 t_0_5 t_0_6 data_1 cursor_2 Q h) hk
  · intro e h hp hk
    have f1 := (hp 1 (by kernel_rfl)).trans f1
    have f2 := (hp 2 (by kernel_rfl)).trans f2
    clear hp
    obtain ⟨t_3, f3, hk⟩ := dA_elim hk
    have he : upd e 3 (Value.pointer (some t_3)) = e := by rw [upd_self f3]
    refine EWP.seqR (fun e h => dI .i64 (e 7) fun at_7 => ref44_Test_b3 data_1 cursor_2 t_3 at_7 Q h) ?_ ?_ ?_
    · kernel_rfl
    · rw [← he]
      exact eqMp (by as_aux_lemma => kernel_rfl : _ = ref44_Test_b2 data_1 cursor_2 t_3 Q h) hk
    · intro e h hp hk
      have f1 := (hp 1 (by kernel_rfl)).trans f1
      have f2 := (hp 2 (by kernel_rfl)).trans f2
      have f3 := (hp 3 (by kernel_rfl)).trans f3
      clear hp
      obtain ⟨at_7, f7, hk⟩ := dI_elim hk
      refine EWP.seqC (fun e h => e 1 = Value.string data_1 ∧ e 3 = Value.pointer (some t_3) ∧ dI .i64 (e 7) fun at_7 => ref44_Test_b5 data_1 t_3 at_7 Q h) ?_ ?_
      · have he : upd e 3 (Value.pointer (some t_3)) = e := by rw [upd_self f3]
        refine EWP.seqR (fun e h => dB (e 15) fun t15 => if t15 = true then (ref44_Test_b4 data_1 cursor_2 t_3 Q h) else (ref44_Test_b5 data_1 t_3 at_7 Q h)) ?_ ?_ ?_
        · kernel_rfl
        · rw [← he]
          exact eqMp (by as_aux_lemma => kernel_rfl : _ = ref44_Test_b3 data_1 cursor_2 t_3 at_7 Q h) hk
        · intro e h hp hk
          have f1 := (hp 1 (by kernel_rfl)).trans f1
          have f2 := (hp 2 (by kernel_rfl)).trans f2
          have f3 := (hp 3 (by kernel_rfl)).trans f3
          have f7 := (hp 7 (by kernel_rfl)).trans f7
          clear hp
          obtain ⟨t15, f15, hk⟩ := dB_elim hk
          have fc : eev e (.tmp 15) = .bool t15 := f15
          refine EWP.condI fc hk ?_ ?_
          · intro hk
            have he : upd (upd e 2 (Value.int .i64 cursor_2)) 3 (Value.pointer (some t_3)) = e := by rw [upd_self f2, upd_self f3]
            refine EWP.regionN (fun e h => dI .i64 (e 7) fun at_7 => ref44_Test_b5 data_1 t_3 at_7 Q h) ?_ ?_ ?_
            · kernel_rfl
            · rw [← he]
              exact eqMp (by as_aux_lemma => kernel_rfl : _ = ref44_Test_b4 data_1 cursor_2 t_3 Q h) hk
            · intro e h hp hk
              have f1 := (hp 1 (by kernel_rfl)).trans f1
              have f3 := (hp 3 (by kernel_rfl)).trans f3
              clear hp
              obtain ⟨at_7, f7, hk⟩ := dI_elim hk
              exact (show _ ∧ _ from ⟨rfl, f1, f3, dI_intro f7 (hk)⟩)
          · intro hk
            refine EWP.skip ?_
            exact (show _ ∧ _ from ⟨rfl, f1, f3, dI_intro f7 (hk)⟩)
      · rintro e h ⟨f1, f3, hk⟩
        obtain ⟨at_7, f7, hk⟩ := dI_elim hk
        refine EWP.seqC (fun e h => e 1 = Value.string data_1 ∧ e 3 = Value.pointer (some t_3) ∧ e 7 = Value.int .i64 at_7 ∧ ref44_Test_b8 data_1 t_3 at_7 Q h) ?_ ?_
        · have he : upd (upd (upd e 1 (Value.string data_1)) 3 (Value.pointer (some t_3))) 7 (Value.int .i64 at_7) = e := by rw [upd_self f1, upd_self f3, upd_self f7]
          refine EWP.seqR (fun e h => dB (e 51) fun t51 => if t51 = true then (ref44_Test_b7 Q h) else (ref44_Test_b8 data_1 t_3 at_7 Q h)) ?_ ?_ ?_
          · kernel_rfl
          · rw [← he]
            exact eqMp (by as_aux_lemma => kernel_rfl : _ = ref44_Test_b6 data_1 t_3 at_7 Q h) hk
          · intro e h hp hk
            have f1 := (hp 1 (by kernel_rfl)).trans f1
            have f3 := (hp 3 (by kernel_rfl)).trans f3
            have f7 := (hp 7 (by kernel_rfl)).trans f7
            clear hp
            obtain ⟨t51, f51, hk⟩ := dB_elim hk
            have fc : eev e (.tmp 51) = .bool t51 := f51
            refine EWP.condI fc hk ?_ ?_
            · intro hk
              refine EWP.seqR (fun e h => dB (e 6) fun t6 => Q (Value.bool t6) h) ?_ ?_ ?_
              · kernel_rfl
              · skip
                exact eqMp (by as_aux_lemma => kernel_rfl : _ = ref44_Test_b7 Q h) hk
              · intro e h hp hk
                clear hp
                obtain ⟨t6, f6, hk⟩ := dB_elim hk
                refine EWP.ret ?_
                have he : upd e 6 (Value.bool t6) = e := by rw [upd_self f6]
                refine (show _ ∧ _ from ⟨rfl, ?_⟩)
                rw [← he]
                exact eqMp (by as_aux_lemma => kernel_rfl : _ = (Q (Value.bool t6) h)) hk
            · intro hk
              refine EWP.skip ?_
              exact (show _ ∧ _ from ⟨rfl, f1, f3, f7, hk⟩)
        · rintro e h ⟨f1, f3, f7, hk⟩
          refine EWP.seqR (fun e h => dI .i64 (e 8) fun n_8 => ref44_Test_b9 data_1 t_3 at_7 n_8 Q h) ?_ ?_ ?_
          · kernel_rfl
          · skip
            exact eqMp (by as_aux_lemma => kernel_rfl : _ = ref44_Test_b8 data_1 t_3 at_7 Q h) hk
          · intro e h hp hk
            have f1 := (hp 1 (by kernel_rfl)).trans f1
            have f3 := (hp 3 (by kernel_rfl)).trans f3
            have f7 := (hp 7 (by kernel_rfl)).trans f7
            clear hp
            obtain ⟨n_8, f8, hk⟩ := dI_elim hk
            refine EWP.seqC (fun e h => e 3 = Value.pointer (some t_3) ∧ dI .i64 (e 8) fun n_8 => ref44_Test_b18 t_3 n_8 Q h) ?_ ?_
            · refine EWP.seqR (fun e h => dI .i64 (e 9) fun i_9 => LoopV (fun (s : Int × Int) h Kn => ref44_Test_l10 data_1 t_3 at_7 Q s.1 s.2 h Kn) (n_8, i_9) h) ?_ ?_ ?_
              · kernel_rfl
              · skip
                exact eqMp (by as_aux_lemma => kernel_rfl : _ = ref44_Test_b9 data_1 t_3 at_7 n_8 Q h) hk
              · intro e h hp hk
                have f1 := (hp 1 (by kernel_rfl)).trans f1
                have f3 := (hp 3 (by kernel_rfl)).trans f3
                have f7 := (hp 7 (by kernel_rfl)).trans f7
                have f8 := (hp 8 (by kernel_rfl)).trans f8
                clear hp
                obtain ⟨i_9, f9, hk⟩ := dI_elim hk
                refine EWP.block ?_
                refine EWP.loopV (fun e (s : Int × Int) => e 1 = Value.string data_1 ∧ e 3 = Value.pointer (some t_3) ∧ e 7 = Value.int .i64 at_7 ∧ e 8 = Value.int .i64 s.1 ∧ e 9 = Value.int .i64 s.2) ⟨f1, f3, f7, f8, f9⟩ hk ?_
                rintro e ⟨n_8, i_9⟩ h Kn10 ⟨f1, f3, f7, f8, f9⟩ hk
                have f8 : e 8 = Value.int .i64 n_8 := f8
                have f9 : e 9 = Value.int .i64 i_9 := f9
                have hk : ref44_Test_l10 data_1 t_3 at_7 Q n_8 i_9 h Kn10 := hk
                refine EWP.seqC (fun e h => e 1 = Value.string data_1 ∧ e 3 = Value.pointer (some t_3) ∧ e 7 = Value.int .i64 at_7 ∧ e 8 = Value.int .i64 n_8 ∧ e 9 = Value.int .i64 i_9 ∧ ref44_Test_b12 data_1 t_3 at_7 n_8 i_9 Q Kn10 h) ?_ ?_
                · have he : upd (upd e 3 (Value.pointer (some t_3))) 9 (Value.int .i64 i_9) = e := by rw [upd_self f3, upd_self f9]
                  refine EWP.seqR (fun e h => dB (e 55) fun t55 => if t55 = true then (ref44_Test_b12 data_1 t_3 at_7 n_8 i_9 Q Kn10 h) else (ref44_Test_b18 t_3 n_8 Q h)) ?_ ?_ ?_
                  · kernel_rfl
                  · rw [← he]
                    exact eqMp (by as_aux_lemma => kernel_rfl : _ = ref44_Test_b11 data_1 t_3 at_7 n_8 i_9 Q Kn10 h) hk
                  · intro e h hp hk
                    have f1 := (hp 1 (by kernel_rfl)).trans f1
                    have f3 := (hp 3 (by kernel_rfl)).trans f3
                    have f7 := (hp 7 (by kernel_rfl)).trans f7
                    have f8 := (hp 8 (by kernel_rfl)).trans f8
                    have f9 := (hp 9 (by kernel_rfl)).trans f9
                    clear hp
                    obtain ⟨t55, f55, hk⟩ := dB_elim hk
                    have fc : eev e (.tmp 55) = .bool t55 := f55
                    refine EWP.condI fc hk ?_ ?_
                    · intro hk
                      refine EWP.skip ?_
                      exact (show _ ∧ _ from ⟨rfl, f1, f3, f7, f8, f9, hk⟩)
                    · intro hk
                      refine EWP.exit ?_
                      exact (show _ ∧ _ from ⟨rfl, f3, dI_intro f8 (hk)⟩)
                · rintro e h ⟨f1, f3, f7, f8, f9, hk⟩
                  refine EWP.seqC (fun e h => e 1 = Value.string data_1 ∧ e 3 = Value.pointer (some t_3) ∧ e 7 = Value.int .i64 at_7 ∧ e 9 = Value.int .i64 i_9 ∧ dI .i64 (e 8) fun n_8 => ref44_Test_b17 data_1 t_3 at_7 n_8 i_9 Q Kn10 h) ?_ ?_
                  · refine EWP.block ?_
                    have he : upd (upd e 7 (Value.int .i64 at_7)) 9 (Value.int .i64 i_9) = e := by rw [upd_self f7, upd_self f9]
                    refine EWP.seqR (fun e h => dI .i64 (e 10) fun k_10 => ref44_Test_b14 data_1 t_3 at_7 n_8 i_9 k_10 Q Kn10 h) ?_ ?_ ?_
                    · kernel_rfl
                    · rw [← he]
                      exact eqMp (by as_aux_lemma => kernel_rfl : _ = ref44_Test_b13 data_1 t_3 at_7 n_8 i_9 Q Kn10 h) hk
                    · intro e h hp hk
                      have f1 := (hp 1 (by kernel_rfl)).trans f1
                      have f3 := (hp 3 (by kernel_rfl)).trans f3
                      have f7 := (hp 7 (by kernel_rfl)).trans f7
                      have f8 := (hp 8 (by kernel_rfl)).trans f8
                      have f9 := (hp 9 (by kernel_rfl)).trans f9
                      clear hp
                      obtain ⟨k_10, f10, hk⟩ := dI_elim hk
                      refine EWP.seqC (fun e h => e 1 = Value.string data_1 ∧ e 3 = Value.pointer (some t_3) ∧ e 7 = Value.int .i64 at_7 ∧ e 8 = Value.int .i64 n_8 ∧ e 9 = Value.int .i64 i_9 ∧ dI .i64 (e 10) fun k_10 => ref44_Test_b16 data_1 t_3 at_7 n_8 i_9 k_10 Q Kn10 h) ?_ ?_
                      · have he : upd e 3 (Value.pointer (some t_3)) = e := by rw [upd_self f3]
                        refine EWP.seqR (fun e h => dB (e 62) fun t62 => if t62 = true then (ref44_Test_b15 data_1 t_3 at_7 n_8 i_9 Q Kn10 h) else (ref44_Test_b16 data_1 t_3 at_7 n_8 i_9 k_10 Q Kn10 h)) ?_ ?_ ?_
                        · kernel_rfl
                        · rw [← he]
                          exact eqMp (by as_aux_lemma => kernel_rfl : _ = ref44_Test_b14 data_1 t_3 at_7 n_8 i_9 k_10 Q Kn10 h) hk
                        · intro e h hp hk
                          have f1 := (hp 1 (by kernel_rfl)).trans f1
                          have f3 := (hp 3 (by kernel_rfl)).trans f3
                          have f7 := (hp 7 (by kernel_rfl)).trans f7
                          have f8 := (hp 8 (by kernel_rfl)).trans f8
                          have f9 := (hp 9 (by kernel_rfl)).trans f9
                          have f10 := (hp 10 (by kernel_rfl)).trans f10
                          clear hp
                          obtain ⟨t62, f62, hk⟩ := dB_elim hk
                          have fc : eev e (.tmp 62) = .bool t62 := f62
                          refine EWP.condI fc hk ?_ ?_
                          · intro hk
                            have he : upd (upd (upd e 3 (Value.pointer (some t_3))) 7 (Value.int .i64 at_7)) 9 (Value.int .i64 i_9) = e := by rw [upd_self f3, upd_self f7, upd_self f9]
                            refine EWP.regionN (fun e h => dI .i64 (e 10) fun k_10 => ref44_Test_b16 data_1 t_3 at_7 n_8 i_9 k_10 Q Kn10 h) ?_ ?_ ?_
                            · kernel_rfl
                            · rw [← he]
                              exact eqMp (by as_aux_lemma => kernel_rfl : _ = ref44_Test_b15 data_1 t_3 at_7 n_8 i_9 Q Kn10 h) hk
                            · intro e h hp hk
                              have f1 := (hp 1 (by kernel_rfl)).trans f1
                              have f3 := (hp 3 (by kernel_rfl)).trans f3
                              have f7 := (hp 7 (by kernel_rfl)).trans f7
                              have f8 := (hp 8 (by kernel_rfl)).trans f8
                              have f9 := (hp 9 (by kernel_rfl)).trans f9
                              clear hp
                              obtain ⟨k_10, f10, hk⟩ := dI_elim hk
                              exact (show _ ∧ _ from ⟨rfl, f1, f3, f7, f8, f9, dI_intro f10 (hk)⟩)
                          · intro hk
                            refine EWP.skip ?_
                            exact (show _ ∧ _ from ⟨rfl, f1, f3, f7, f8, f9, dI_intro f10 (hk)⟩)
                      · rintro e h ⟨f1, f3, f7, f8, f9, hk⟩
                        obtain ⟨k_10, f10, hk⟩ := dI_elim hk
                        have he : upd (upd (upd e 1 (Value.string data_1)) 8 (Value.int .i64 n_8)) 10 (Value.int .i64 k_10) = e := by rw [upd_self f1, upd_self f8, upd_self f10]
                        refine EWP.regionN (fun e h => dI .i64 (e 8) fun n_8 => ref44_Test_b17 data_1 t_3 at_7 n_8 i_9 Q Kn10 h) ?_ ?_ ?_
                        · kernel_rfl
                        · rw [← he]
                          exact eqMp (by as_aux_lemma => kernel_rfl : _ = ref44_Test_b16 data_1 t_3 at_7 n_8 i_9 k_10 Q Kn10 h) hk
                        · intro e h hp hk
                          have f1 := (hp 1 (by kernel_rfl)).trans f1
                          have f3 := (hp 3 (by kernel_rfl)).trans f3
                          have f7 := (hp 7 (by kernel_rfl)).trans f7
                          have f9 := (hp 9 (by kernel_rfl)).trans f9
                          clear hp
                          obtain ⟨n_8, f8, hk⟩ := dI_elim hk
                          exact (show _ ∧ _ from ⟨rfl, f1, f3, f7, f9, dI_intro f8 (hk)⟩)
                  · rintro e h ⟨f1, f3, f7, f9, hk⟩
                    obtain ⟨n_8, f8, hk⟩ := dI_elim hk
                    have he : upd e 9 (Value.int .i64 i_9) = e := by rw [upd_self f9]
                    refine EWP.regionN (fun e h => dI .i64 (e 9) fun i_9 => Kn10 (n_8, i_9) h) ?_ ?_ ?_
                    · kernel_rfl
                    · rw [← he]
                      exact eqMp (by as_aux_lemma => kernel_rfl : _ = ref44_Test_b17 data_1 t_3 at_7 n_8 i_9 Q Kn10 h) hk
                    · intro e h hp hk
                      have f1 := (hp 1 (by kernel_rfl)).trans f1
                      have f3 := (hp 3 (by kernel_rfl)).trans f3
                      have f7 := (hp 7 (by kernel_rfl)).trans f7
                      have f8 := (hp 8 (by kernel_rfl)).trans f8
                      clear hp
                      obtain ⟨i_9, f9, hk⟩ := dI_elim hk
                      exact (show _ ∧ _ from ⟨rfl, (n_8, i_9), ⟨f1, f3, f7, f8, f9⟩, hk⟩)
            · rintro e h ⟨f3, hk⟩
              obtain ⟨n_8, f8, hk⟩ := dI_elim hk
              refine EWP.seqR (fun e h => ref44_Test_b19 t_3 n_8 Q h) ?_ ?_ ?_
              · kernel_rfl
              · skip
                exact eqMp (by as_aux_lemma => kernel_rfl : _ = ref44_Test_b18 t_3 n_8 Q h) hk
              · intro e h hp hk
                have f3 := (hp 3 (by kernel_rfl)).trans f3
                have f8 := (hp 8 (by kernel_rfl)).trans f8
                clear hp
                refine EWP.seqC (fun e h => e 3 = Value.pointer (some t_3) ∧ dB (e 11) fun is_11 => ref44_Test_b22 t_3 is_11 Q h) ?_ ?_
                · have he : upd e 3 (Value.pointer (some t_3)) = e := by rw [upd_self f3]
                  refine EWP.seqR (fun e h => dI .i64 (e 78) fun t78 => ref44_Test_b20 t_3 n_8 t78 Q h) ?_ ?_ ?_
                  · kernel_rfl
                  · rw [← he]
                    exact eqMp (by as_aux_lemma => kernel_rfl : _ = ref44_Test_b19 t_3 n_8 Q h) hk
                  · intro e h hp hk
                    have f3 := (hp 3 (by kernel_rfl)).trans f3
                    have f8 := (hp 8 (by kernel_rfl)).trans f8
                    clear hp
                    obtain ⟨t78, f78, hk⟩ := dI_elim hk
                    refine EWP.block ?_
                    have he : upd e 78 (Value.int .i64 t78) = e := by rw [upd_self f78]
                    refine EWP.seqR (fun e h => dB (e 79) fun t79 => if t79 = true then (ref44_Test_b21 t_3 n_8 Q h) else (ref44_Test_b23 t_3 n_8 t78 Q h)) ?_ ?_ ?_
                    · kernel_rfl
                    · rw [← he]
                      exact eqMp (by as_aux_lemma => kernel_rfl : _ = ref44_Test_b20 t_3 n_8 t78 Q h) hk
                    · intro e h hp hk
                      have f3 := (hp 3 (by kernel_rfl)).trans f3
                      have f8 := (hp 8 (by kernel_rfl)).trans f8
                      have f78 := (hp 78 (by kernel_rfl)).trans f78
                      clear hp
                      obtain ⟨t79, f79, hk⟩ := dB_elim hk
                      have fc : eev e (.tmp 79) = .bool t79 := f79
                      refine EWP.condI fc hk ?_ ?_
                      · intro hk
                        have he : upd (upd e 3 (Value.pointer (some t_3))) 8 (Value.int .i64 n_8) = e := by rw [upd_self f3, upd_self f8]
                        refine EWP.regionN (fun e h => dB (e 11) fun is_11 => ref44_Test_b22 t_3 is_11 Q h) ?_ ?_ ?_
                        · kernel_rfl
                        · rw [← he]
                          exact eqMp (by as_aux_lemma => kernel_rfl : _ = ref44_Test_b21 t_3 n_8 Q h) hk
                        · intro e h hp hk
                          have f3 := (hp 3 (by kernel_rfl)).trans f3
                          clear hp
                          obtain ⟨is_11, f11, hk⟩ := dB_elim hk
                          exact (show _ ∧ _ from ⟨rfl, f3, dB_intro f11 (hk)⟩)
                      · intro hk
                        have he : upd e 78 (Value.int .i64 t78) = e := by rw [upd_self f78]
                        refine EWP.seqR (fun e h => dB (e 85) fun t85 => if t85 = true then (ref44_Test_b24 t_3 n_8 Q h) else (ref44_Test_b25 t_3 n_8 t78 Q h)) ?_ ?_ ?_
                        · kernel_rfl
                        · rw [← he]
                          exact eqMp (by as_aux_lemma => kernel_rfl : _ = ref44_Test_b23 t_3 n_8 t78 Q h) hk
                        · intro e h hp hk
                          have f3 := (hp 3 (by kernel_rfl)).trans f3
                          have f8 := (hp 8 (by kernel_rfl)).trans f8
                          have f78 := (hp 78 (by kernel_rfl)).trans f78
                          clear hp
                          obtain ⟨t85, f85, hk⟩ := dB_elim hk
                          have fc : eev e (.tmp 85) = .bool t85 := f85
                          refine EWP.condI fc hk ?_ ?_
                          · intro hk
                            have he : upd (upd e 3 (Value.pointer (some t_3))) 8 (Value.int .i64 n_8) = e := by rw [upd_self f3, upd_self f8]
                            refine EWP.regionN (fun e h => dB (e 11) fun is_11 => ref44_Test_b22 t_3 is_11 Q h) ?_ ?_ ?_
                            · kernel_rfl
                            · rw [← he]
                              exact eqMp (by as_aux_lemma => kernel_rfl : _ = ref44_Test_b24 t_3 n_8 Q h) hk
                            · intro e h hp hk
                              have f3 := (hp 3 (by kernel_rfl)).trans f3
                              clear hp
                              obtain ⟨is_11, f11, hk⟩ := dB_elim hk
                              exact (show _ ∧ _ from ⟨rfl, f3, dB_intro f11 (hk)⟩)
                          · intro hk
                            have he : upd e 78 (Value.int .i64 t78) = e := by rw [upd_self f78]
                            refine EWP.seqR (fun e h => dB (e 91) fun t91 => if t91 = true then (ref44_Test_b26 t_3 n_8 Q h) else (ref44_Test_b27 t_3 n_8 t78 Q h)) ?_ ?_ ?_
                            · kernel_rfl
                            · rw [← he]
                              exact eqMp (by as_aux_lemma => kernel_rfl : _ = ref44_Test_b25 t_3 n_8 t78 Q h) hk
                            · intro e h hp hk
                              have f3 := (hp 3 (by kernel_rfl)).trans f3
                              have f8 := (hp 8 (by kernel_rfl)).trans f8
                              have f78 := (hp 78 (by kernel_rfl)).trans f78
                              clear hp
                              obtain ⟨t91, f91, hk⟩ := dB_elim hk
                              have fc : eev e (.tmp 91) = .bool t91 := f91
                              refine EWP.condI fc hk ?_ ?_
                              · intro hk
                                have he : upd (upd e 3 (Value.pointer (some t_3))) 8 (Value.int .i64 n_8) = e := by rw [upd_self f3, upd_self f8]
                                refine EWP.regionN (fun e h => dB (e 11) fun is_11 => ref44_Test_b22 t_3 is_11 Q h) ?_ ?_ ?_
                                · kernel_rfl
                                · rw [← he]
                                  exact eqMp (by as_aux_lemma => kernel_rfl : _ = ref44_Test_b26 t_3 n_8 Q h) hk
                                · intro e h hp hk
                                  have f3 := (hp 3 (by kernel_rfl)).trans f3
                                  clear hp
                                  obtain ⟨is_11, f11, hk⟩ := dB_elim hk
                                  exact (show _ ∧ _ from ⟨rfl, f3, dB_intro f11 (hk)⟩)
                              · intro hk
                                have he : upd e 78 (Value.int .i64 t78) = e := by rw [upd_self f78]
                                refine EWP.seqR (fun e h => dB (e 97) fun t97 => if t97 = true then (ref44_Test_b28 t_3 n_8 Q h) else (ref44_Test_b29 Q h)) ?_ ?_ ?_
                                · kernel_rfl
                                · rw [← he]
                                  exact eqMp (by as_aux_lemma => kernel_rfl : _ = ref44_Test_b27 t_3 n_8 t78 Q h) hk
                                · intro e h hp hk
                                  have f3 := (hp 3 (by kernel_rfl)).trans f3
                                  have f8 := (hp 8 (by kernel_rfl)).trans f8
                                  clear hp
                                  obtain ⟨t97, f97, hk⟩ := dB_elim hk
                                  have fc : eev e (.tmp 97) = .bool t97 := f97
                                  refine EWP.condI fc hk ?_ ?_
                                  · intro hk
                                    have he : upd (upd e 3 (Value.pointer (some t_3))) 8 (Value.int .i64 n_8) = e := by rw [upd_self f3, upd_self f8]
                                    refine EWP.regionN (fun e h => dB (e 11) fun is_11 => ref44_Test_b22 t_3 is_11 Q h) ?_ ?_ ?_
                                    · kernel_rfl
                                    · rw [← he]
                                      exact eqMp (by as_aux_lemma => kernel_rfl : _ = ref44_Test_b28 t_3 n_8 Q h) hk
                                    · intro e h hp hk
                                      have f3 := (hp 3 (by kernel_rfl)).trans f3
                                      clear hp
                                      obtain ⟨is_11, f11, hk⟩ := dB_elim hk
                                      exact (show _ ∧ _ from ⟨rfl, f3, dB_intro f11 (hk)⟩)
                                  · intro hk
                                    refine EWP.seqR (fun e h => dB (e 6) fun t6 => Q (Value.bool t6) h) ?_ ?_ ?_
                                    · kernel_rfl
                                    · skip
                                      exact eqMp (by as_aux_lemma => kernel_rfl : _ = ref44_Test_b29 Q h) hk
                                    · intro e h hp hk
                                      clear hp
                                      obtain ⟨t6, f6, hk⟩ := dB_elim hk
                                      refine EWP.ret ?_
                                      have he : upd e 6 (Value.bool t6) = e := by rw [upd_self f6]
                                      refine (show _ ∧ _ from ⟨rfl, ?_⟩)
                                      rw [← he]
                                      exact eqMp (by as_aux_lemma => kernel_rfl : _ = (Q (Value.bool t6) h)) hk
                · rintro e h ⟨f3, hk⟩
                  obtain ⟨is_11, f11, hk⟩ := dB_elim hk
                  have he : upd (upd e 3 (Value.pointer (some t_3))) 11 (Value.bool is_11) = e := by rw [upd_self f3, upd_self f11]
                  refine EWP.seqR (fun e h => dB (e 6) fun t6 => Q (Value.bool t6) h) ?_ ?_ ?_
                  · kernel_rfl
                  · rw [← he]
                    exact eqMp (by as_aux_lemma => kernel_rfl : _ = ref44_Test_b22 t_3 is_11 Q h) hk
                  · intro e h hp hk
                    clear hp
                    obtain ⟨t6, f6, hk⟩ := dB_elim hk
                    refine EWP.ret ?_
                    have he : upd e 6 (Value.bool t6) = e := by rw [upd_self f6]
                    refine (show _ ∧ _ from ⟨rfl, ?_⟩)
                    rw [← he]
                    exact eqMp (by as_aux_lemma => kernel_rfl : _ = (Q (Value.bool t6) h)) hk
theorem ref44_Test_s (t_0_0 : Int) (t_0_1 : Int) (t_0_2 : Int) (t_0_3 : Int) (t_0_4 : Bool) (t_0_5 : Bool) (t_0_6 : Bool) (data_1 : ByteArray) (cursor_2 : Int) {Q : Value → Heap → Prop} {h : Heap} (hk : ref44_Test_v t_0_0 t_0_1 t_0_2 t_0_3 t_0_4 t_0_5 t_0_6 data_1 cursor_2 Q h) : CallT Try.prog fn_ref44_Test #[Value.agg #[Value.int .i64 t_0_0, Value.int .i64 t_0_1, Value.int .i64 t_0_2, Value.int .i64 t_0_3, Value.bool t_0_4, Value.bool t_0_5, Value.bool t_0_6], Value.string data_1, Value.int .i64 cursor_2] h Q := by
  obtain ⟨c, hb, he⟩ := ref44_Test_e t_0_0 t_0_1 t_0_2 t_0_3 t_0_4 t_0_5 t_0_6 data_1 cursor_2 Q h hk
  exact callT_of (N := 108) Try.func16 hb rfl (Try.call16 _) (Nat.le_of_ble_eq_true rfl) he
/-! ### intrusion/content.Match -/
def content_Match_b5 (s_12 : Addr) (Q : Value → Heap → Prop) (h : Heap) : Prop :=
  ldI h (Addr.add s_12 3) .i64 fun t32 => Q (Value.tuple #[Value.bool false, Value.int .i64 (0 : Int), Value.int .i64 t32, Value.int .i64 (16 : Int)]) h
def content_Match_b6 (ok_8 : Bool) (end_9 : Int) (s_12 : Addr) (Q : Value → Heap → Prop) (h : Heap) : Prop :=
  ldI h (Addr.add s_12 4) .i64 fun t38 => Q (Value.tuple #[Value.bool ok_8, Value.int .i64 end_9, Value.int .i64 t38, Value.int .i64 (0 : Int)]) h
def content_Match_b4 (ok_8 : Bool) (end_9 : Int) (s_12 : Addr) (Q : Value → Heap → Prop) (h : Heap) : Prop :=
  ldB h (Addr.add s_12 5) fun t28 => if t28 = true then (content_Match_b5 s_12 Q h) else (content_Match_b6 ok_8 end_9 s_12 Q h)
def content_Match_b3 (s_12 : Addr) (Q : Value → Heap → Prop) (h : Heap) : Prop :=
  CallT Try.prog fn_content_search_from #[Value.pointer (some s_12), Value.int .i64 (0 : Int), Value.int .i64 (0 : Int)] h fun v h2 => ∃ t22_0 : Int, ∃ t22_1 : Bool, v = Value.tuple #[Value.int .i64 t22_0, Value.bool t22_1] ∧ content_Match_b4 t22_1 t22_0 s_12 Q h2
def content_Match_b2 (l_0a : Option Addr) (l_0n : Nat) (l_0c : Nat) (t_1a : Option Addr) (t_1n : Nat) (t_1c : Nat) (data_2 : ByteArray) (budget_3 : Int) (Q : Value → Heap → Prop) (h : Heap) : Prop :=
  alV h (.cells #[Value.slice l_0a l_0n l_0c, Value.slice t_1a t_1n t_1c, Value.string data_2, Value.int .i64 (if (0 : Int) > budget_3 then (0 : Int) else budget_3), Value.int .i64 (0 : Int), Value.bool false] 50) fun t19 h1 => content_Match_b3 t19 Q h1
def content_Match_b1 (l_0a : Option Addr) (l_0n : Nat) (l_0c : Nat) (t_1a : Option Addr) (t_1n : Nat) (t_1c : Nat) (data_2 : ByteArray) (budget_3 : Int) (Q : Value → Heap → Prop) (h : Heap) : Prop :=
  content_Match_b2 l_0a l_0n l_0c t_1a t_1n t_1c data_2 budget_3 Q h
def content_Match_v (l_0a : Option Addr) (l_0n : Nat) (l_0c : Nat) (t_1a : Option Addr) (t_1n : Nat) (t_1c : Nat) (data_2 : ByteArray) (budget_3 : Int) (Q : Value → Heap → Prop) (h : Heap) : Prop :=
  content_Match_b1 l_0a l_0n l_0c t_1a t_1n t_1c data_2 budget_3 Q h
set_option maxRecDepth 100000 in
theorem content_Match_e (l_0a : Option Addr) (l_0n : Nat) (l_0c : Nat) (t_1a : Option Addr) (t_1n : Nat) (t_1c : Nat) (data_2 : ByteArray) (budget_3 : Int) (Q : Value → Heap → Prop) (h : Heap) (hk : content_Match_v l_0a l_0n l_0c t_1a t_1n t_1c data_2 budget_3 Q h) :
    ∃ c, Try.f17.body = some c ∧ EWP Try.prog 39 c (fnPost Try.prog Try.f17 Q) (env0 #[Value.slice l_0a l_0n l_0c, Value.slice t_1a t_1n t_1c, Value.string data_2, Value.int .i64 budget_3]) [] h := by
  refine ⟨_, rfl, ?_⟩
  have hk : content_Match_b1 l_0a l_0n l_0c t_1a t_1n t_1c data_2 budget_3 Q h := hk
  have f0 : env0 #[Value.slice l_0a l_0n l_0c, Value.slice t_1a t_1n t_1c, Value.string data_2, Value.int .i64 budget_3] 0 = Value.slice l_0a l_0n l_0c := rfl
  have f1 : env0 #[Value.slice l_0a l_0n l_0c, Value.slice t_1a t_1n t_1c, Value.string data_2, Value.int .i64 budget_3] 1 = Value.slice t_1a t_1n t_1c := rfl
  have f2 : env0 #[Value.slice l_0a l_0n l_0c, Value.slice t_1a t_1n t_1c, Value.string data_2, Value.int .i64 budget_3] 2 = Value.string data_2 := rfl
  have f3 : env0 #[Value.slice l_0a l_0n l_0c, Value.slice t_1a t_1n t_1c, Value.string data_2, Value.int .i64 budget_3] 3 = Value.int .i64 budget_3 := rfl
  generalize env0 #[Value.slice l_0a l_0n l_0c, Value.slice t_1a t_1n t_1c, Value.string data_2, Value.int .i64 budget_3] = e at *
  refine EWP.seqR (fun e h => content_Match_b2 l_0a l_0n l_0c t_1a t_1n t_1c data_2 budget_3 Q h) ?_ ?_ ?_
  · kernel_rfl
  · skip
    exact eqMp (by as_aux_lemma => kernel_rfl : _ = content_Match_b1 l_0a l_0n l_0c t_1a t_1n t_1c data_2 budget_3 Q h) hk
  · intro e h hp hk
    have f0 := (hp 0 (by kernel_rfl)).trans f0
    have f1 := (hp 1 (by kernel_rfl)).trans f1
    have f2 := (hp 2 (by kernel_rfl)).trans f2
    have f3 := (hp 3 (by kernel_rfl)).trans f3
    clear hp
    have he : upd (upd (upd (upd e 0 (Value.slice l_0a l_0n l_0c)) 1 (Value.slice t_1a t_1n t_1c)) 2 (Value.string data_2)) 3 (Value.int .i64 budget_3) = e := by rw [upd_self f0, upd_self f1, upd_self f2, upd_self f3]
    refine EWP.seqR (fun e h => dA (e 12) fun s_12 => content_Match_b3 s_12 Q h) ?_ ?_ ?_
    · kernel_rfl
    · rw [← he]
      exact eqMp (by as_aux_lemma => kernel_rfl : _ = content_Match_b2 l_0a l_0n l_0c t_1a t_1n t_1c data_2 budget_3 Q h) hk
    · intro e h hp hk
      clear hp
      obtain ⟨s_12, f12, hk⟩ := dA_elim hk
      have he : upd e 12 (Value.pointer (some s_12)) = e := by rw [upd_self f12]
      refine EWP.seqR (fun e h => dB (e 8) fun ok_8 => dI .i64 (e 9) fun end_9 => content_Match_b4 ok_8 end_9 s_12 Q h) ?_ ?_ ?_
      · kernel_rfl
      · rw [← he]
        exact eqMp (by as_aux_lemma => kernel_rfl : _ = content_Match_b3 s_12 Q h) hk
      · intro e h hp hk
        have f12 := (hp 12 (by kernel_rfl)).trans f12
        clear hp
        obtain ⟨ok_8, f8, hk⟩ := dB_elim hk
        obtain ⟨end_9, f9, hk⟩ := dI_elim hk
        refine EWP.seqC (fun e h => e 12 = Value.pointer (some s_12) ∧ dB (e 8) fun ok_8 => dI .i64 (e 9) fun end_9 => content_Match_b6 ok_8 end_9 s_12 Q h) ?_ ?_
        · have he : upd e 12 (Value.pointer (some s_12)) = e := by rw [upd_self f12]
          refine EWP.seqR (fun e h => dB (e 28) fun t28 => if t28 = true then (content_Match_b5 s_12 Q h) else (content_Match_b6 ok_8 end_9 s_12 Q h)) ?_ ?_ ?_
          · kernel_rfl
          · rw [← he]
            exact eqMp (by as_aux_lemma => kernel_rfl : _ = content_Match_b4 ok_8 end_9 s_12 Q h) hk
          · intro e h hp hk
            have f8 := (hp 8 (by kernel_rfl)).trans f8
            have f9 := (hp 9 (by kernel_rfl)).trans f9
            have f12 := (hp 12 (by kernel_rfl)).trans f12
            clear hp
            obtain ⟨t28, f28, hk⟩ := dB_elim hk
            have fc : eev e (.tmp 28) = .bool t28 := f28
            refine EWP.condI fc hk ?_ ?_
            · intro hk
              have he : upd e 12 (Value.pointer (some s_12)) = e := by rw [upd_self f12]
              refine EWP.seqD (fun e h => dB (e 8) fun ok_8 => dI .i64 (e 9) fun end_9 => dI .i64 (e 10) fun steps_10 => dI .i64 (e 11) fun e_11 => Q (Value.tuple #[Value.bool ok_8, Value.int .i64 end_9, Value.int .i64 steps_10, Value.int .i64 e_11]) h) ?_ ?_ ?_ ?_
              · kernel_rfl
              · kernel_rfl
              · rw [← he]
                exact eqMp (by as_aux_lemma => kernel_rfl : _ = content_Match_b5 s_12 Q h) hk
              · intro e h hp hk
                clear hp
                obtain ⟨ok_8, f8, hk⟩ := dB_elim hk
                obtain ⟨end_9, f9, hk⟩ := dI_elim hk
                obtain ⟨steps_10, f10, hk⟩ := dI_elim hk
                obtain ⟨e_11, f11, hk⟩ := dI_elim hk
                refine EWP.ret ?_
                have he : upd (upd (upd (upd e 8 (Value.bool ok_8)) 9 (Value.int .i64 end_9)) 10 (Value.int .i64 steps_10)) 11 (Value.int .i64 e_11) = e := by rw [upd_self f8, upd_self f9, upd_self f10, upd_self f11]
                refine (show _ ∧ _ from ⟨rfl, ?_⟩)
                rw [← he]
                exact eqMp (by as_aux_lemma => kernel_rfl : _ = (Q (Value.tuple #[Value.bool ok_8, Value.int .i64 end_9, Value.int .i64 steps_10, Value.int .i64 e_11]) h)) hk
            · intro hk
              refine EWP.skip ?_
              exact (show _ ∧ _ from ⟨rfl, f12, dB_intro f8 (dI_intro f9 (hk))⟩)
        · rintro e h ⟨f12, hk⟩
          obtain ⟨ok_8, f8, hk⟩ := dB_elim hk
          obtain ⟨end_9, f9, hk⟩ := dI_elim hk
          have he : upd (upd (upd e 8 (Value.bool ok_8)) 9 (Value.int .i64 end_9)) 12 (Value.pointer (some s_12)) = e := by rw [upd_self f8, upd_self f9, upd_self f12]
          refine EWP.seqD (fun e h => dB (e 8) fun ok_8 => dI .i64 (e 9) fun end_9 => dI .i64 (e 10) fun steps_10 => dI .i64 (e 11) fun e_11 => Q (Value.tuple #[Value.bool ok_8, Value.int .i64 end_9, Value.int .i64 steps_10, Value.int .i64 e_11]) h) ?_ ?_ ?_ ?_
          · kernel_rfl
          · kernel_rfl
          · rw [← he]
            exact eqMp (by as_aux_lemma => kernel_rfl : _ = content_Match_b6 ok_8 end_9 s_12 Q h) hk
          · intro e h hp hk
            clear hp
            obtain ⟨ok_8, f8, hk⟩ := dB_elim hk
            obtain ⟨end_9, f9, hk⟩ := dI_elim hk
            obtain ⟨steps_10, f10, hk⟩ := dI_elim hk
            obtain ⟨e_11, f11, hk⟩ := dI_elim hk
            refine EWP.ret ?_
            have he : upd (upd (upd (upd e 8 (Value.bool ok_8)) 9 (Value.int .i64 end_9)) 10 (Value.int .i64 steps_10)) 11 (Value.int .i64 e_11) = e := by rw [upd_self f8, upd_self f9, upd_self f10, upd_self f11]
            refine (show _ ∧ _ from ⟨rfl, ?_⟩)
            rw [← he]
            exact eqMp (by as_aux_lemma => kernel_rfl : _ = (Q (Value.tuple #[Value.bool ok_8, Value.int .i64 end_9, Value.int .i64 steps_10, Value.int .i64 e_11]) h)) hk
theorem content_Match_s (l_0a : Option Addr) (l_0n : Nat) (l_0c : Nat) (t_1a : Option Addr) (t_1n : Nat) (t_1c : Nat) (data_2 : ByteArray) (budget_3 : Int) {Q : Value → Heap → Prop} {h : Heap} (hk : content_Match_v l_0a l_0n l_0c t_1a t_1n t_1c data_2 budget_3 Q h) : CallT Try.prog fn_content_Match #[Value.slice l_0a l_0n l_0c, Value.slice t_1a t_1n t_1c, Value.string data_2, Value.int .i64 budget_3] h Q := by
  obtain ⟨c, hb, he⟩ := content_Match_e l_0a l_0n l_0c t_1a t_1n t_1c data_2 budget_3 Q h hk
  exact callT_of (N := 39) Try.func17 hb rfl (Try.call17 _) (Nat.le_of_ble_eq_true rfl) he
/-! ### intrusion/intrusionref44.Match -/
def ref44_Match_b7 (budget_3 : Int) (Q : Value → Heap → Prop) (h : Heap) : Prop :=
  Q (Value.tuple #[Value.bool false, Value.int .i64 (0 : Int), Value.int .i64 budget_3, Value.int .i64 (16 : Int)]) h
def ref44_Match_b8 (budget_3 : Int) (s_12 : Addr) (ok_13 : Bool) (end_14 : Int) (Q : Value → Heap → Prop) (h : Heap) : Prop :=
  ldI h s_12 .i64 fun t39 => Q (Value.tuple #[Value.bool ok_13, Value.int .i64 end_14, Value.int .i64 (IntKind.wrap .i64 (budget_3 - t39)), Value.int .i64 (0 : Int)]) h
def ref44_Match_b6 (budget_3 : Int) (s_12 : Addr) (ok_13 : Bool) (end_14 : Int) (Q : Value → Heap → Prop) (h : Heap) : Prop :=
  ldB h (Addr.add s_12 1) fun t31 => if t31 = true then (ref44_Match_b7 budget_3 Q h) else (ref44_Match_b8 budget_3 s_12 ok_13 end_14 Q h)
def ref44_Match_b5 (l_0a : Option Addr) (l_0n : Nat) (l_0c : Nat) (t_1a : Option Addr) (t_1n : Nat) (t_1c : Nat) (data_2 : ByteArray) (budget_3 : Int) (s_12 : Addr) (Q : Value → Heap → Prop) (h : Heap) : Prop :=
  CallT Try.prog fn_ref44_search_from #[Value.pointer (some s_12), Value.int .i64 (0 : Int), Value.slice l_0a l_0n l_0c, Value.slice t_1a t_1n t_1c, Value.string data_2, Value.int .i64 (0 : Int)] h fun v h2 => ∃ t25_0 : Bool, ∃ t25_1 : Int, v = Value.tuple #[Value.bool t25_0, Value.int .i64 t25_1] ∧ ref44_Match_b6 budget_3 s_12 t25_0 t25_1 Q h2
def ref44_Match_b4 (l_0a : Option Addr) (l_0n : Nat) (l_0c : Nat) (t_1a : Option Addr) (t_1n : Nat) (t_1c : Nat) (data_2 : ByteArray) (budget_3 : Int) (Q : Value → Heap → Prop) (h : Heap) : Prop :=
  alV h (.cells #[Value.int .i64 budget_3, Value.bool false] 55) fun t19 h1 => ref44_Match_b5 l_0a l_0n l_0c t_1a t_1n t_1c data_2 budget_3 t19 Q h1
def ref44_Match_b3 (l_0a : Option Addr) (l_0n : Nat) (l_0c : Nat) (t_1a : Option Addr) (t_1n : Nat) (t_1c : Nat) (data_2 : ByteArray) (Q : Value → Heap → Prop) (h : Heap) : Prop :=
  ref44_Match_b4 l_0a l_0n l_0c t_1a t_1n t_1c data_2 0 Q h
def ref44_Match_b2 (l_0a : Option Addr) (l_0n : Nat) (l_0c : Nat) (t_1a : Option Addr) (t_1n : Nat) (t_1c : Nat) (data_2 : ByteArray) (budget_3 : Int) (Q : Value → Heap → Prop) (h : Heap) : Prop :=
  if (decide (budget_3 < (0 : Int))) = true then (ref44_Match_b3 l_0a l_0n l_0c t_1a t_1n t_1c data_2 Q h) else (ref44_Match_b4 l_0a l_0n l_0c t_1a t_1n t_1c data_2 budget_3 Q h)
def ref44_Match_b1 (l_0a : Option Addr) (l_0n : Nat) (l_0c : Nat) (t_1a : Option Addr) (t_1n : Nat) (t_1c : Nat) (data_2 : ByteArray) (budget_3 : Int) (Q : Value → Heap → Prop) (h : Heap) : Prop :=
  ref44_Match_b2 l_0a l_0n l_0c t_1a t_1n t_1c data_2 budget_3 Q h
def ref44_Match_v (l_0a : Option Addr) (l_0n : Nat) (l_0c : Nat) (t_1a : Option Addr) (t_1n : Nat) (t_1c : Nat) (data_2 : ByteArray) (budget_3 : Int) (Q : Value → Heap → Prop) (h : Heap) : Prop :=
  ref44_Match_b1 l_0a l_0n l_0c t_1a t_1n t_1c data_2 budget_3 Q h
set_option maxRecDepth 100000 in
theorem ref44_Match_e (l_0a : Option Addr) (l_0n : Nat) (l_0c : Nat) (t_1a : Option Addr) (t_1n : Nat) (t_1c : Nat) (data_2 : ByteArray) (budget_3 : Int) (Q : Value → Heap → Prop) (h : Heap) (hk : ref44_Match_v l_0a l_0n l_0c t_1a t_1n t_1c data_2 budget_3 Q h) :
    ∃ c, Try.f18.body = some c ∧ EWP Try.prog 41 c (fnPost Try.prog Try.f18 Q) (env0 #[Value.slice l_0a l_0n l_0c, Value.slice t_1a t_1n t_1c, Value.string data_2, Value.int .i64 budget_3]) [] h := by
  refine ⟨_, rfl, ?_⟩
  have hk : ref44_Match_b1 l_0a l_0n l_0c t_1a t_1n t_1c data_2 budget_3 Q h := hk
  have f0 : env0 #[Value.slice l_0a l_0n l_0c, Value.slice t_1a t_1n t_1c, Value.string data_2, Value.int .i64 budget_3] 0 = Value.slice l_0a l_0n l_0c := rfl
  have f1 : env0 #[Value.slice l_0a l_0n l_0c, Value.slice t_1a t_1n t_1c, Value.string data_2, Value.int .i64 budget_3] 1 = Value.slice t_1a t_1n t_1c := rfl
  have f2 : env0 #[Value.slice l_0a l_0n l_0c, Value.slice t_1a t_1n t_1c, Value.string data_2, Value.int .i64 budget_3] 2 = Value.string data_2 := rfl
  have f3 : env0 #[Value.slice l_0a l_0n l_0c, Value.slice t_1a t_1n t_1c, Value.string data_2, Value.int .i64 budget_3] 3 = Value.int .i64 budget_3 := rfl
  generalize env0 #[Value.slice l_0a l_0n l_0c, Value.slice t_1a t_1n t_1c, Value.string data_2, Value.int .i64 budget_3] = e at *
  refine EWP.seqR (fun e h => ref44_Match_b2 l_0a l_0n l_0c t_1a t_1n t_1c data_2 budget_3 Q h) ?_ ?_ ?_
  · kernel_rfl
  · skip
    exact eqMp (by as_aux_lemma => kernel_rfl : _ = ref44_Match_b1 l_0a l_0n l_0c t_1a t_1n t_1c data_2 budget_3 Q h) hk
  · intro e h hp hk
    have f0 := (hp 0 (by kernel_rfl)).trans f0
    have f1 := (hp 1 (by kernel_rfl)).trans f1
    have f2 := (hp 2 (by kernel_rfl)).trans f2
    have f3 := (hp 3 (by kernel_rfl)).trans f3
    clear hp
    refine EWP.seqC (fun e h => e 0 = Value.slice l_0a l_0n l_0c ∧ e 1 = Value.slice t_1a t_1n t_1c ∧ e 2 = Value.string data_2 ∧ dI .i64 (e 3) fun budget_3 => ref44_Match_b4 l_0a l_0n l_0c t_1a t_1n t_1c data_2 budget_3 Q h) ?_ ?_
    · have he : upd e 3 (Value.int .i64 budget_3) = e := by rw [upd_self f3]
      refine EWP.seqR (fun e h => dB (e 16) fun t16 => if t16 = true then (ref44_Match_b3 l_0a l_0n l_0c t_1a t_1n t_1c data_2 Q h) else (ref44_Match_b4 l_0a l_0n l_0c t_1a t_1n t_1c data_2 budget_3 Q h)) ?_ ?_ ?_
      · kernel_rfl
      · rw [← he]
        exact eqMp (by as_aux_lemma => kernel_rfl : _ = ref44_Match_b2 l_0a l_0n l_0c t_1a t_1n t_1c data_2 budget_3 Q h) hk
      · intro e h hp hk
        have f0 := (hp 0 (by kernel_rfl)).trans f0
        have f1 := (hp 1 (by kernel_rfl)).trans f1
        have f2 := (hp 2 (by kernel_rfl)).trans f2
        have f3 := (hp 3 (by kernel_rfl)).trans f3
        clear hp
        obtain ⟨t16, f16, hk⟩ := dB_elim hk
        have fc : eev e (.tmp 16) = .bool t16 := f16
        refine EWP.condI fc hk ?_ ?_
        · intro hk
          refine EWP.regionN (fun e h => dI .i64 (e 3) fun budget_3 => ref44_Match_b4 l_0a l_0n l_0c t_1a t_1n t_1c data_2 budget_3 Q h) ?_ ?_ ?_
          · kernel_rfl
          · skip
            exact eqMp (by as_aux_lemma => kernel_rfl : _ = ref44_Match_b3 l_0a l_0n l_0c t_1a t_1n t_1c data_2 Q h) hk
          · intro e h hp hk
            have f0 := (hp 0 (by kernel_rfl)).trans f0
            have f1 := (hp 1 (by kernel_rfl)).trans f1
            have f2 := (hp 2 (by kernel_rfl)).trans f2
            clear hp
            obtain ⟨budget_3, f3, hk⟩ := dI_elim hk
            exact (show _ ∧ _ from ⟨rfl, f0, f1, f2, dI_intro f3 (hk)⟩)
        · intro hk
          refine EWP.skip ?_
          exact (show _ ∧ _ from ⟨rfl, f0, f1, f2, dI_intro f3 (hk)⟩)
    · rintro e h ⟨f0, f1, f2, hk⟩
      obtain ⟨budget_3, f3, hk⟩ := dI_elim hk
      have he : upd e 3 (Value.int .i64 budget_3) = e := by rw [upd_self f3]
      refine EWP.seqR (fun e h => dA (e 12) fun s_12 => ref44_Match_b5 l_0a l_0n l_0c t_1a t_1n t_1c data_2 budget_3 s_12 Q h) ?_ ?_ ?_
      · kernel_rfl
      · rw [← he]
        exact eqMp (by as_aux_lemma => kernel_rfl : _ = ref44_Match_b4 l_0a l_0n l_0c t_1a t_1n t_1c data_2 budget_3 Q h) hk
      · intro e h hp hk
        have f0 := (hp 0 (by kernel_rfl)).trans f0
        have f1 := (hp 1 (by kernel_rfl)).trans f1
        have f2 := (hp 2 (by kernel_rfl)).trans f2
        have f3 := (hp 3 (by kernel_rfl)).trans f3
        clear hp
        obtain ⟨s_12, f12, hk⟩ := dA_elim hk
        have he : upd (upd (upd (upd e 0 (Value.slice l_0a l_0n l_0c)) 1 (Value.slice t_1a t_1n t_1c)) 2 (Value.string data_2)) 12 (Value.pointer (some s_12)) = e := by rw [upd_self f0, upd_self f1, upd_self f2, upd_self f12]
        refine EWP.seqR (fun e h => dB (e 13) fun ok_13 => dI .i64 (e 14) fun end_14 => ref44_Match_b6 budget_3 s_12 ok_13 end_14 Q h) ?_ ?_ ?_
        · kernel_rfl
        · rw [← he]
          exact eqMp (by as_aux_lemma => kernel_rfl : _ = ref44_Match_b5 l_0a l_0n l_0c t_1a t_1n t_1c data_2 budget_3 s_12 Q h) hk
        · intro e h hp hk
          have f3 := (hp 3 (by kernel_rfl)).trans f3
          have f12 := (hp 12 (by kernel_rfl)).trans f12
          clear hp
          obtain ⟨ok_13, f13, hk⟩ := dB_elim hk
          obtain ⟨end_14, f14, hk⟩ := dI_elim hk
          refine EWP.seqC (fun e h => e 3 = Value.int .i64 budget_3 ∧ e 12 = Value.pointer (some s_12) ∧ e 13 = Value.bool ok_13 ∧ e 14 = Value.int .i64 end_14 ∧ ref44_Match_b8 budget_3 s_12 ok_13 end_14 Q h) ?_ ?_
          · have he : upd e 12 (Value.pointer (some s_12)) = e := by rw [upd_self f12]
            refine EWP.seqR (fun e h => dB (e 31) fun t31 => if t31 = true then (ref44_Match_b7 budget_3 Q h) else (ref44_Match_b8 budget_3 s_12 ok_13 end_14 Q h)) ?_ ?_ ?_
            · kernel_rfl
            · rw [← he]
              exact eqMp (by as_aux_lemma => kernel_rfl : _ = ref44_Match_b6 budget_3 s_12 ok_13 end_14 Q h) hk
            · intro e h hp hk
              have f3 := (hp 3 (by kernel_rfl)).trans f3
              have f12 := (hp 12 (by kernel_rfl)).trans f12
              have f13 := (hp 13 (by kernel_rfl)).trans f13
              have f14 := (hp 14 (by kernel_rfl)).trans f14
              clear hp
              obtain ⟨t31, f31, hk⟩ := dB_elim hk
              have fc : eev e (.tmp 31) = .bool t31 := f31
              refine EWP.condI fc hk ?_ ?_
              · intro hk
                have he : upd e 3 (Value.int .i64 budget_3) = e := by rw [upd_self f3]
                refine EWP.seqR (fun e h => dB (e 8) fun t8 => dI .i64 (e 9) fun t9 => dI .i64 (e 10) fun t10 => dI .i64 (e 11) fun t11 => Q (Value.tuple #[Value.bool t8, Value.int .i64 t9, Value.int .i64 t10, Value.int .i64 t11]) h) ?_ ?_ ?_
                · kernel_rfl
                · rw [← he]
                  exact eqMp (by as_aux_lemma => kernel_rfl : _ = ref44_Match_b7 budget_3 Q h) hk
                · intro e h hp hk
                  clear hp
                  obtain ⟨t8, f8, hk⟩ := dB_elim hk
                  obtain ⟨t9, f9, hk⟩ := dI_elim hk
                  obtain ⟨t10, f10, hk⟩ := dI_elim hk
                  obtain ⟨t11, f11, hk⟩ := dI_elim hk
                  refine EWP.ret ?_
                  have he : upd (upd (upd (upd e 8 (Value.bool t8)) 9 (Value.int .i64 t9)) 10 (Value.int .i64 t10)) 11 (Value.int .i64 t11) = e := by rw [upd_self f8, upd_self f9, upd_self f10, upd_self f11]
                  refine (show _ ∧ _ from ⟨rfl, ?_⟩)
                  rw [← he]
                  exact eqMp (by as_aux_lemma => kernel_rfl : _ = (Q (Value.tuple #[Value.bool t8, Value.int .i64 t9, Value.int .i64 t10, Value.int .i64 t11]) h)) hk
              · intro hk
                refine EWP.skip ?_
                exact (show _ ∧ _ from ⟨rfl, f3, f12, f13, f14, hk⟩)
          · rintro e h ⟨f3, f12, f13, f14, hk⟩
            have he : upd (upd (upd (upd e 3 (Value.int .i64 budget_3)) 12 (Value.pointer (some s_12))) 13 (Value.bool ok_13)) 14 (Value.int .i64 end_14) = e := by rw [upd_self f3, upd_self f12, upd_self f13, upd_self f14]
            refine EWP.seqD (fun e h => dB (e 8) fun t8 => dI .i64 (e 9) fun t9 => dI .i64 (e 10) fun t10 => dI .i64 (e 11) fun t11 => Q (Value.tuple #[Value.bool t8, Value.int .i64 t9, Value.int .i64 t10, Value.int .i64 t11]) h) ?_ ?_ ?_ ?_
            · kernel_rfl
            · kernel_rfl
            · rw [← he]
              exact eqMp (by as_aux_lemma => kernel_rfl : _ = ref44_Match_b8 budget_3 s_12 ok_13 end_14 Q h) hk
            · intro e h hp hk
              clear hp
              obtain ⟨t8, f8, hk⟩ := dB_elim hk
              obtain ⟨t9, f9, hk⟩ := dI_elim hk
              obtain ⟨t10, f10, hk⟩ := dI_elim hk
              obtain ⟨t11, f11, hk⟩ := dI_elim hk
              refine EWP.ret ?_
              have he : upd (upd (upd (upd e 8 (Value.bool t8)) 9 (Value.int .i64 t9)) 10 (Value.int .i64 t10)) 11 (Value.int .i64 t11) = e := by rw [upd_self f8, upd_self f9, upd_self f10, upd_self f11]
              refine (show _ ∧ _ from ⟨rfl, ?_⟩)
              rw [← he]
              exact eqMp (by as_aux_lemma => kernel_rfl : _ = (Q (Value.tuple #[Value.bool t8, Value.int .i64 t9, Value.int .i64 t10, Value.int .i64 t11]) h)) hk
theorem ref44_Match_s (l_0a : Option Addr) (l_0n : Nat) (l_0c : Nat) (t_1a : Option Addr) (t_1n : Nat) (t_1c : Nat) (data_2 : ByteArray) (budget_3 : Int) {Q : Value → Heap → Prop} {h : Heap} (hk : ref44_Match_v l_0a l_0n l_0c t_1a t_1n t_1c data_2 budget_3 Q h) : CallT Try.prog fn_ref44_Match #[Value.slice l_0a l_0n l_0c, Value.slice t_1a t_1n t_1c, Value.string data_2, Value.int .i64 budget_3] h Q := by
  obtain ⟨c, hb, he⟩ := ref44_Match_e l_0a l_0n l_0c t_1a t_1n t_1c data_2 budget_3 Q h hk
  exact callT_of (N := 41) Try.func18 hb rfl (Try.call18 _) (Nat.le_of_ble_eq_true rfl) he
/-! ### intrusion/content.small -/
def content_small_b3 (c_0 : Int) (Q : Value → Heap → Prop) (h : Heap) : Prop :=
  Q (Value.int .u8 (IntKind.wrap .u8 ((IntKind.wrap .u8 (c_0 + (97 : Int))) - (65 : Int)))) h
def content_small_b4 (c_0 : Int) (Q : Value → Heap → Prop) (h : Heap) : Prop :=
  Q (Value.int .u8 c_0) h
def content_small_b2 (c_0 : Int) (Q : Value → Heap → Prop) (h : Heap) : Prop :=
  if (decide (c_0 ≥ (65 : Int))) = true then (if (decide (c_0 ≤ (90 : Int))) = true then (content_small_b3 c_0 Q h) else (content_small_b4 c_0 Q h)) else (content_small_b4 c_0 Q h)
def content_small_b1 (c_0 : Int) (Q : Value → Heap → Prop) (h : Heap) : Prop :=
  content_small_b2 c_0 Q h
def content_small_v (c_0 : Int) (Q : Value → Heap → Prop) (h : Heap) : Prop :=
  content_small_b1 c_0 Q h
set_option maxRecDepth 100000 in
theorem content_small_e (c_0 : Int) (Q : Value → Heap → Prop) (h : Heap) (hk : content_small_v c_0 Q h) :
    ∃ c, Try.f19.body = some c ∧ EWP Try.prog 13 c (fnPost Try.prog Try.f19 Q) (env0 #[Value.int .u8 c_0]) [] h := by
  refine ⟨_, rfl, ?_⟩
  have hk : content_small_b1 c_0 Q h := hk
  have f0 : env0 #[Value.int .u8 c_0] 0 = Value.int .u8 c_0 := rfl
  generalize env0 #[Value.int .u8 c_0] = e at *
  refine EWP.seqR (fun e h => content_small_b2 c_0 Q h) ?_ ?_ ?_
  · kernel_rfl
  · skip
    exact eqMp (by as_aux_lemma => kernel_rfl : _ = content_small_b1 c_0 Q h) hk
  · intro e h hp hk
    have f0 := (hp 0 (by kernel_rfl)).trans f0
    clear hp
    refine EWP.seqC (fun e h => e 0 = Value.int .u8 c_0 ∧ content_small_b4 c_0 Q h) ?_ ?_
    · have he : upd e 0 (Value.int .u8 c_0) = e := by rw [upd_self f0]
      refine EWP.seqR (fun e h => dB (e 8) fun t8 => if t8 = true then (content_small_b3 c_0 Q h) else (content_small_b4 c_0 Q h)) ?_ ?_ ?_
      · kernel_rfl
      · rw [← he]
        exact eqMp (by as_aux_lemma => kernel_rfl : _ = content_small_b2 c_0 Q h) hk
      · intro e h hp hk
        have f0 := (hp 0 (by kernel_rfl)).trans f0
        clear hp
        obtain ⟨t8, f8, hk⟩ := dB_elim hk
        have fc : eev e (.tmp 8) = .bool t8 := f8
        refine EWP.condI fc hk ?_ ?_
        · intro hk
          have he : upd e 0 (Value.int .u8 c_0) = e := by rw [upd_self f0]
          refine EWP.seqR (fun e h => dI .u8 (e 2) fun t2 => Q (Value.int .u8 t2) h) ?_ ?_ ?_
          · kernel_rfl
          · rw [← he]
            exact eqMp (by as_aux_lemma => kernel_rfl : _ = content_small_b3 c_0 Q h) hk
          · intro e h hp hk
            clear hp
            obtain ⟨t2, f2, hk⟩ := dI_elim hk
            refine EWP.ret ?_
            have he : upd e 2 (Value.int .u8 t2) = e := by rw [upd_self f2]
            refine (show _ ∧ _ from ⟨rfl, ?_⟩)
            rw [← he]
            exact eqMp (by as_aux_lemma => kernel_rfl : _ = (Q (Value.int .u8 t2) h)) hk
        · intro hk
          refine EWP.skip ?_
          exact (show _ ∧ _ from ⟨rfl, f0, hk⟩)
    · rintro e h ⟨f0, hk⟩
      have he : upd e 0 (Value.int .u8 c_0) = e := by rw [upd_self f0]
      refine EWP.seqR (fun e h => dI .u8 (e 2) fun t2 => Q (Value.int .u8 t2) h) ?_ ?_ ?_
      · kernel_rfl
      · rw [← he]
        exact eqMp (by as_aux_lemma => kernel_rfl : _ = content_small_b4 c_0 Q h) hk
      · intro e h hp hk
        clear hp
        obtain ⟨t2, f2, hk⟩ := dI_elim hk
        refine EWP.ret ?_
        have he : upd e 2 (Value.int .u8 t2) = e := by rw [upd_self f2]
        refine (show _ ∧ _ from ⟨rfl, ?_⟩)
        rw [← he]
        exact eqMp (by as_aux_lemma => kernel_rfl : _ = (Q (Value.int .u8 t2) h)) hk
theorem content_small_s (c_0 : Int) {Q : Value → Heap → Prop} {h : Heap} (hk : content_small_v c_0 Q h) : CallT Try.prog fn_content_small #[Value.int .u8 c_0] h Q := by
  obtain ⟨c, hb, he⟩ := content_small_e c_0 Q h hk
  exact callT_of (N := 13) Try.func19 hb rfl (Try.call19 _) (Nat.le_of_ble_eq_true rfl) he
/-! ### intrusion/intrusionref44.small -/
def ref44_small_b3 (c_0 : Int) (Q : Value → Heap → Prop) (h : Heap) : Prop :=
  Q (Value.int .u8 (IntKind.wrap .u8 (c_0 + (32 : Int)))) h
def ref44_small_b4 (c_0 : Int) (Q : Value → Heap → Prop) (h : Heap) : Prop :=
  Q (Value.int .u8 c_0) h
def ref44_small_b2 (c_0 : Int) (Q : Value → Heap → Prop) (h : Heap) : Prop :=
  if (decide (c_0 ≥ (65 : Int))) = true then (if (decide (c_0 ≤ (90 : Int))) = true then (ref44_small_b3 c_0 Q h) else (ref44_small_b4 c_0 Q h)) else (ref44_small_b4 c_0 Q h)
def ref44_small_b1 (c_0 : Int) (Q : Value → Heap → Prop) (h : Heap) : Prop :=
  ref44_small_b2 c_0 Q h
def ref44_small_v (c_0 : Int) (Q : Value → Heap → Prop) (h : Heap) : Prop :=
  ref44_small_b1 c_0 Q h
set_option maxRecDepth 100000 in
theorem ref44_small_e (c_0 : Int) (Q : Value → Heap → Prop) (h : Heap) (hk : ref44_small_v c_0 Q h) :
    ∃ c, Try.f20.body = some c ∧ EWP Try.prog 12 c (fnPost Try.prog Try.f20 Q) (env0 #[Value.int .u8 c_0]) [] h := by
  refine ⟨_, rfl, ?_⟩
  have hk : ref44_small_b1 c_0 Q h := hk
  have f0 : env0 #[Value.int .u8 c_0] 0 = Value.int .u8 c_0 := rfl
  generalize env0 #[Value.int .u8 c_0] = e at *
  refine EWP.seqR (fun e h => ref44_small_b2 c_0 Q h) ?_ ?_ ?_
  · kernel_rfl
  · skip
    exact eqMp (by as_aux_lemma => kernel_rfl : _ = ref44_small_b1 c_0 Q h) hk
  · intro e h hp hk
    have f0 := (hp 0 (by kernel_rfl)).trans f0
    clear hp
    refine EWP.seqC (fun e h => e 0 = Value.int .u8 c_0 ∧ ref44_small_b4 c_0 Q h) ?_ ?_
    · have he : upd e 0 (Value.int .u8 c_0) = e := by rw [upd_self f0]
      refine EWP.seqR (fun e h => dB (e 8) fun t8 => if t8 = true then (ref44_small_b3 c_0 Q h) else (ref44_small_b4 c_0 Q h)) ?_ ?_ ?_
      · kernel_rfl
      · rw [← he]
        exact eqMp (by as_aux_lemma => kernel_rfl : _ = ref44_small_b2 c_0 Q h) hk
      · intro e h hp hk
        have f0 := (hp 0 (by kernel_rfl)).trans f0
        clear hp
        obtain ⟨t8, f8, hk⟩ := dB_elim hk
        have fc : eev e (.tmp 8) = .bool t8 := f8
        refine EWP.condI fc hk ?_ ?_
        · intro hk
          have he : upd e 0 (Value.int .u8 c_0) = e := by rw [upd_self f0]
          refine EWP.seqR (fun e h => dI .u8 (e 2) fun t2 => Q (Value.int .u8 t2) h) ?_ ?_ ?_
          · kernel_rfl
          · rw [← he]
            exact eqMp (by as_aux_lemma => kernel_rfl : _ = ref44_small_b3 c_0 Q h) hk
          · intro e h hp hk
            clear hp
            obtain ⟨t2, f2, hk⟩ := dI_elim hk
            refine EWP.ret ?_
            have he : upd e 2 (Value.int .u8 t2) = e := by rw [upd_self f2]
            refine (show _ ∧ _ from ⟨rfl, ?_⟩)
            rw [← he]
            exact eqMp (by as_aux_lemma => kernel_rfl : _ = (Q (Value.int .u8 t2) h)) hk
        · intro hk
          refine EWP.skip ?_
          exact (show _ ∧ _ from ⟨rfl, f0, hk⟩)
    · rintro e h ⟨f0, hk⟩
      have he : upd e 0 (Value.int .u8 c_0) = e := by rw [upd_self f0]
      refine EWP.seqR (fun e h => dI .u8 (e 2) fun t2 => Q (Value.int .u8 t2) h) ?_ ?_ ?_
      · kernel_rfl
      · rw [← he]
        exact eqMp (by as_aux_lemma => kernel_rfl : _ = ref44_small_b4 c_0 Q h) hk
      · intro e h hp hk
        clear hp
        obtain ⟨t2, f2, hk⟩ := dI_elim hk
        refine EWP.ret ?_
        have he : upd e 2 (Value.int .u8 t2) = e := by rw [upd_self f2]
        refine (show _ ∧ _ from ⟨rfl, ?_⟩)
        rw [← he]
        exact eqMp (by as_aux_lemma => kernel_rfl : _ = (Q (Value.int .u8 t2) h)) hk
theorem ref44_small_s (c_0 : Int) {Q : Value → Heap → Prop} {h : Heap} (hk : ref44_small_v c_0 Q h) : CallT Try.prog fn_ref44_small #[Value.int .u8 c_0] h Q := by
  obtain ⟨c, hb, he⟩ := ref44_small_e c_0 Q h hk
  exact callT_of (N := 12) Try.func20 hb rfl (Try.call20 _) (Nat.le_of_ble_eq_true rfl) he
/-! ### (*intrusion/content.search).from -/
def content_search_from_b9 (Q : Value → Heap → Prop) (Kn4 : (Int) → Heap → Prop) (h : Heap) : Prop :=
  Q (Value.tuple #[Value.int .i64 (0 : Int), Value.bool false]) h
def content_search_from_b10 (cursor_2 : Int) (s_3 : Addr) (t26a : Option Addr) (t26n : Nat) (t26c : Nat) (t27 : Int) (t28 : Int) (Q : Value → Heap → Prop) (Kn4 : (Int) → Heap → Prop) (h : Heap) : Prop :=
  Kn4 (IntKind.wrap .i64 (t28 + (1 : Int))) h
def content_search_from_b8 (cursor_2 : Int) (s_3 : Addr) (t_9 : Addr) (t26a : Option Addr) (t26n : Nat) (t26c : Nat) (t27 : Int) (t28 : Int) (Q : Value → Heap → Prop) (Kn4 : (Int) → Heap → Prop) (h : Heap) : Prop :=
  ldI h t_9 .i64 fun t32_0 => ldI h (Addr.add t_9 1) .i64 fun t32_1 => ldI h (Addr.add t_9 2) .i64 fun t32_2 => ldI h (Addr.add t_9 3) .i64 fun t32_3 => ldB h (Addr.add t_9 4) fun t32_4 => ldB h (Addr.add t_9 5) fun t32_5 => ldB h (Addr.add t_9 6) fun t32_6 => ldP h s_3 fun t33 => nn t33 fun t34 => ldS h (Addr.add t34 2) fun t36 => CallT Try.prog fn_content_Test #[Value.agg #[Value.int .i64 t32_0, Value.int .i64 t32_1, Value.int .i64 t32_2, Value.int .i64 t32_3, Value.bool t32_4, Value.bool t32_5, Value.bool t32_6], Value.string t36, Value.int .i64 cursor_2] h fun v h5 => ∃ t38 : Bool, v = Value.bool t38 ∧ if (!t38) = true then (content_search_from_b9 Q Kn4 h5) else (content_search_from_b10 cursor_2 s_3 t26a t26n t26c t27 t28 Q Kn4 h5)
def content_search_from_b7 (cursor_2 : Int) (s_3 : Addr) (t26a : Option Addr) (t26n : Nat) (t26c : Nat) (t27 : Int) (t28 : Int) (Q : Value → Heap → Prop) (Kn4 : (Int) → Heap → Prop) (h : Heap) : Prop :=
  idxA t28 t26n (nn t26a fun t30 => ldI h (Addr.add t30 ((t28).toNat * 7)) .i64 fun t31_0 => ldI h (Addr.add (Addr.add t30 ((t28).toNat * 7)) 1) .i64 fun t31_1 => ldI h (Addr.add (Addr.add t30 ((t28).toNat * 7)) 2) .i64 fun t31_2 => ldI h (Addr.add (Addr.add t30 ((t28).toNat * 7)) 3) .i64 fun t31_3 => ldB h (Addr.add (Addr.add t30 ((t28).toNat * 7)) 4) fun t31_4 => ldB h (Addr.add (Addr.add t30 ((t28).toNat * 7)) 5) fun t31_5 => ldB h (Addr.add (Addr.add t30 ((t28).toNat * 7)) 6) fun t31_6 => alV h (.cells #[Value.int .i64 (0 : Int), Value.int .i64 (0 : Int), Value.int .i64 (0 : Int), Value.int .i64 (0 : Int), Value.bool false, Value.bool false, Value.bool false] 34) fun t9 h3 => stN h3 t9 [Value.int .i64 t31_0, Value.int .i64 t31_1, Value.int .i64 t31_2, Value.int .i64 t31_3, Value.bool t31_4, Value.bool t31_5, Value.bool t31_6] 0 fun h4 => content_search_from_b8 cursor_2 s_3 t9 t26a t26n t26c t27 t28 Q Kn4 h4)
def content_search_from_b6 (cursor_2 : Int) (s_3 : Addr) (t26a : Option Addr) (t26n : Nat) (t26c : Nat) (t27 : Int) (t28 : Int) (Q : Value → Heap → Prop) (Kn4 : (Int) → Heap → Prop) (h : Heap) : Prop :=
  content_search_from_b7 cursor_2 s_3 t26a t26n t26c t27 t28 Q Kn4 h
def content_search_from_b11 (cursor_2 : Int) (Q : Value → Heap → Prop) (h : Heap) : Prop :=
  Q (Value.tuple #[Value.int .i64 cursor_2, Value.bool true]) h
def content_search_from_b5 (cursor_2 : Int) (s_3 : Addr) (t26a : Option Addr) (t26n : Nat) (t26c : Nat) (t27 : Int) (t28 : Int) (Q : Value → Heap → Prop) (Kn4 : (Int) → Heap → Prop) (h : Heap) : Prop :=
  if (decide (t28 < t27)) = true then (content_search_from_b6 cursor_2 s_3 t26a t26n t26c t27 t28 Q Kn4 h) else (content_search_from_b11 cursor_2 Q h)
def content_search_from_l4 (cursor_2 : Int) (s_3 : Addr) (t26a : Option Addr) (t26n : Nat) (t26c : Nat) (t27 : Int) (Q : Value → Heap → Prop) (t28 : Int) (h : Heap) (Kn4 : (Int) → Heap → Prop) : Prop :=
  content_search_from_b5 cursor_2 s_3 t26a t26n t26c t27 t28 Q Kn4 h
def content_search_from_b3 (cursor_2 : Int) (s_3 : Addr) (Q : Value → Heap → Prop) (h : Heap) : Prop :=
  ldP h s_3 fun t23 => nn t23 fun t24 => ldL h (Addr.add t24 1) fun t26a t26n t26c => LoopV (fun (s : Int) h Kn => content_search_from_l4 cursor_2 s_3 t26a t26n t26c ((t26n : Nat) : Int) Q s h Kn) 0 h
def content_search_from_b18 (cursor_2 : Int) (s_3 : Addr) (i_4 : Addr) (Q : Value → Heap → Prop) (Kn15 : (Addr × Addr × Int × Addr × Addr × Addr × Addr) → Heap → Prop) (h : Heap) : Prop :=
  ldP h s_3 fun t66 => ldI h i_4 .i64 fun t67 => CallT Try.prog fn_content_search_from #[Value.pointer t66, Value.int .i64 (IntKind.wrap .i64 (t67 + (1 : Int))), Value.int .i64 cursor_2] h fun v h11 => ∃ t70_0 : Int, ∃ t70_1 : Bool, v = Value.tuple #[Value.int .i64 t70_0, Value.bool t70_1] ∧ Q (Value.tuple #[Value.int .i64 t70_0, Value.bool t70_1]) h11
def content_search_from_b19 (Q : Value → Heap → Prop) (Kn15 : (Addr × Addr × Int × Addr × Addr × Addr × Addr) → Heap → Prop) (h : Heap) : Prop :=
  Q (Value.tuple #[Value.int .i64 (0 : Int), Value.bool false]) h
def content_search_from_b17 (cursor_2 : Int) (s_3 : Addr) (i_4 : Addr) (c_10 : Addr) (Q : Value → Heap → Prop) (Kn15 : (Addr × Addr × Int × Addr × Addr × Addr × Addr) → Heap → Prop) (h : Heap) : Prop :=
  ldB h (Addr.add c_10 2) fun t65 => if t65 = true then (content_search_from_b18 cursor_2 s_3 i_4 Q Kn15 h) else (content_search_from_b19 Q Kn15 h)
def content_search_from_b22 (Q : Value → Heap → Prop) (Kn15 : (Addr × Addr × Int × Addr × Addr × Addr × Addr) → Heap → Prop) (h : Heap) : Prop :=
  Q (Value.tuple #[Value.int .i64 (0 : Int), Value.bool false]) h
def content_search_from_b24 (end_14 : Int) (Q : Value → Heap → Prop) (Kn15 : (Addr × Addr × Int × Addr × Addr × Addr × Addr) → Heap → Prop) (h : Heap) : Prop :=
  Q (Value.tuple #[Value.int .i64 end_14, Value.bool true]) h
def content_search_from_b25 (cursor_2 : Int) (s_3 : Addr) (i_4 : Addr) (c_10 : Addr) (at_11 : Addr) (last_12 : Int) (step_13_0 : Addr) (step_13_1 : Addr) (step_13_2 : Addr) (step_13_3 : Addr) (Q : Value → Heap → Prop) (Kn15 : (Addr × Addr × Int × Addr × Addr × Addr × Addr) → Heap → Prop) (h : Heap) : Prop :=
  ldI h at_11 .i64 fun t93 => st1 h at_11 (Value.int .i64 (IntKind.wrap .i64 (t93 + (1 : Int)))) fun h13 => Kn15 (c_10, at_11, last_12, step_13_0, step_13_1, step_13_2, step_13_3) h13
def content_search_from_b23 (cursor_2 : Int) (s_3 : Addr) (i_4 : Addr) (c_10 : Addr) (at_11 : Addr) (last_12 : Int) (step_13_0 : Addr) (step_13_1 : Addr) (step_13_2 : Addr) (step_13_3 : Addr) (end_14 : Int) (ok_15 : Bool) (Q : Value → Heap → Prop) (Kn15 : (Addr × Addr × Int × Addr × Addr × Addr × Addr) → Heap → Prop) (h : Heap) : Prop :=
  if ok_15 = true then (content_search_from_b24 end_14 Q Kn15 h) else (content_search_from_b25 cursor_2 s_3 i_4 c_10 at_11 last_12 step_13_0 step_13_1 step_13_2 step_13_3 Q Kn15 h)
def content_search_from_b21 (cursor_2 : Int) (s_3 : Addr) (i_4 : Addr) (c_10 : Addr) (at_11 : Addr) (last_12 : Int) (step_13_0 : Addr) (step_13_1 : Addr) (step_13_2 : Addr) (step_13_3 : Addr) (end_14 : Int) (ok_15 : Bool) (Q : Value → Heap → Prop) (Kn15 : (Addr × Addr × Int × Addr × Addr × Addr × Addr) → Heap → Prop) (h : Heap) : Prop :=
  ldP h s_3 fun t79 => nn t79 fun t80 => ldB h (Addr.add t80 5) fun t82 => if t82 = true then (content_search_from_b22 Q Kn15 h) else (ldB h (Addr.add c_10 2) fun t85 => if t85 = true then (if ok_15 = true then (content_search_from_b22 Q Kn15 h) else (content_search_from_b23 cursor_2 s_3 i_4 c_10 at_11 last_12 step_13_0 step_13_1 step_13_2 step_13_3 end_14 ok_15 Q Kn15 h)) else (content_search_from_b23 cursor_2 s_3 i_4 c_10 at_11 last_12 step_13_0 step_13_1 step_13_2 step_13_3 end_14 ok_15 Q Kn15 h))
def content_search_from_b20 (cursor_2 : Int) (s_3 : Addr) (i_4 : Addr) (c_10 : Addr) (at_11 : Addr) (last_12 : Int) (step_13_0 : Addr) (step_13_1 : Addr) (step_13_2 : Addr) (step_13_3 : Addr) (Q : Value → Heap → Prop) (Kn15 : (Addr × Addr × Int × Addr × Addr × Addr × Addr) → Heap → Prop) (h : Heap) : Prop :=
  CallT Try.prog fn_content_search_from_1 #[Value.pointer (some step_13_0), Value.pointer (some step_13_1), Value.pointer (some step_13_2), Value.pointer (some step_13_3)] h fun v h12 => ∃ t75_0 : Int, ∃ t75_1 : Bool, v = Value.tuple #[Value.int .i64 t75_0, Value.bool t75_1] ∧ content_search_from_b21 cursor_2 s_3 i_4 c_10 at_11 last_12 step_13_0 step_13_1 step_13_2 step_13_3 t75_0 t75_1 Q Kn15 h12
def content_search_from_b16 (cursor_2 : Int) (s_3 : Addr) (i_4 : Addr) (c_10 : Addr) (at_11 : Addr) (last_12 : Int) (step_13_0 : Addr) (step_13_1 : Addr) (step_13_2 : Addr) (step_13_3 : Addr) (Q : Value → Heap → Prop) (Kn15 : (Addr × Addr × Int × Addr × Addr × Addr × Addr) → Heap → Prop) (h : Heap) : Prop :=
  ldI h at_11 .i64 fun t61 => if (decide (t61 > last_12)) = true then (content_search_from_b17 cursor_2 s_3 i_4 c_10 Q Kn15 h) else (content_search_from_b20 cursor_2 s_3 i_4 c_10 at_11 last_12 step_13_0 step_13_1 step_13_2 step_13_3 Q Kn15 h)
def content_search_from_l15 (cursor_2 : Int) (s_3 : Addr) (i_4 : Addr) (Q : Value → Heap → Prop) (c_10 : Addr) (at_11 : Addr) (last_12 : Int) (step_13_0 : Addr) (step_13_1 : Addr) (step_13_2 : Addr) (step_13_3 : Addr) (h : Heap) (Kn15 : (Addr × Addr × Int × Addr × Addr × Addr × Addr) → Heap → Prop) : Prop :=
  content_search_from_b16 cursor_2 s_3 i_4 c_10 at_11 last_12 step_13_0 step_13_1 step_13_2 step_13_3 Q Kn15 h
def content_search_from_b14 (cursor_2 : Int) (s_3 : Addr) (i_4 : Addr) (c_10 : Addr) (at_11 : Addr) (last_12 : Int) (Q : Value → Heap → Prop) (h : Heap) : Prop :=
  LoopV (fun (s : Addr × Addr × Int × Addr × Addr × Addr × Addr) h Kn => content_search_from_l15 cursor_2 s_3 i_4 Q s.1 s.2.1 s.2.2.1 s.2.2.2.1 s.2.2.2.2.1 s.2.2.2.2.2.1 s.2.2.2.2.2.2 h Kn) (c_10, at_11, last_12, s_3, c_10, at_11, i_4) h
def content_search_from_b13 (cursor_2 : Int) (s_3 : Addr) (i_4 : Addr) (c_10 : Addr) (Q : Value → Heap → Prop) (h : Heap) : Prop :=
  ldS h c_10 fun t50_0 => ldB h (Addr.add c_10 1) fun t50_1 => ldB h (Addr.add c_10 2) fun t50_2 => ldB h (Addr.add c_10 3) fun t50_3 => ldI h (Addr.add c_10 4) .i64 fun t50_4 => ldI h (Addr.add c_10 5) .i64 fun t50_5 => ldB h (Addr.add c_10 6) fun t50_6 => ldP h s_3 fun t51 => nn t51 fun t52 => ldS h (Addr.add t52 2) fun t54 => (CallT Try.prog fn_content_Bounds #[Value.agg #[Value.string t50_0, Value.bool t50_1, Value.bool t50_2, Value.bool t50_3, Value.int .i64 t50_4, Value.int .i64 t50_5, Value.bool t50_6], Value.int .i64 ((t54.size : Nat) : Int), Value.int .i64 cursor_2] h fun v h8 => ∃ t57_0 : Int, ∃ t57_1 : Int, v = Value.tuple #[Value.int .i64 t57_0, Value.int .i64 t57_1] ∧ alV h8 (.cells #[Value.int .i64 (0 : Int)] 3) fun t11 h9 => (ldS h9 c_10 fun t950_0 => ldB h9 (Addr.add c_10 1) fun t950_1 => ldB h9 (Addr.add c_10 2) fun t950_2 => ldB h9 (Addr.add c_10 3) fun t950_3 => ldI h9 (Addr.add c_10 4) .i64 fun t950_4 => ldI h9 (Addr.add c_10 5) .i64 fun t950_5 => ldB h9 (Addr.add c_10 6) fun t950_6 => Value.agg #[Value.string t950_0, Value.bool t950_1, Value.bool t950_2, Value.bool t950_3, Value.int .i64 t950_4, Value.int .i64 t950_5, Value.bool t950_6] = Value.agg #[Value.string t50_0, Value.bool t50_1, Value.bool t50_2, Value.bool t50_3, Value.int .i64 t50_4, Value.int .i64 t50_5, Value.bool t50_6]) ∧ (ldP h9 s_3 fun t951 => Value.pointer t951 = Value.pointer t51) ∧ (ldS h9 (Addr.add t52 2) fun t954 => Value.string t954 = Value.string t54) ∧ st1 h9 t11 (Value.int .i64 t57_0) fun h10 => content_search_from_b14 cursor_2 s_3 i_4 c_10 t11 t57_1 Q h10) ∧ (alV h (.cells #[Value.int .i64 (0 : Int)] 3) fun t11 h14 => (ldS h14 c_10 fun t950_0 => ldB h14 (Addr.add c_10 1) fun t950_1 => ldB h14 (Addr.add c_10 2) fun t950_2 => ldB h14 (Addr.add c_10 3) fun t950_3 => ldI h14 (Addr.add c_10 4) .i64 fun t950_4 => ldI h14 (Addr.add c_10 5) .i64 fun t950_5 => ldB h14 (Addr.add c_10 6) fun t950_6 => Value.agg #[Value.string t950_0, Value.bool t950_1, Value.bool t950_2, Value.bool t950_3, Value.int .i64 t950_4, Value.int .i64 t950_5, Value.bool t950_6] = Value.agg #[Value.string t50_0, Value.bool t50_1, Value.bool t50_2, Value.bool t50_3, Value.int .i64 t50_4, Value.int .i64 t50_5, Value.bool t50_6]) ∧ (ldP h14 s_3 fun t951 => Value.pointer t951 = Value.pointer t51) ∧ (ldS h14 (Addr.add t52 2) fun t954 => Value.string t954 = Value.string t54) ∧ CallT Try.prog fn_content_Bounds #[Value.agg #[Value.string t50_0, Value.bool t50_1, Value.bool t50_2, Value.bool t50_3, Value.int .i64 t50_4, Value.int .i64 t50_5, Value.bool t50_6], Value.int .i64 ((t54.size : Nat) : Int), Value.int .i64 cursor_2] h14 fun v h15 => ∃ t57_0 : Int, ∃ t57_1 : Int, v = Value.tuple #[Value.int .i64 t57_0, Value.int .i64 t57_1] ∧ st1 h15 t11 (Value.int .i64 t57_0) fun h16 => content_search_from_b14 cursor_2 s_3 i_4 c_10 t11 t57_1 Q h16)
def content_search_from_b12 (cursor_2 : Int) (s_3 : Addr) (i_4 : Addr) (Q : Value → Heap → Prop) (h : Heap) : Prop :=
  ldP h s_3 fun t42 => nn t42 fun t43 => ldL h t43 fun t45a t45n t45c => ldI h i_4 .i64 fun t46 => idxA t46 t45n (nn t45a fun t47 => ldS h (Addr.add t47 ((t46).toNat * 7)) fun t48_0 => ldB h (Addr.add (Addr.add t47 ((t46).toNat * 7)) 1) fun t48_1 => ldB h (Addr.add (Addr.add t47 ((t46).toNat * 7)) 2) fun t48_2 => ldB h (Addr.add (Addr.add t47 ((t46).toNat * 7)) 3) fun t48_3 => ldI h (Addr.add (Addr.add t47 ((t46).toNat * 7)) 4) .i64 fun t48_4 => ldI h (Addr.add (Addr.add t47 ((t46).toNat * 7)) 5) .i64 fun t48_5 => ldB h (Addr.add (Addr.add t47 ((t46).toNat * 7)) 6) fun t48_6 => alV h (.cells #[Value.string (⟨#[]⟩ : ByteArray), Value.bool false, Value.bool false, Value.bool false, Value.int .i64 (0 : Int), Value.int .i64 (0 : Int), Value.bool false] 23) fun t10 h6 => (ldP h6 s_3 fun t942 => Value.pointer t942 = Value.pointer t42) ∧ (ldL h6 t43 fun t945a t945n t945c => Value.slice t945a t945n t945c = Value.slice t45a t45n t45c) ∧ (ldI h6 i_4 .i64 fun t946 => Value.int .i64 t946 = Value.int .i64 t46) ∧ (ldS h6 (Addr.add t47 ((t46).toNat * 7)) fun t948_0 => ldB h6 (Addr.add (Addr.add t47 ((t46).toNat * 7)) 1) fun t948_1 => ldB h6 (Addr.add (Addr.add t47 ((t46).toNat * 7)) 2) fun t948_2 => ldB h6 (Addr.add (Addr.add t47 ((t46).toNat * 7)) 3) fun t948_3 => ldI h6 (Addr.add (Addr.add t47 ((t46).toNat * 7)) 4) .i64 fun t948_4 => ldI h6 (Addr.add (Addr.add t47 ((t46).toNat * 7)) 5) .i64 fun t948_5 => ldB h6 (Addr.add (Addr.add t47 ((t46).toNat * 7)) 6) fun t948_6 => Value.agg #[Value.string t948_0, Value.bool t948_1, Value.bool t948_2, Value.bool t948_3, Value.int .i64 t948_4, Value.int .i64 t948_5, Value.bool t948_6] = Value.agg #[Value.string t48_0, Value.bool t48_1, Value.bool t48_2, Value.bool t48_3, Value.int .i64 t48_4, Value.int .i64 t48_5, Value.bool t48_6]) ∧ stN h6 t10 [Value.string t48_0, Value.bool t48_1, Value.bool t48_2, Value.bool t48_3, Value.int .i64 t48_4, Value.int .i64 t48_5, Value.bool t48_6] 0 fun h7 => content_search_from_b13 cursor_2 s_3 i_4 t10 Q h7)
def content_search_from_b2 (cursor_2 : Int) (s_3 : Addr) (i_4 : Addr) (Q : Value → Heap → Prop) (h : Heap) : Prop :=
  ldI h i_4 .i64 fun t16 => ldP h s_3 fun t17 => nn t17 fun t18 => ldL h t18 fun t20a t20n t20c => if (t16 == ((t20n : Nat) : Int)) = true then (content_search_from_b3 cursor_2 s_3 Q h) else (content_search_from_b12 cursor_2 s_3 i_4 Q h)
def content_search_from_b1 (s_0 : Option Addr) (i_1 : Int) (cursor_2 : Int) (Q : Value → Heap → Prop) (h : Heap) : Prop :=
  alV h (.cells #[Value.pointer s_0] 48) fun t3 h1 => alV h1 (.cells #[Value.int .i64 i_1] 3) fun t4 h2 => content_search_from_b2 cursor_2 t3 t4 Q h2
def content_search_from_v (s_0 : Option Addr) (i_1 : Int) (cursor_2 : Int) (Q : Value → Heap → Prop) (h : Heap) : Prop :=
  content_search_from_b1 s_0 i_1 cursor_2 Q h
set_option maxRecDepth 100000 in
theorem content_search_from_e (s_0 : Option Addr) (i_1 : Int) (cursor_2 : Int) (Q : Value → Heap → Prop) (h : Heap) (hk : content_search_from_v s_0 i_1 cursor_2 Q h) :
    ∃ c, Try.f21.body = some c ∧ EWP Try.prog 95 c (fnPost Try.prog Try.f21 Q) (env0 #[Value.pointer s_0, Value.int .i64 i_1, Value.int .i64 cursor_2]) [] h := by
  refine ⟨_, rfl, ?_⟩
  have hk : content_search_from_b1 s_0 i_1 cursor_2 Q h := hk
  have f0 : env0 #[Value.pointer s_0, Value.int .i64 i_1, Value.int .i64 cursor_2] 0 = Value.pointer s_0 := rfl
  have f1 : env0 #[Value.pointer s_0, Value.int .i64 i_1, Value.int .i64 cursor_2] 1 = Value.int .i64 i_1 := rfl
  have f2 : env0 #[Value.pointer s_0, Value.int .i64 i_1, Value.int .i64 cursor_2] 2 = Value.int .i64 cursor_2 := rfl
  generalize env0 #[Value.pointer s_0, Value.int .i64 i_1, Value.int .i64 cursor_2] = e at *
  have he : upd (upd e 0 (Value.pointer s_0)) 1 (Value.int .i64 i_1) = e := by rw [upd_self f0, upd_self f1]
  refine EWP.seqR (fun e h => dA (e 3) fun s_3 => dA (e 4) fun i_4 => content_search_from_b2 cursor_2 s_3 i_4 Q h) ?_ ?_ ?_
  · kernel_rfl
  · rw [← he]
    exact eqMp (by as_aux_lemma => kernel_rfl : _ = content_search_from_b1 s_0 i_1 cursor_2 Q h) hk
  · intro e h hp hk
    have f2 := (hp 2 (by kernel_rfl)).trans f2
    clear hp
    obtain ⟨s_3, f3, hk⟩ := dA_elim hk
    obtain ⟨i_4, f4, hk⟩ := dA_elim hk
    refine EWP.scopeV (l := 0) (fun e (s : Addr × Addr × Int × Addr × Addr × Addr × Addr) => e 2 = Value.int .i64 cursor_2 ∧ e 3 = Value.pointer (some s_3) ∧ e 4 = Value.pointer (some i_4) ∧ e 10 = Value.pointer (some s.1) ∧ e 11 = Value.pointer (some s.2.1) ∧ e 12 = Value.int .i64 s.2.2.1 ∧ e 13 = Value.func (.func 23) #[] #[Value.pointer (some s.2.2.2.1), Value.pointer (some s.2.2.2.2.1), Value.pointer (some s.2.2.2.2.2.1), Value.pointer (some s.2.2.2.2.2.2)]) (body := fun (s : Addr × Addr × Int × Addr × Addr × Addr × Addr) h Kn => content_search_from_l15 cursor_2 s_3 i_4 Q s.1 s.2.1 s.2.2.1 s.2.2.2.1 s.2.2.2.2.1 s.2.2.2.2.2.1 s.2.2.2.2.2.2 h Kn) rfl ?_ (fun hfall0 => ?_)
    · rintro e ⟨c_10, at_11, last_12, step_13_0, step_13_1, step_13_2, step_13_3⟩ h Kn15 ⟨f2, f3, f4, f10, f11, f12, f13⟩ hk
      have f10 : e 10 = Value.pointer (some c_10) := f10
      have f11 : e 11 = Value.pointer (some at_11) := f11
      have f12 : e 12 = Value.int .i64 last_12 := f12
      have f13 : e 13 = Value.func (.func 23) #[] #[Value.pointer (some step_13_0), Value.pointer (some step_13_1), Value.pointer (some step_13_2), Value.pointer (some step_13_3)] := f13
      have hk : content_search_from_l15 cursor_2 s_3 i_4 Q c_10 at_11 last_12 step_13_0 step_13_1 step_13_2 step_13_3 h Kn15 := hk
      refine EWP.seqC (fun e h => e 2 = Value.int .i64 cursor_2 ∧ e 3 = Value.pointer (some s_3) ∧ e 4 = Value.pointer (some i_4) ∧ e 10 = Value.pointer (some c_10) ∧ e 11 = Value.pointer (some at_11) ∧ e 12 = Value.int .i64 last_12 ∧ e 13 = Value.func (.func 23) #[] #[Value.pointer (some step_13_0), Value.pointer (some step_13_1), Value.pointer (some step_13_2), Value.pointer (some step_13_3)] ∧ content_search_from_b20 cursor_2 s_3 i_4 c_10 at_11 last_12 step_13_0 step_13_1 step_13_2 step_13_3 Q Kn15 h) ?_ ?_
      · have he : upd (upd e 11 (Value.pointer (some at_11))) 12 (Value.int .i64 last_12) = e := by rw [upd_self f11, upd_self f12]
        refine EWP.seqR (fun e h => dB (e 63) fun t63 => if t63 = true then (content_search_from_b17 cursor_2 s_3 i_4 c_10 Q Kn15 h) else (content_search_from_b20 cursor_2 s_3 i_4 c_10 at_11 last_12 step_13_0 step_13_1 step_13_2 step_13_3 Q Kn15 h)) ?_ ?_ ?_
        · kernel_rfl
        · rw [← he]
          exact eqMp (by as_aux_lemma => kernel_rfl : _ = content_search_from_b16 cursor_2 s_3 i_4 c_10 at_11 last_12 step_13_0 step_13_1 step_13_2 step_13_3 Q Kn15 h) hk
        · intro e h hp hk
          have f2 := (hp 2 (by kernel_rfl)).trans f2
          have f3 := (hp 3 (by kernel_rfl)).trans f3
          have f4 := (hp 4 (by kernel_rfl)).trans f4
          have f10 := (hp 10 (by kernel_rfl)).trans f10
          have f11 := (hp 11 (by kernel_rfl)).trans f11
          have f12 := (hp 12 (by kernel_rfl)).trans f12
          have f13 := (hp 13 (by kernel_rfl)).trans f13
          clear hp
          obtain ⟨t63, f63, hk⟩ := dB_elim hk
          have fc : eev e (.tmp 63) = .bool t63 := f63
          refine EWP.condI fc hk ?_ ?_
          · intro hk
            refine EWP.seqC (fun e h => content_search_from_b19 Q Kn15 h) ?_ ?_
            · have he : upd e 10 (Value.pointer (some c_10)) = e := by rw [upd_self f10]
              refine EWP.seqR (fun e h => dB (e 65) fun t65 => if t65 = true then (content_search_from_b18 cursor_2 s_3 i_4 Q Kn15 h) else (content_search_from_b19 Q Kn15 h)) ?_ ?_ ?_
              · kernel_rfl
              · rw [← he]
                exact eqMp (by as_aux_lemma => kernel_rfl : _ = content_search_from_b17 cursor_2 s_3 i_4 c_10 Q Kn15 h) hk
              · intro e h hp hk
                have f2 := (hp 2 (by kernel_rfl)).trans f2
                have f3 := (hp 3 (by kernel_rfl)).trans f3
                have f4 := (hp 4 (by kernel_rfl)).trans f4
                clear hp
                obtain ⟨t65, f65, hk⟩ := dB_elim hk
                have fc : eev e (.tmp 65) = .bool t65 := f65
                refine EWP.condI fc hk ?_ ?_
                · intro hk
                  have he : upd (upd (upd e 2 (Value.int .i64 cursor_2)) 3 (Value.pointer (some s_3))) 4 (Value.pointer (some i_4)) = e := by rw [upd_self f2, upd_self f3, upd_self f4]
                  refine EWP.seqR (fun e h => dI .i64 (e 6) fun t6 => dB (e 7) fun t7 => Q (Value.tuple #[Value.int .i64 t6, Value.bool t7]) h) ?_ ?_ ?_
                  · kernel_rfl
                  · rw [← he]
                    exact eqMp (by as_aux_lemma => kernel_rfl : _ = content_search_from_b18 cursor_2 s_3 i_4 Q Kn15 h) hk
                  · intro e h hp hk
                    clear hp
                    obtain ⟨t6, f6, hk⟩ := dI_elim hk
                    obtain ⟨t7, f7, hk⟩ := dB_elim hk
                    refine EWP.ret ?_
                    have he : upd (upd e 6 (Value.int .i64 t6)) 7 (Value.bool t7) = e := by rw [upd_self f6, upd_self f7]
                    refine (show _ ∧ _ from ⟨rfl, ?_⟩)
                    rw [← he]
                    exact eqMp (by as_aux_lemma => kernel_rfl : _ = (Q (Value.tuple #[Value.int .i64 t6, Value.bool t7]) h)) hk
                · intro hk
                  refine EWP.skip ?_
                  exact (show _ ∧ _ from ⟨rfl, hk⟩)
            · rintro e h hk
              refine EWP.seqR (fun e h => dI .i64 (e 6) fun t6 => dB (e 7) fun t7 => Q (Value.tuple #[Value.int .i64 t6, Value.bool t7]) h) ?_ ?_ ?_
              · kernel_rfl
              · skip
                exact eqMp (by as_aux_lemma => kernel_rfl : _ = content_search_from_b19 Q Kn15 h) hk
              · intro e h hp hk
                clear hp
                obtain ⟨t6, f6, hk⟩ := dI_elim hk
                obtain ⟨t7, f7, hk⟩ := dB_elim hk
                refine EWP.ret ?_
                have he : upd (upd e 6 (Value.int .i64 t6)) 7 (Value.bool t7) = e := by rw [upd_self f6, upd_self f7]
                refine (show _ ∧ _ from ⟨rfl, ?_⟩)
                rw [← he]
                exact eqMp (by as_aux_lemma => kernel_rfl : _ = (Q (Value.tuple #[Value.int .i64 t6, Value.bool t7]) h)) hk
          · intro hk
            refine EWP.skip ?_
            exact (show _ ∧ _ from ⟨rfl, f2, f3, f4, f10, f11, f12, f13, hk⟩)
      · rintro e h ⟨f2, f3, f4, f10, f11, f12, f13, hk⟩
        have he : upd e 13 (Value.func (.func 23) #[] #[Value.pointer (some step_13_0), Value.pointer (some step_13_1), Value.pointer (some step_13_2), Value.pointer (some step_13_3)]) = e := by rw [upd_self f13]
        refine EWP.seqR (fun e h => dI .i64 (e 14) fun end_14 => dB (e 15) fun ok_15 => content_search_from_b21 cursor_2 s_3 i_4 c_10 at_11 last_12 step_13_0 step_13_1 step_13_2 step_13_3 end_14 ok_15 Q Kn15 h) ?_ ?_ ?_
        · kernel_rfl
        · rw [← he]
          exact eqMp (by as_aux_lemma => kernel_rfl : _ = content_search_from_b20 cursor_2 s_3 i_4 c_10 at_11 last_12 step_13_0 step_13_1 step_13_2 step_13_3 Q Kn15 h) hk
        · intro e h hp hk
          have f2 := (hp 2 (by kernel_rfl)).trans f2
          have f3 := (hp 3 (by kernel_rfl)).trans f3
          have f4 := (hp 4 (by kernel_rfl)).trans f4
          have f10 := (hp 10 (by kernel_rfl)).trans f10
          have f11 := (hp 11 (by kernel_rfl)).trans f11
          have f12 := (hp 12 (by kernel_rfl)).trans f12
          have f13 := (hp 13 (by kernel_rfl)).trans f13
          clear hp
          obtain ⟨end_14, f14, hk⟩ := dI_elim hk
          obtain ⟨ok_15, f15, hk⟩ := dB_elim hk
          refine EWP.seqC (fun e h => e 2 = Value.int .i64 cursor_2 ∧ e 3 = Value.pointer (some s_3) ∧ e 4 = Value.pointer (some i_4) ∧ e 10 = Value.pointer (some c_10) ∧ e 11 = Value.pointer (some at_11) ∧ e 12 = Value.int .i64 last_12 ∧ e 13 = Value.func (.func 23) #[] #[Value.pointer (some step_13_0), Value.pointer (some step_13_1), Value.pointer (some step_13_2), Value.pointer (some step_13_3)] ∧ content_search_from_b25 cursor_2 s_3 i_4 c_10 at_11 last_12 step_13_0 step_13_1 step_13_2 step_13_3 Q Kn15 h) ?_ ?_
          · refine EWP.block ?_
            have he : upd (upd (upd e 3 (Value.pointer (some s_3))) 10 (Value.pointer (some c_10))) 15 (Value.bool ok_15) = e := by rw [upd_self f3, upd_self f10, upd_self f15]
            refine EWP.seqR (fun e h => dB (e 78) fun t78 => if t78 = true then (content_search_from_b22 Q Kn15 h) else (content_search_from_b23 cursor_2 s_3 i_4 c_10 at_11 last_12 step_13_0 step_13_1 step_13_2 step_13_3 end_14 ok_15 Q Kn15 h)) ?_ ?_ ?_
            · kernel_rfl
            · rw [← he]
              exact eqMp (by as_aux_lemma => kernel_rfl : _ = content_search_from_b21 cursor_2 s_3 i_4 c_10 at_11 last_12 step_13_0 step_13_1 step_13_2 step_13_3 end_14 ok_15 Q Kn15 h) hk
            · intro e h hp hk
              have f2 := (hp 2 (by kernel_rfl)).trans f2
              have f3 := (hp 3 (by kernel_rfl)).trans f3
              have f4 := (hp 4 (by kernel_rfl)).trans f4
              have f10 := (hp 10 (by kernel_rfl)).trans f10
              have f11 := (hp 11 (by kernel_rfl)).trans f11
              have f12 := (hp 12 (by kernel_rfl)).trans f12
              have f13 := (hp 13 (by kernel_rfl)).trans f13
              have f14 := (hp 14 (by kernel_rfl)).trans f14
              have f15 := (hp 15 (by kernel_rfl)).trans f15
              clear hp
              obtain ⟨t78, f78, hk⟩ := dB_elim hk
              have fc : eev e (.tmp 78) = .bool t78 := f78
              refine EWP.condI fc hk ?_ ?_
              · intro hk
                refine EWP.seqR (fun e h => dI .i64 (e 6) fun t6 => dB (e 7) fun t7 => Q (Value.tuple #[Value.int .i64 t6, Value.bool t7]) h) ?_ ?_ ?_
                · kernel_rfl
                · skip
                  exact eqMp (by as_aux_lemma => kernel_rfl : _ = content_search_from_b22 Q Kn15 h) hk
                · intro e h hp hk
                  clear hp
                  obtain ⟨t6, f6, hk⟩ := dI_elim hk
                  obtain ⟨t7, f7, hk⟩ := dB_elim hk
                  refine EWP.ret ?_
                  have he : upd (upd e 6 (Value.int .i64 t6)) 7 (Value.bool t7) = e := by rw [upd_self f6, upd_self f7]
                  refine (show _ ∧ _ from ⟨rfl, ?_⟩)
                  rw [← he]
                  exact eqMp (by as_aux_lemma => kernel_rfl : _ = (Q (Value.tuple #[Value.int .i64 t6, Value.bool t7]) h)) hk
              · intro hk
                have he : upd e 15 (Value.bool ok_15) = e := by rw [upd_self f15]
                refine EWP.seqR (fun e h => dB (e 90) fun t90 => if t90 = true then (content_search_from_b24 end_14 Q Kn15 h) else (content_search_from_b25 cursor_2 s_3 i_4 c_10 at_11 last_12 step_13_0 step_13_1 step_13_2 step_13_3 Q Kn15 h)) ?_ ?_ ?_
                · kernel_rfl
                · rw [← he]
                  exact eqMp (by as_aux_lemma => kernel_rfl : _ = content_search_from_b23 cursor_2 s_3 i_4 c_10 at_11 last_12 step_13_0 step_13_1 step_13_2 step_13_3 end_14 ok_15 Q Kn15 h) hk
                · intro e h hp hk
                  have f2 := (hp 2 (by kernel_rfl)).trans f2
                  have f3 := (hp 3 (by kernel_rfl)).trans f3
                  have f4 := (hp 4 (by kernel_rfl)).trans f4
                  have f10 := (hp 10 (by kernel_rfl)).trans f10
                  have f11 := (hp 11 (by kernel_rfl)).trans f11
                  have f12 := (hp 12 (by kernel_rfl)).trans f12
                  have f13 := (hp 13 (by kernel_rfl)).trans f13
                  have f14 := (hp 14 (by kernel_rfl)).trans f14
                  clear hp
                  obtain ⟨t90, f90, hk⟩ := dB_elim hk
                  have fc : eev e (.tmp 90) = .bool t90 := f90
                  refine EWP.condI fc hk ?_ ?_
                  · intro hk
                    have he : upd e 14 (Value.int .i64 end_14) = e := by rw [upd_self f14]
                    refine EWP.seqR (fun e h => dI .i64 (e 6) fun t6 => dB (e 7) fun t7 => Q (Value.tuple #[Value.int .i64 t6, Value.bool t7]) h) ?_ ?_ ?_
                    · kernel_rfl
                    · rw [← he]
                      exact eqMp (by as_aux_lemma => kernel_rfl : _ = content_search_from_b24 end_14 Q Kn15 h) hk
                    · intro e h hp hk
                      clear hp
                      obtain ⟨t6, f6, hk⟩ := dI_elim hk
                      obtain ⟨t7, f7, hk⟩ := dB_elim hk
                      refine EWP.ret ?_
                      have he : upd (upd e 6 (Value.int .i64 t6)) 7 (Value.bool t7) = e := by rw [upd_self f6, upd_self f7]
                      refine (show _ ∧ _ from ⟨rfl, ?_⟩)
                      rw [← he]
                      exact eqMp (by as_aux_lemma => kernel_rfl : _ = (Q (Value.tuple #[Value.int .i64 t6, Value.bool t7]) h)) hk
                  · intro hk
                    refine EWP.skip ?_
                    exact (show _ ∧ _ from ⟨rfl, f2, f3, f4, f10, f11, f12, f13, hk⟩)
          · rintro e h ⟨f2, f3, f4, f10, f11, f12, f13, hk⟩
            have he : upd e 11 (Value.pointer (some at_11)) = e := by rw [upd_self f11]
            refine EWP.seqR (fun e h => Kn15 (c_10, at_11, last_12, step_13_0, step_13_1, step_13_2, step_13_3) h) ?_ ?_ ?_
            · kernel_rfl
            · rw [← he]
              exact eqMp (by as_aux_lemma => kernel_rfl : _ = content_search_from_b25 cursor_2 s_3 i_4 c_10 at_11 last_12 step_13_0 step_13_1 step_13_2 step_13_3 Q Kn15 h) hk
            · intro e h hp hk
              have f2 := (hp 2 (by kernel_rfl)).trans f2
              have f3 := (hp 3 (by kernel_rfl)).trans f3
              have f4 := (hp 4 (by kernel_rfl)).trans f4
              have f10 := (hp 10 (by kernel_rfl)).trans f10
              have f11 := (hp 11 (by kernel_rfl)).trans f11
              have f12 := (hp 12 (by kernel_rfl)).trans f12
              have f13 := (hp 13 (by kernel_rfl)).trans f13
              clear hp
              refine EWP.goto ?_
              exact (show _ ∧ _ ∧ _ from ⟨rfl, rfl, (c_10, at_11, last_12, step_13_0, step_13_1, step_13_2, step_13_3), ⟨f2, f3, f4, f10, f11, f12, f13⟩, hk⟩)
    · refine EWP.seqC (fun e h => e 2 = Value.int .i64 cursor_2 ∧ e 3 = Value.pointer (some s_3) ∧ e 4 = Value.pointer (some i_4) ∧ content_search_from_b12 cursor_2 s_3 i_4 Q h) ?_ ?_
      · have he : upd (upd e 3 (Value.pointer (some s_3))) 4 (Value.pointer (some i_4)) = e := by rw [upd_self f3, upd_self f4]
        refine EWP.seqD (fun e h => dB (e 22) fun t22 => if t22 = true then (content_search_from_b3 cursor_2 s_3 Q h) else (content_search_from_b12 cursor_2 s_3 i_4 Q h)) ?_ ?_ ?_ ?_
        · kernel_rfl
        · kernel_rfl
        · rw [← he]
          exact eqMp (by as_aux_lemma => kernel_rfl : _ = content_search_from_b2 cursor_2 s_3 i_4 Q h) hk
        · intro e h hp hk
          have f2 := (hp 2 (by kernel_rfl)).trans f2
          have f3 := (hp 3 (by kernel_rfl)).trans f3
          have f4 := (hp 4 (by kernel_rfl)).trans f4
          clear hp
          obtain ⟨t22, f22, hk⟩ := dB_elim hk
          have fc : eev e (.tmp 22) = .bool t22 := f22
          refine EWP.condI fc hk ?_ ?_
          · intro hk
            refine EWP.seqC (fun e h => e 2 = Value.int .i64 cursor_2 ∧ content_search_from_b11 cursor_2 Q h) ?_ ?_
            · have he : upd e 3 (Value.pointer (some s_3)) = e := by rw [upd_self f3]
              refine EWP.seqR (fun e h => dL (e 26) fun t26a t26n t26c => dI .i64 (e 27) fun t27 => dI .i64 (e 28) fun t28 => LoopV (fun (s : Int) h Kn => content_search_from_l4 cursor_2 s_3 t26a t26n t26c t27 Q s h Kn) t28 h) ?_ ?_ ?_
              · kernel_rfl
              · rw [← he]
                exact eqMp (by as_aux_lemma => kernel_rfl : _ = content_search_from_b3 cursor_2 s_3 Q h) hk
              · intro e h hp hk
                have f2 := (hp 2 (by kernel_rfl)).trans f2
                have f3 := (hp 3 (by kernel_rfl)).trans f3
                clear hp
                obtain ⟨t26a, t26n, t26c, f26, hk⟩ := dL_elim hk
                obtain ⟨t27, f27, hk⟩ := dI_elim hk
                obtain ⟨t28, f28, hk⟩ := dI_elim hk
                refine EWP.block ?_
                refine EWP.loopV (fun e (s : Int) => e 2 = Value.int .i64 cursor_2 ∧ e 3 = Value.pointer (some s_3) ∧ e 26 = Value.slice t26a t26n t26c ∧ e 27 = Value.int .i64 t27 ∧ e 28 = Value.int .i64 s) ⟨f2, f3, f26, f27, f28⟩ hk ?_
                rintro e t28 h Kn4 ⟨f2, f3, f26, f27, f28⟩ hk
                have f28 : e 28 = Value.int .i64 t28 := f28
                have hk : content_search_from_l4 cursor_2 s_3 t26a t26n t26c t27 Q t28 h Kn4 := hk
                have he : upd (upd e 27 (Value.int .i64 t27)) 28 (Value.int .i64 t28) = e := by rw [upd_self f27, upd_self f28]
                refine EWP.seqR (fun e h => dB (e 29) fun t29 => if t29 = true then (content_search_from_b6 cursor_2 s_3 t26a t26n t26c t27 t28 Q Kn4 h) else (content_search_from_b11 cursor_2 Q h)) ?_ ?_ ?_
                · kernel_rfl
                · rw [← he]
                  exact eqMp (by as_aux_lemma => kernel_rfl : _ = content_search_from_b5 cursor_2 s_3 t26a t26n t26c t27 t28 Q Kn4 h) hk
                · intro e h hp hk
                  have f2 := (hp 2 (by kernel_rfl)).trans f2
                  have f3 := (hp 3 (by kernel_rfl)).trans f3
                  have f26 := (hp 26 (by kernel_rfl)).trans f26
                  have f27 := (hp 27 (by kernel_rfl)).trans f27
                  have f28 := (hp 28 (by kernel_rfl)).trans f28
                  clear hp
                  obtain ⟨t29, f29, hk⟩ := dB_elim hk
                  refine EWP.seqC (fun e h => e 2 = Value.int .i64 cursor_2 ∧ e 3 = Value.pointer (some s_3) ∧ e 26 = Value.slice t26a t26n t26c ∧ e 27 = Value.int .i64 t27 ∧ e 28 = Value.int .i64 t28 ∧ content_search_from_b6 cursor_2 s_3 t26a t26n t26c t27 t28 Q Kn4 h) ?_ ?_
                  · have fc : eev e (.tmp 29) = .bool t29 := f29
                    refine EWP.condI fc hk ?_ ?_
                    · intro hk
                      refine EWP.skip ?_
                      exact (show _ ∧ _ from ⟨rfl, f2, f3, f26, f27, f28, hk⟩)
                    · intro hk
                      refine EWP.exit ?_
                      exact (show _ ∧ _ from ⟨rfl, f2, hk⟩)
                  · rintro e h ⟨f2, f3, f26, f27, f28, hk⟩
                    refine EWP.seqC (fun e h => e 2 = Value.int .i64 cursor_2 ∧ e 3 = Value.pointer (some s_3) ∧ e 26 = Value.slice t26a t26n t26c ∧ e 27 = Value.int .i64 t27 ∧ e 28 = Value.int .i64 t28 ∧ content_search_from_b10 cursor_2 s_3 t26a t26n t26c t27 t28 Q Kn4 h) ?_ ?_
                    · refine EWP.block ?_
                      have he : upd (upd e 26 (Value.slice t26a t26n t26c)) 28 (Value.int .i64 t28) = e := by rw [upd_self f26, upd_self f28]
                      refine EWP.seqR (fun e h => dA (e 9) fun t_9 => content_search_from_b8 cursor_2 s_3 t_9 t26a t26n t26c t27 t28 Q Kn4 h) ?_ ?_ ?_
                      · kernel_rfl
                      · rw [← he]
                        exact eqMp (by as_aux_lemma => kernel_rfl : _ = content_search_from_b7 cursor_2 s_3 t26a t26n t26c t27 t28 Q Kn4 h) hk
                      · intro e h hp hk
                        have f2 := (hp 2 (by kernel_rfl)).trans f2
                        have f3 := (hp 3 (by kernel_rfl)).trans f3
                        have f26 := (hp 26 (by kernel_rfl)).trans f26
                        have f27 := (hp 27 (by kernel_rfl)).trans f27
                        have f28 := (hp 28 (by kernel_rfl)).trans f28
                        clear hp
                        obtain ⟨t_9, f9, hk⟩ := dA_elim hk
                        have he : upd (upd (upd e 2 (Value.int .i64 cursor_2)) 3 (Value.pointer (some s_3))) 9 (Value.pointer (some t_9)) = e := by rw [upd_self f2, upd_self f3, upd_self f9]
                        refine EWP.seqD (fun e h => dB (e 39) fun t39 => if t39 = true then (content_search_from_b9 Q Kn4 h) else (content_search_from_b10 cursor_2 s_3 t26a t26n t26c t27 t28 Q Kn4 h)) ?_ ?_ ?_ ?_
                        · kernel_rfl
                        · kernel_rfl
                        · rw [← he]
                          exact eqMp (by as_aux_lemma => kernel_rfl : _ = content_search_from_b8 cursor_2 s_3 t_9 t26a t26n t26c t27 t28 Q Kn4 h) hk
                        · intro e h hp hk
                          have f2 := (hp 2 (by kernel_rfl)).trans f2
                          have f3 := (hp 3 (by kernel_rfl)).trans f3
                          have f26 := (hp 26 (by kernel_rfl)).trans f26
                          have f27 := (hp 27 (by kernel_rfl)).trans f27
                          have f28 := (hp 28 (by kernel_rfl)).trans f28
                          clear hp
                          obtain ⟨t39, f39, hk⟩ := dB_elim hk
                          have fc : eev e (.tmp 39) = .bool t39 := f39
                          refine EWP.condI fc hk ?_ ?_
                          · intro hk
                            refine EWP.seqR (fun e h => dI .i64 (e 6) fun t6 => dB (e 7) fun t7 => Q (Value.tuple #[Value.int .i64 t6, Value.bool t7]) h) ?_ ?_ ?_
                            · kernel_rfl
                            · skip
                              exact eqMp (by as_aux_lemma => kernel_rfl : _ = content_search_from_b9 Q Kn4 h) hk
                            · intro e h hp hk
                              clear hp
                              obtain ⟨t6, f6, hk⟩ := dI_elim hk
                              obtain ⟨t7, f7, hk⟩ := dB_elim hk
                              refine EWP.ret ?_
                              have he : upd (upd e 6 (Value.int .i64 t6)) 7 (Value.bool t7) = e := by rw [upd_self f6, upd_self f7]
                              refine (show _ ∧ _ from ⟨rfl, ?_⟩)
                              rw [← he]
                              exact eqMp (by as_aux_lemma => kernel_rfl : _ = (Q (Value.tuple #[Value.int .i64 t6, Value.bool t7]) h)) hk
                          · intro hk
                            refine EWP.skip ?_
                            exact (show _ ∧ _ from ⟨rfl, f2, f3, f26, f27, f28, hk⟩)
                    · rintro e h ⟨f2, f3, f26, f27, f28, hk⟩
                      have he : upd e 28 (Value.int .i64 t28) = e := by rw [upd_self f28]
                      refine EWP.regionN (fun e h => dI .i64 (e 28) fun t28 => Kn4 (t28) h) ?_ ?_ ?_
                      · kernel_rfl
                      · rw [← he]
                        exact eqMp (by as_aux_lemma => kernel_rfl : _ = content_search_from_b10 cursor_2 s_3 t26a t26n t26c t27 t28 Q Kn4 h) hk
                      · intro e h hp hk
                        have f2 := (hp 2 (by kernel_rfl)).trans f2
                        have f3 := (hp 3 (by kernel_rfl)).trans f3
                        have f26 := (hp 26 (by kernel_rfl)).trans f26
                        have f27 := (hp 27 (by kernel_rfl)).trans f27
                        clear hp
                        obtain ⟨t28, f28, hk⟩ := dI_elim hk
                        exact (show _ ∧ _ from ⟨rfl, t28, ⟨f2, f3, f26, f27, f28⟩, hk⟩)
            · rintro e h ⟨f2, hk⟩
              have he : upd e 2 (Value.int .i64 cursor_2) = e := by rw [upd_self f2]
              refine EWP.seqR (fun e h => dI .i64 (e 6) fun t6 => dB (e 7) fun t7 => Q (Value.tuple #[Value.int .i64 t6, Value.bool t7]) h) ?_ ?_ ?_
              · kernel_rfl
              · rw [← he]
                exact eqMp (by as_aux_lemma => kernel_rfl : _ = content_search_from_b11 cursor_2 Q h) hk
              · intro e h hp hk
                clear hp
                obtain ⟨t6, f6, hk⟩ := dI_elim hk
                obtain ⟨t7, f7, hk⟩ := dB_elim hk
                refine EWP.ret ?_
                have he : upd (upd e 6 (Value.int .i64 t6)) 7 (Value.bool t7) = e := by rw [upd_self f6, upd_self f7]
                refine (show _ ∧ _ from ⟨rfl, ?_⟩)
                rw [← he]
                exact eqMp (by as_aux_lemma => kernel_rfl : _ = (Q (Value.tuple #[Value.int .i64 t6, Value.bool t7]) h)) hk
          · intro hk
            refine EWP.skip ?_
            exact (show _ ∧ _ from ⟨rfl, f2, f3, f4, hk⟩)
      · rintro e h ⟨f2, f3, f4, hk⟩
        have he : upd (upd e 3 (Value.pointer (some s_3))) 4 (Value.pointer (some i_4)) = e := by rw [upd_self f3, upd_self f4]
        refine EWP.seqD (fun e h => dA (e 10) fun c_10 => content_search_from_b13 cursor_2 s_3 i_4 c_10 Q h) ?_ ?_ ?_ ?_
        · kernel_rfl
        · kernel_rfl
        · rw [← he]
          exact eqMp (by as_aux_lemma => kernel_rfl : _ = content_search_from_b12 cursor_2 s_3 i_4 Q h) hk
        · intro e h hp hk
          have f2 := (hp 2 (by kernel_rfl)).trans f2
          have f3 := (hp 3 (by kernel_rfl)).trans f3
          have f4 := (hp 4 (by kernel_rfl)).trans f4
          clear hp
          obtain ⟨c_10, f10, hk⟩ := dA_elim hk
          have he : upd (upd (upd e 2 (Value.int .i64 cursor_2)) 3 (Value.pointer (some s_3))) 10 (Value.pointer (some c_10)) = e := by rw [upd_self f2, upd_self f3, upd_self f10]
          refine EWP.seqD (fun e h => dA (e 11) fun at_11 => dI .i64 (e 12) fun last_12 => content_search_from_b14 cursor_2 s_3 i_4 c_10 at_11 last_12 Q h) ?_ ?_ ?_ ?_
          · kernel_rfl
          · kernel_rfl
          · rw [← he]
            exact eqMp (by as_aux_lemma => kernel_rfl : _ = content_search_from_b13 cursor_2 s_3 i_4 c_10 Q h) hk
          · intro e h hp hk
            have f2 := (hp 2 (by kernel_rfl)).trans f2
            have f3 := (hp 3 (by kernel_rfl)).trans f3
            have f4 := (hp 4 (by kernel_rfl)).trans f4
            have f10 := (hp 10 (by kernel_rfl)).trans f10
            clear hp
            obtain ⟨at_11, f11, hk⟩ := dA_elim hk
            obtain ⟨last_12, f12, hk⟩ := dI_elim hk
            have he : upd (upd (upd (upd e 3 (Value.pointer (some s_3))) 4 (Value.pointer (some i_4))) 10 (Value.pointer (some c_10))) 11 (Value.pointer (some at_11)) = e := by rw [upd_self f3, upd_self f4, upd_self f10, upd_self f11]
            refine EWP.seqR (fun e h => dF 23 (e 13) fun l13_1 => dC l13_1 fun v13_2 l13_2 => dA v13_2 fun step_13_0 => dC l13_2 fun v13_3 l13_3 => dA v13_3 fun step_13_1 => dC l13_3 fun v13_4 l13_4 => dA v13_4 fun step_13_2 => dC l13_4 fun v13_5 l13_5 => dA v13_5 fun step_13_3 => dE l13_5 (LoopV (fun (s : Addr × Addr × Int × Addr × Addr × Addr × Addr) h Kn => content_search_from_l15 cursor_2 s_3 i_4 Q s.1 s.2.1 s.2.2.1 s.2.2.2.1 s.2.2.2.2.1 s.2.2.2.2.2.1 s.2.2.2.2.2.2 h Kn) (c_10, at_11, last_12, step_13_0, step_13_1, step_13_2, step_13_3) h)) ?_ ?_ ?_
            · kernel_rfl
            · rw [← he]
              exact eqMp (by as_aux_lemma => kernel_rfl : _ = content_search_from_b14 cursor_2 s_3 i_4 c_10 at_11 last_12 Q h) hk
            · intro e h hp hk
              have f2 := (hp 2 (by kernel_rfl)).trans f2
              have f3 := (hp 3 (by kernel_rfl)).trans f3
              have f4 := (hp 4 (by kernel_rfl)).trans f4
              have f10 := (hp 10 (by kernel_rfl)).trans f10
              have f11 := (hp 11 (by kernel_rfl)).trans f11
              have f12 := (hp 12 (by kernel_rfl)).trans f12
              clear hp
              obtain ⟨l13_1, f13, hk2⟩ := dF_elim hk
              clear hk
              have hk := hk2
              clear hk2
              obtain ⟨v13_2, l13_2, q, hk2⟩ := dC_elim hk
              clear hk
              subst q
              have hk := hk2
              clear hk2
              obtain ⟨step_13_0, q, hk2⟩ := dA_elim hk
              clear hk
              subst q
              have hk := hk2
              clear hk2
              obtain ⟨v13_3, l13_3, q, hk2⟩ := dC_elim hk
              clear hk
              subst q
              have hk := hk2
              clear hk2
              obtain ⟨step_13_1, q, hk2⟩ := dA_elim hk
              clear hk
              subst q
              have hk := hk2
              clear hk2
              obtain ⟨v13_4, l13_4, q, hk2⟩ := dC_elim hk
              clear hk
              subst q
              have hk := hk2
              clear hk2
              obtain ⟨step_13_2, q, hk2⟩ := dA_elim hk
              clear hk
              subst q
              have hk := hk2
              clear hk2
              obtain ⟨v13_5, l13_5, q, hk2⟩ := dC_elim hk
              clear hk
              subst q
              have hk := hk2
              clear hk2
              obtain ⟨step_13_3, q, hk2⟩ := dA_elim hk
              clear hk
              subst q
              have hk := hk2
              clear hk2
              obtain ⟨q, hk2⟩ := dE_elim hk
              clear hk
              subst q
              have hk := hk2
              clear hk2
              have f13 : e 13 = Value.func (.func 23) #[] #[Value.pointer (some step_13_0), Value.pointer (some step_13_1), Value.pointer (some step_13_2), Value.pointer (some step_13_3)] := f13
              exact hfall0 _ (c_10, at_11, last_12, step_13_0, step_13_1, step_13_2, step_13_3) _ ⟨f2, f3, f4, f10, f11, f12, f13⟩ hk
theorem content_search_from_s (s_0 : Option Addr) (i_1 : Int) (cursor_2 : Int) {Q : Value → Heap → Prop} {h : Heap} (hk : content_search_from_v s_0 i_1 cursor_2 Q h) : CallT Try.prog fn_content_search_from #[Value.pointer s_0, Value.int .i64 i_1, Value.int .i64 cursor_2] h Q := by
  obtain ⟨c, hb, he⟩ := content_search_from_e s_0 i_1 cursor_2 Q h hk
  exact callT_of (N := 95) Try.func21 hb rfl (Try.call21 _) (Nat.le_of_ble_eq_true rfl) he
/-! ### (*intrusion/intrusionref44.search).from -/
def ref44_search_from_b8 (Q : Value → Heap → Prop) (Kn4 : (Int) → Heap → Prop) (h : Heap) : Prop :=
  Q (Value.tuple #[Value.bool false, Value.int .i64 (0 : Int)]) h
def ref44_search_from_b9 (t_3a : Option Addr) (t_3n : Nat) (t_3c : Nat) (data_4 : ByteArray) (cursor_5 : Int) (k_14 : Int) (Q : Value → Heap → Prop) (Kn4 : (Int) → Heap → Prop) (h : Heap) : Prop :=
  Kn4 (IntKind.wrap .i64 (k_14 + (1 : Int))) h
def ref44_search_from_b7 (t_3a : Option Addr) (t_3n : Nat) (t_3c : Nat) (data_4 : ByteArray) (cursor_5 : Int) (k_14 : Int) (Q : Value → Heap → Prop) (Kn4 : (Int) → Heap → Prop) (h : Heap) : Prop :=
  idxA k_14 t_3n (nn t_3a fun t32 => ldI h (Addr.add t32 ((k_14).toNat * 7)) .i64 fun t33_0 => ldI h (Addr.add (Addr.add t32 ((k_14).toNat * 7)) 1) .i64 fun t33_1 => ldI h (Addr.add (Addr.add t32 ((k_14).toNat * 7)) 2) .i64 fun t33_2 => ldI h (Addr.add (Addr.add t32 ((k_14).toNat * 7)) 3) .i64 fun t33_3 => ldB h (Addr.add (Addr.add t32 ((k_14).toNat * 7)) 4) fun t33_4 => ldB h (Addr.add (Addr.add t32 ((k_14).toNat * 7)) 5) fun t33_5 => ldB h (Addr.add (Addr.add t32 ((k_14).toNat * 7)) 6) fun t33_6 => CallT Try.prog fn_ref44_Test #[Value.agg #[Value.int .i64 t33_0, Value.int .i64 t33_1, Value.int .i64 t33_2, Value.int .i64 t33_3, Value.bool t33_4, Value.bool t33_5, Value.bool t33_6], Value.string data_4, Value.int .i64 cursor_5] h fun v h1 => ∃ t36 : Bool, v = Value.bool t36 ∧ if (!t36) = true then (ref44_search_from_b8 Q Kn4 h1) else (ref44_search_from_b9 t_3a t_3n t_3c data_4 cursor_5 k_14 Q Kn4 h1))
def ref44_search_from_b6 (t_3a : Option Addr) (t_3n : Nat) (t_3c : Nat) (data_4 : ByteArray) (cursor_5 : Int) (k_14 : Int) (Q : Value → Heap → Prop) (Kn4 : (Int) → Heap → Prop) (h : Heap) : Prop :=
  ref44_search_from_b7 t_3a t_3n t_3c data_4 cursor_5 k_14 Q Kn4 h
def ref44_search_from_b10 (cursor_5 : Int) (Q : Value → Heap → Prop) (h : Heap) : Prop :=
  Q (Value.tuple #[Value.bool true, Value.int .i64 cursor_5]) h
def ref44_search_from_b5 (t_3a : Option Addr) (t_3n : Nat) (t_3c : Nat) (data_4 : ByteArray) (cursor_5 : Int) (k_14 : Int) (Q : Value → Heap → Prop) (Kn4 : (Int) → Heap → Prop) (h : Heap) : Prop :=
  if (decide (k_14 < ((t_3n : Nat) : Int))) = true then (ref44_search_from_b6 t_3a t_3n t_3c data_4 cursor_5 k_14 Q Kn4 h) else (ref44_search_from_b10 cursor_5 Q h)
def ref44_search_from_l4 (t_3a : Option Addr) (t_3n : Nat) (t_3c : Nat) (data_4 : ByteArray) (cursor_5 : Int) (Q : Value → Heap → Prop) (k_14 : Int) (h : Heap) (Kn4 : (Int) → Heap → Prop) : Prop :=
  ref44_search_from_b5 t_3a t_3n t_3c data_4 cursor_5 k_14 Q Kn4 h
def ref44_search_from_b3 (t_3a : Option Addr) (t_3n : Nat) (t_3c : Nat) (data_4 : ByteArray) (cursor_5 : Int) (Q : Value → Heap → Prop) (h : Heap) : Prop :=
  LoopV (fun (s : Int) h Kn => ref44_search_from_l4 t_3a t_3n t_3c data_4 cursor_5 Q s h Kn) 0 h
def ref44_search_from_b17 (Q : Value → Heap → Prop) (Kn13 : (Int) → Heap → Prop) (h : Heap) : Prop :=
  Q (Value.tuple #[Value.bool false, Value.int .i64 (0 : Int)]) h
def ref44_search_from_b20 (s_0 : Option Addr) (i_1 : Int) (l_2a : Option Addr) (l_2n : Nat) (l_2c : Nat) (t_3a : Option Addr) (t_3n : Nat) (t_3c : Nat) (data_4 : ByteArray) (cursor_5 : Int) (last_16 : Int) (p_17 : Int) (Q : Value → Heap → Prop) (Kn13 : (Int) → Heap → Prop) (h : Heap) : Prop :=
  Kn13 (IntKind.wrap .i64 (p_17 + (1 : Int))) h
def ref44_search_from_b23 (Q : Value → Heap → Prop) (Kn13 : (Int) → Heap → Prop) (h : Heap) : Prop :=
  Q (Value.tuple #[Value.bool false, Value.int .i64 (0 : Int)]) h
def ref44_search_from_b26 (ok_18 : Bool) (end_19 : Int) (Q : Value → Heap → Prop) (Kn13 : (Int) → Heap → Prop) (h : Heap) : Prop :=
  Q (Value.tuple #[Value.bool ok_18, Value.int .i64 end_19]) h
def ref44_search_from_b25 (s_0 : Option Addr) (i_1 : Int) (l_2a : Option Addr) (l_2n : Nat) (l_2c : Nat) (t_3a : Option Addr) (t_3n : Nat) (t_3c : Nat) (data_4 : ByteArray) (cursor_5 : Int) (last_16 : Int) (p_17 : Int) (ok_18 : Bool) (end_19 : Int) (Q : Value → Heap → Prop) (Kn13 : (Int) → Heap → Prop) (h : Heap) : Prop :=
  if ok_18 = true then (ref44_search_from_b26 ok_18 end_19 Q Kn13 h) else (nn s_0 fun t93 => ldB h (Addr.add t93 1) fun t95 => if t95 = true then (ref44_search_from_b26 ok_18 end_19 Q Kn13 h) else (ref44_search_from_b20 s_0 i_1 l_2a l_2n l_2c t_3a t_3n t_3c data_4 cursor_5 last_16 p_17 Q Kn13 h))
def ref44_search_from_b24 (s_0 : Option Addr) (i_1 : Int) (l_2a : Option Addr) (l_2n : Nat) (l_2c : Nat) (t_3a : Option Addr) (t_3n : Nat) (t_3c : Nat) (data_4 : ByteArray) (cursor_5 : Int) (last_16 : Int) (p_17 : Int) (Q : Value → Heap → Prop) (Kn13 : (Int) → Heap → Prop) (h : Heap) : Prop :=
  idxA i_1 l_2n (nn l_2a fun t82 => ldS h (Addr.add t82 ((i_1).toNat * 7)) fun t84 => CallT Try.prog fn_ref44_search_from #[Value.pointer s_0, Value.int .i64 (IntKind.wrap .i64 (i_1 + (1 : Int))), Value.slice l_2a l_2n l_2c, Value.slice t_3a t_3n t_3c, Value.string data_4, Value.int .i64 (IntKind.wrap .i64 (p_17 + ((t84.size : Nat) : Int)))] h fun v h5 => ∃ t87_0 : Bool, ∃ t87_1 : Int, v = Value.tuple #[Value.bool t87_0, Value.int .i64 t87_1] ∧ ref44_search_from_b25 s_0 i_1 l_2a l_2n l_2c t_3a t_3n t_3c data_4 cursor_5 last_16 p_17 t87_0 t87_1 Q Kn13 h5)
def ref44_search_from_b22 (s_0 : Option Addr) (i_1 : Int) (l_2a : Option Addr) (l_2n : Nat) (l_2c : Nat) (t_3a : Option Addr) (t_3n : Nat) (t_3c : Nat) (data_4 : ByteArray) (cursor_5 : Int) (last_16 : Int) (p_17 : Int) (Q : Value → Heap → Prop) (Kn13 : (Int) → Heap → Prop) (h : Heap) : Prop :=
  idxA i_1 l_2n (nn l_2a fun t69 => ldB h (Addr.add (Addr.add t69 ((i_1).toNat * 7)) 2) fun t71 => if t71 = true then (ref44_search_from_b23 Q Kn13 h) else (ref44_search_from_b24 s_0 i_1 l_2a l_2n l_2c t_3a t_3n t_3c data_4 cursor_5 last_16 p_17 Q Kn13 h))
def ref44_search_from_b21 (s_0 : Option Addr) (i_1 : Int) (l_2a : Option Addr) (l_2n : Nat) (l_2c : Nat) (t_3a : Option Addr) (t_3n : Nat) (t_3c : Nat) (data_4 : ByteArray) (cursor_5 : Int) (last_16 : Int) (p_17 : Int) (Q : Value → Heap → Prop) (Kn13 : (Int) → Heap → Prop) (h : Heap) : Prop :=
  ref44_search_from_b22 s_0 i_1 l_2a l_2n l_2c t_3a t_3n t_3c data_4 cursor_5 last_16 p_17 Q Kn13 h
def ref44_search_from_b19 (s_0 : Option Addr) (i_1 : Int) (l_2a : Option Addr) (l_2n : Nat) (l_2c : Nat) (t_3a : Option Addr) (t_3n : Nat) (t_3c : Nat) (data_4 : ByteArray) (cursor_5 : Int) (last_16 : Int) (p_17 : Int) (Q : Value → Heap → Prop) (Kn13 : (Int) → Heap → Prop) (h : Heap) : Prop :=
  idxA i_1 l_2n (nn l_2a fun t61 => ldS h (Addr.add t61 ((i_1).toNat * 7)) fun t62_0 => ldB h (Addr.add (Addr.add t61 ((i_1).toNat * 7)) 1) fun t62_1 => ldB h (Addr.add (Addr.add t61 ((i_1).toNat * 7)) 2) fun t62_2 => ldB h (Addr.add (Addr.add t61 ((i_1).toNat * 7)) 3) fun t62_3 => ldI h (Addr.add (Addr.add t61 ((i_1).toNat * 7)) 4) .i64 fun t62_4 => ldI h (Addr.add (Addr.add t61 ((i_1).toNat * 7)) 5) .i64 fun t62_5 => ldB h (Addr.add (Addr.add t61 ((i_1).toNat * 7)) 6) fun t62_6 => CallT Try.prog fn_ref44_At #[Value.agg #[Value.string t62_0, Value.bool t62_1, Value.bool t62_2, Value.bool t62_3, Value.int .i64 t62_4, Value.int .i64 t62_5, Value.bool t62_6], Value.string data_4, Value.int .i64 p_17] h fun v h4 => ∃ t65 : Bool, v = Value.bool t65 ∧ if (!t65) = true then (ref44_search_from_b20 s_0 i_1 l_2a l_2n l_2c t_3a t_3n t_3c data_4 cursor_5 last_16 p_17 Q Kn13 h4) else (ref44_search_from_b21 s_0 i_1 l_2a l_2n l_2c t_3a t_3n t_3c data_4 cursor_5 last_16 p_17 Q Kn13 h4))
def ref44_search_from_b18 (s_0 : Option Addr) (i_1 : Int) (l_2a : Option Addr) (l_2n : Nat) (l_2c : Nat) (t_3a : Option Addr) (t_3n : Nat) (t_3c : Nat) (data_4 : ByteArray) (cursor_5 : Int) (last_16 : Int) (p_17 : Int) (Q : Value → Heap → Prop) (Kn13 : (Int) → Heap → Prop) (h : Heap) : Prop :=
  ref44_search_from_b19 s_0 i_1 l_2a l_2n l_2c t_3a t_3n t_3c data_4 cursor_5 last_16 p_17 Q Kn13 h
def ref44_search_from_b16 (s_0 : Option Addr) (i_1 : Int) (l_2a : Option Addr) (l_2n : Nat) (l_2c : Nat) (t_3a : Option Addr) (t_3n : Nat) (t_3c : Nat) (data_4 : ByteArray) (cursor_5 : Int) (last_16 : Int) (p_17 : Int) (Q : Value → Heap → Prop) (Kn13 : (Int) → Heap → Prop) (h : Heap) : Prop :=
  CallT Try.prog fn_ref44_search_step #[Value.pointer s_0] h fun v h3 => ∃ t57 : Bool, v = Value.bool t57 ∧ if (!t57) = true then (ref44_search_from_b17 Q Kn13 h3) else (ref44_search_from_b18 s_0 i_1 l_2a l_2n l_2c t_3a t_3n t_3c data_4 cursor_5 last_16 p_17 Q Kn13 h3)
def ref44_search_from_b15 (s_0 : Option Addr) (i_1 : Int) (l_2a : Option Addr) (l_2n : Nat) (l_2c : Nat) (t_3a : Option Addr) (t_3n : Nat) (t_3c : Nat) (data_4 : ByteArray) (cursor_5 : Int) (last_16 : Int) (p_17 : Int) (Q : Value → Heap → Prop) (Kn13 : (Int) → Heap → Prop) (h : Heap) : Prop :=
  ref44_search_from_b16 s_0 i_1 l_2a l_2n l_2c t_3a t_3n t_3c data_4 cursor_5 last_16 p_17 Q Kn13 h
def ref44_search_from_b29 (s_0 : Option Addr) (i_1 : Int) (l_2a : Option Addr) (l_2n : Nat) (l_2c : Nat) (t_3a : Option Addr) (t_3n : Nat) (t_3c : Nat) (data_4 : ByteArray) (cursor_5 : Int) (Q : Value → Heap → Prop) (h : Heap) : Prop :=
  CallT Try.prog fn_ref44_search_from #[Value.pointer s_0, Value.int .i64 (IntKind.wrap .i64 (i_1 + (1 : Int))), Value.slice l_2a l_2n l_2c, Value.slice t_3a t_3n t_3c, Value.string data_4, Value.int .i64 cursor_5] h fun v h6 => ∃ t111_0 : Bool, ∃ t111_1 : Int, v = Value.tuple #[Value.bool t111_0, Value.int .i64 t111_1] ∧ Q (Value.tuple #[Value.bool t111_0, Value.int .i64 t111_1]) h6
def ref44_search_from_b30 (Q : Value → Heap → Prop) (h : Heap) : Prop :=
  Q (Value.tuple #[Value.bool false, Value.int .i64 (0 : Int)]) h
def ref44_search_from_b28 (s_0 : Option Addr) (i_1 : Int) (l_2a : Option Addr) (l_2n : Nat) (l_2c : Nat) (t_3a : Option Addr) (t_3n : Nat) (t_3c : Nat) (data_4 : ByteArray) (cursor_5 : Int) (Q : Value → Heap → Prop) (h : Heap) : Prop :=
  idxA i_1 l_2n (nn l_2a fun t101 => ldB h (Addr.add (Addr.add t101 ((i_1).toNat * 7)) 2) fun t103 => if t103 = true then (ref44_search_from_b29 s_0 i_1 l_2a l_2n l_2c t_3a t_3n t_3c data_4 cursor_5 Q h) else (ref44_search_from_b30 Q h))
def ref44_search_from_b27 (s_0 : Option Addr) (i_1 : Int) (l_2a : Option Addr) (l_2n : Nat) (l_2c : Nat) (t_3a : Option Addr) (t_3n : Nat) (t_3c : Nat) (data_4 : ByteArray) (cursor_5 : Int) (Q : Value → Heap → Prop) (h : Heap) : Prop :=
  ref44_search_from_b28 s_0 i_1 l_2a l_2n l_2c t_3a t_3n t_3c data_4 cursor_5 Q h
def ref44_search_from_b14 (s_0 : Option Addr) (i_1 : Int) (l_2a : Option Addr) (l_2n : Nat) (l_2c : Nat) (t_3a : Option Addr) (t_3n : Nat) (t_3c : Nat) (data_4 : ByteArray) (cursor_5 : Int) (last_16 : Int) (p_17 : Int) (Q : Value → Heap → Prop) (Kn13 : (Int) → Heap → Prop) (h : Heap) : Prop :=
  if (decide (p_17 ≤ last_16)) = true then (ref44_search_from_b15 s_0 i_1 l_2a l_2n l_2c t_3a t_3n t_3c data_4 cursor_5 last_16 p_17 Q Kn13 h) else (ref44_search_from_b27 s_0 i_1 l_2a l_2n l_2c t_3a t_3n t_3c data_4 cursor_5 Q h)
def ref44_search_from_l13 (s_0 : Option Addr) (i_1 : Int) (l_2a : Option Addr) (l_2n : Nat) (l_2c : Nat) (t_3a : Option Addr) (t_3n : Nat) (t_3c : Nat) (data_4 : ByteArray) (cursor_5 : Int) (last_16 : Int) (Q : Value → Heap → Prop) (p_17 : Int) (h : Heap) (Kn13 : (Int) → Heap → Prop) : Prop :=
  ref44_search_from_b14 s_0 i_1 l_2a l_2n l_2c t_3a t_3n t_3c data_4 cursor_5 last_16 p_17 Q Kn13 h
def ref44_search_from_b12 (s_0 : Option Addr) (i_1 : Int) (l_2a : Option Addr) (l_2n : Nat) (l_2c : Nat) (t_3a : Option Addr) (t_3n : Nat) (t_3c : Nat) (data_4 : ByteArray) (cursor_5 : Int) (first_15 : Int) (last_16 : Int) (Q : Value → Heap → Prop) (h : Heap) : Prop :=
  LoopV (fun (s : Int) h Kn => ref44_search_from_l13 s_0 i_1 l_2a l_2n l_2c t_3a t_3n t_3c data_4 cursor_5 last_16 Q s h Kn) first_15 h
def ref44_search_from_b11 (s_0 : Option Addr) (i_1 : Int) (l_2a : Option Addr) (l_2n : Nat) (l_2c : Nat) (t_3a : Option Addr) (t_3n : Nat) (t_3c : Nat) (data_4 : ByteArray) (cursor_5 : Int) (Q : Value → Heap → Prop) (h : Heap) : Prop :=
  idxA i_1 l_2n (nn l_2a fun t42 => ldS h (Addr.add t42 ((i_1).toNat * 7)) fun t43_0 => ldB h (Addr.add (Addr.add t42 ((i_1).toNat * 7)) 1) fun t43_1 => ldB h (Addr.add (Addr.add t42 ((i_1).toNat * 7)) 2) fun t43_2 => ldB h (Addr.add (Addr.add t42 ((i_1).toNat * 7)) 3) fun t43_3 => ldI h (Addr.add (Addr.add t42 ((i_1).toNat * 7)) 4) .i64 fun t43_4 => ldI h (Addr.add (Addr.add t42 ((i_1).toNat * 7)) 5) .i64 fun t43_5 => ldB h (Addr.add (Addr.add t42 ((i_1).toNat * 7)) 6) fun t43_6 => CallT Try.prog fn_ref44_Bounds #[Value.agg #[Value.string t43_0, Value.bool t43_1, Value.bool t43_2, Value.bool t43_3, Value.int .i64 t43_4, Value.int .i64 t43_5, Value.bool t43_6], Value.int .i64 ((data_4.size : Nat) : Int), Value.int .i64 cursor_5] h fun v h2 => ∃ t47_0 : Int, ∃ t47_1 : Int, v = Value.tuple #[Value.int .i64 t47_0, Value.int .i64 t47_1] ∧ ref44_search_from_b12 s_0 i_1 l_2a l_2n l_2c t_3a t_3n t_3c data_4 cursor_5 t47_0 t47_1 Q h2)
def ref44_search_from_b2 (s_0 : Option Addr) (i_1 : Int) (l_2a : Option Addr) (l_2n : Nat) (l_2c : Nat) (t_3a : Option Addr) (t_3n : Nat) (t_3c : Nat) (data_4 : ByteArray) (cursor_5 : Int) (Q : Value → Heap → Prop) (h : Heap) : Prop :=
  if (i_1 == ((l_2n : Nat) : Int)) = true then (ref44_search_from_b3 t_3a t_3n t_3c data_4 cursor_5 Q h) else (ref44_search_from_b11 s_0 i_1 l_2a l_2n l_2c t_3a t_3n t_3c data_4 cursor_5 Q h)
def ref44_search_from_b1 (s_0 : Option Addr) (i_1 : Int) (l_2a : Option Addr) (l_2n : Nat) (l_2c : Nat) (t_3a : Option Addr) (t_3n : Nat) (t_3c : Nat) (data_4 : ByteArray) (cursor_5 : Int) (Q : Value → Heap → Prop) (h : Heap) : Prop :=
  ref44_search_from_b2 s_0 i_1 l_2a l_2n l_2c t_3a t_3n t_3c data_4 cursor_5 Q h
def ref44_search_from_v (s_0 : Option Addr) (i_1 : Int) (l_2a : Option Addr) (l_2n : Nat) (l_2c : Nat) (t_3a : Option Addr) (t_3n : Nat) (t_3c : Nat) (data_4 : ByteArray) (cursor_5 : Int) (Q : Value → Heap → Prop) (h : Heap) : Prop :=
  ref44_search_from_b1 s_0 i_1 l_2a l_2n l_2c t_3a t_3n t_3c data_4 cursor_5 Q h
set_option maxRecDepth 100000 in
theorem ref44_search_from_e (s_0 : Option Addr) (i_1 : Int) (l_2a : Option Addr) (l_2n : Nat) (l_2c : Nat) (t_3a : Option Addr) (t_3n : Nat) (t_3c : Nat) (data_4 : ByteArray) (cursor_5 : Int) (Q : Value → Heap → Prop) (h : Heap) (hk : ref44_search_from_v s_0 i_1 l_2a l_2n l_2c t_3a t_3n t_3c data_4 cursor_5 Q h) :
    ∃ c, Try.f22.body = some c ∧ EWP Try.prog 114 c (fnPost Try.prog Try.f22 Q) (env0 #[Value.pointer s_0, Value.int .i64 i_1, Value.slice l_2a l_2n l_2c, Value.slice t_3a t_3n t_3c, Value.string data_4, Value.int .i64 cursor_5]) [] h := by
  refine ⟨_, rfl, ?_⟩
  have hk : ref44_search_from_b1 s_0 i_1 l_2a l_2n l_2c t_3a t_3n t_3c data_4 cursor_5 Q h := hk
  have f0 : env0 #[Value.pointer s_0, Value.int .i64 i_1, Value.slice l_2a l_2n l_2c, Value.slice t_3a t_3n t_3c, Value.string data_4, Value.int .i64 cursor_5] 0 = Value.pointer s_0 := rfl
  have f1 : env0 #[Value.pointer s_0, Value.int .i64 i_1, Value.slice l_2a l_2n l_2c, Value.slice t_3a t_3n t_3c, Value.string data_4, Value.int .i64 cursor_5] 1 = Value.int .i64 i_1 := rfl
  have f2 : env0 #[Value.pointer s_0, Value.int .i64 i_1, Value.slice l_2a l_2n l_2c, Value.slice t_3a t_3n t_3c, Value.string data_4, Value.int .i64 cursor_5] 2 = Value.slice l_2a l_2n l_2c := rfl
  have f3 : env0 #[Value.pointer s_0, Value.int .i64 i_1, Value.slice l_2a l_2n l_2c, Value.slice t_3a t_3n t_3c, Value.string data_4, Value.int .i64 cursor_5] 3 = Value.slice t_3a t_3n t_3c := rfl
  have f4 : env0 #[Value.pointer s_0, Value.int .i64 i_1, Value.slice l_2a l_2n l_2c, Value.slice t_3a t_3n t_3c, Value.string data_4, Value.int .i64 cursor_5] 4 = Value.string data_4 := rfl
  have f5 : env0 #[Value.pointer s_0, Value.int .i64 i_1, Value.slice l_2a l_2n l_2c, Value.slice t_3a t_3n t_3c, Value.string data_4, Value.int .i64 cursor_5] 5 = Value.int .i64 cursor_5 := rfl
  generalize env0 #[Value.pointer s_0, Value.int .i64 i_1, Value.slice l_2a l_2n l_2c, Value.slice t_3a t_3n t_3c, Value.string data_4, Value.int .i64 cursor_5] = e at *
  refine EWP.seqR (fun e h => ref44_search_from_b2 s_0 i_1 l_2a l_2n l_2c t_3a t_3n t_3c data_4 cursor_5 Q h) ?_ ?_ ?_
  · kernel_rfl
  · skip
    exact eqMp (by as_aux_lemma => kernel_rfl : _ = ref44_search_from_b1 s_0 i_1 l_2a l_2n l_2c t_3a t_3n t_3c data_4 cursor_5 Q h) hk
  · intro e h hp hk
    have f0 := (hp 0 (by kernel_rfl)).trans f0
    have f1 := (hp 1 (by kernel_rfl)).trans f1
    have f2 := (hp 2 (by kernel_rfl)).trans f2
    have f3 := (hp 3 (by kernel_rfl)).trans f3
    have f4 := (hp 4 (by kernel_rfl)).trans f4
    have f5 := (hp 5 (by kernel_rfl)).trans f5
    clear hp
    refine EWP.seqC (fun e h => e 0 = Value.pointer s_0 ∧ e 1 = Value.int .i64 i_1 ∧ e 2 = Value.slice l_2a l_2n l_2c ∧ e 3 = Value.slice t_3a t_3n t_3c ∧ e 4 = Value.string data_4 ∧ e 5 = Value.int .i64 cursor_5 ∧ ref44_search_from_b11 s_0 i_1 l_2a l_2n l_2c t_3a t_3n t_3c data_4 cursor_5 Q h) ?_ ?_
    · have he : upd (upd e 1 (Value.int .i64 i_1)) 2 (Value.slice l_2a l_2n l_2c) = e := by rw [upd_self f1, upd_self f2]
      refine EWP.seqR (fun e h => dB (e 23) fun t23 => if t23 = true then (ref44_search_from_b3 t_3a t_3n t_3c data_4 cursor_5 Q h) else (ref44_search_from_b11 s_0 i_1 l_2a l_2n l_2c t_3a t_3n t_3c data_4 cursor_5 Q h)) ?_ ?_ ?_
      · kernel_rfl
      · rw [← he]
        exact eqMp (by as_aux_lemma => kernel_rfl : _ = ref44_search_from_b2 s_0 i_1 l_2a l_2n l_2c t_3a t_3n t_3c data_4 cursor_5 Q h) hk
      · intro e h hp hk
        have f0 := (hp 0 (by kernel_rfl)).trans f0
        have f1 := (hp 1 (by kernel_rfl)).trans f1
        have f2 := (hp 2 (by kernel_rfl)).trans f2
        have f3 := (hp 3 (by kernel_rfl)).trans f3
        have f4 := (hp 4 (by kernel_rfl)).trans f4
        have f5 := (hp 5 (by kernel_rfl)).trans f5
        clear hp
        obtain ⟨t23, f23, hk⟩ := dB_elim hk
        have fc : eev e (.tmp 23) = .bool t23 := f23
        refine EWP.condI fc hk ?_ ?_
        · intro hk
          refine EWP.seqC (fun e h => e 5 = Value.int .i64 cursor_5 ∧ ref44_search_from_b10 cursor_5 Q h) ?_ ?_
          · refine EWP.seqR (fun e h => dI .i64 (e 14) fun k_14 => LoopV (fun (s : Int) h Kn => ref44_search_from_l4 t_3a t_3n t_3c data_4 cursor_5 Q s h Kn) k_14 h) ?_ ?_ ?_
            · kernel_rfl
            · skip
              exact eqMp (by as_aux_lemma => kernel_rfl : _ = ref44_search_from_b3 t_3a t_3n t_3c data_4 cursor_5 Q h) hk
            · intro e h hp hk
              have f3 := (hp 3 (by kernel_rfl)).trans f3
              have f4 := (hp 4 (by kernel_rfl)).trans f4
              have f5 := (hp 5 (by kernel_rfl)).trans f5
              clear hp
              obtain ⟨k_14, f14, hk⟩ := dI_elim hk
              refine EWP.block ?_
              refine EWP.loopV (fun e (s : Int) => e 3 = Value.slice t_3a t_3n t_3c ∧ e 4 = Value.string data_4 ∧ e 5 = Value.int .i64 cursor_5 ∧ e 14 = Value.int .i64 s) ⟨f3, f4, f5, f14⟩ hk ?_
              rintro e k_14 h Kn4 ⟨f3, f4, f5, f14⟩ hk
              have f14 : e 14 = Value.int .i64 k_14 := f14
              have hk : ref44_search_from_l4 t_3a t_3n t_3c data_4 cursor_5 Q k_14 h Kn4 := hk
              refine EWP.seqC (fun e h => e 3 = Value.slice t_3a t_3n t_3c ∧ e 4 = Value.string data_4 ∧ e 5 = Value.int .i64 cursor_5 ∧ e 14 = Value.int .i64 k_14 ∧ ref44_search_from_b6 t_3a t_3n t_3c data_4 cursor_5 k_14 Q Kn4 h) ?_ ?_
              · have he : upd (upd e 3 (Value.slice t_3a t_3n t_3c)) 14 (Value.int .i64 k_14) = e := by rw [upd_self f3, upd_self f14]
                refine EWP.seqR (fun e h => dB (e 27) fun t27 => if t27 = true then (ref44_search_from_b6 t_3a t_3n t_3c data_4 cursor_5 k_14 Q Kn4 h) else (ref44_search_from_b10 cursor_5 Q h)) ?_ ?_ ?_
                · kernel_rfl
                · rw [← he]
                  exact eqMp (by as_aux_lemma => kernel_rfl : _ = ref44_search_from_b5 t_3a t_3n t_3c data_4 cursor_5 k_14 Q Kn4 h) hk
                · intro e h hp hk
                  have f3 := (hp 3 (by kernel_rfl)).trans f3
                  have f4 := (hp 4 (by kernel_rfl)).trans f4
                  have f5 := (hp 5 (by kernel_rfl)).trans f5
                  have f14 := (hp 14 (by kernel_rfl)).trans f14
                  clear hp
                  obtain ⟨t27, f27, hk⟩ := dB_elim hk
                  have fc : eev e (.tmp 27) = .bool t27 := f27
                  refine EWP.condI fc hk ?_ ?_
                  · intro hk
                    refine EWP.skip ?_
                    exact (show _ ∧ _ from ⟨rfl, f3, f4, f5, f14, hk⟩)
                  · intro hk
                    refine EWP.exit ?_
                    exact (show _ ∧ _ from ⟨rfl, f5, hk⟩)
              · rintro e h ⟨f3, f4, f5, f14, hk⟩
                refine EWP.seqC (fun e h => e 3 = Value.slice t_3a t_3n t_3c ∧ e 4 = Value.string data_4 ∧ e 5 = Value.int .i64 cursor_5 ∧ e 14 = Value.int .i64 k_14 ∧ ref44_search_from_b9 t_3a t_3n t_3c data_4 cursor_5 k_14 Q Kn4 h) ?_ ?_
                · refine EWP.block ?_
                  have he : upd (upd (upd (upd e 3 (Value.slice t_3a t_3n t_3c)) 4 (Value.string data_4)) 5 (Value.int .i64 cursor_5)) 14 (Value.int .i64 k_14) = e := by rw [upd_self f3, upd_self f4, upd_self f5, upd_self f14]
                  refine EWP.seqR (fun e h => dB (e 37) fun t37 => if t37 = true then (ref44_search_from_b8 Q Kn4 h) else (ref44_search_from_b9 t_3a t_3n t_3c data_4 cursor_5 k_14 Q Kn4 h)) ?_ ?_ ?_
                  · kernel_rfl
                  · rw [← he]
                    exact eqMp (by as_aux_lemma => kernel_rfl : _ = ref44_search_from_b7 t_3a t_3n t_3c data_4 cursor_5 k_14 Q Kn4 h) hk
                  · intro e h hp hk
                    have f3 := (hp 3 (by kernel_rfl)).trans f3
                    have f4 := (hp 4 (by kernel_rfl)).trans f4
                    have f5 := (hp 5 (by kernel_rfl)).trans f5
                    have f14 := (hp 14 (by kernel_rfl)).trans f14
                    clear hp
                    obtain ⟨t37, f37, hk⟩ := dB_elim hk
                    have fc : eev e (.tmp 37) = .bool t37 := f37
                    refine EWP.condI fc hk ?_ ?_
                    · intro hk
                      refine EWP.seqR (fun e h => dB (e 12) fun t12 => dI .i64 (e 13) fun t13 => Q (Value.tuple #[Value.bool t12, Value.int .i64 t13]) h) ?_ ?_ ?_
                      · kernel_rfl
                      · skip
                        exact eqMp (by as_aux_lemma => kernel_rfl : _ = ref44_search_from_b8 Q Kn4 h) hk
                      · intro e h hp hk
                        clear hp
                        obtain ⟨t12, f12, hk⟩ := dB_elim hk
                        obtain ⟨t13, f13, hk⟩ := dI_elim hk
                        refine EWP.ret ?_
                        have he : upd (upd e 12 (Value.bool t12)) 13 (Value.int .i64 t13) = e := by rw [upd_self f12, upd_self f13]
                        refine (show _ ∧ _ from ⟨rfl, ?_⟩)
                        rw [← he]
                        exact eqMp (by as_aux_lemma => kernel_rfl : _ = (Q (Value.tuple #[Value.bool t12, Value.int .i64 t13]) h)) hk
                    · intro hk
                      refine EWP.skip ?_
                      exact (show _ ∧ _ from ⟨rfl, f3, f4, f5, f14, hk⟩)
                · rintro e h ⟨f3, f4, f5, f14, hk⟩
                  have he : upd e 14 (Value.int .i64 k_14) = e := by rw [upd_self f14]
                  refine EWP.regionN (fun e h => dI .i64 (e 14) fun k_14 => Kn4 (k_14) h) ?_ ?_ ?_
                  · kernel_rfl
                  · rw [← he]
                    exact eqMp (by as_aux_lemma => kernel_rfl : _ = ref44_search_from_b9 t_3a t_3n t_3c data_4 cursor_5 k_14 Q Kn4 h) hk
                  · intro e h hp hk
                    have f3 := (hp 3 (by kernel_rfl)).trans f3
                    have f4 := (hp 4 (by kernel_rfl)).trans f4
                    have f5 := (hp 5 (by kernel_rfl)).trans f5
                    clear hp
                    obtain ⟨k_14, f14, hk⟩ := dI_elim hk
                    exact (show _ ∧ _ from ⟨rfl, k_14, ⟨f3, f4, f5, f14⟩, hk⟩)
          · rintro e h ⟨f5, hk⟩
            have he : upd e 5 (Value.int .i64 cursor_5) = e := by rw [upd_self f5]
            refine EWP.seqR (fun e h => dB (e 12) fun t12 => dI .i64 (e 13) fun t13 => Q (Value.tuple #[Value.bool t12, Value.int .i64 t13]) h) ?_ ?_ ?_
            · kernel_rfl
            · rw [← he]
              exact eqMp (by as_aux_lemma => kernel_rfl : _ = ref44_search_from_b10 cursor_5 Q h) hk
            · intro e h hp hk
              clear hp
              obtain ⟨t12, f12, hk⟩ := dB_elim hk
              obtain ⟨t13, f13, hk⟩ := dI_elim hk
              refine EWP.ret ?_
              have he : upd (upd e 12 (Value.bool t12)) 13 (Value.int .i64 t13) = e := by rw [upd_self f12, upd_self f13]
              refine (show _ ∧ _ from ⟨rfl, ?_⟩)
              rw [← he]
              exact eqMp (by as_aux_lemma => kernel_rfl : _ = (Q (Value.tuple #[Value.bool t12, Value.int .i64 t13]) h)) hk
        · intro hk
          refine EWP.skip ?_
          exact (show _ ∧ _ from ⟨rfl, f0, f1, f2, f3, f4, f5, hk⟩)
    · rintro e h ⟨f0, f1, f2, f3, f4, f5, hk⟩
      have he : upd (upd (upd (upd e 1 (Value.int .i64 i_1)) 2 (Value.slice l_2a l_2n l_2c)) 4 (Value.string data_4)) 5 (Value.int .i64 cursor_5) = e := by rw [upd_self f1, upd_self f2, upd_self f4, upd_self f5]
      refine EWP.seqR (fun e h => dI .i64 (e 15) fun first_15 => dI .i64 (e 16) fun last_16 => ref44_search_from_b12 s_0 i_1 l_2a l_2n l_2c t_3a t_3n t_3c data_4 cursor_5 first_15 last_16 Q h) ?_ ?_ ?_
      · kernel_rfl
      · rw [← he]
        exact eqMp (by as_aux_lemma => kernel_rfl : _ = ref44_search_from_b11 s_0 i_1 l_2a l_2n l_2c t_3a t_3n t_3c data_4 cursor_5 Q h) hk
      · intro e h hp hk
        have f0 := (hp 0 (by kernel_rfl)).trans f0
        have f1 := (hp 1 (by kernel_rfl)).trans f1
        have f2 := (hp 2 (by kernel_rfl)).trans f2
        have f3 := (hp 3 (by kernel_rfl)).trans f3
        have f4 := (hp 4 (by kernel_rfl)).trans f4
        have f5 := (hp 5 (by kernel_rfl)).trans f5
        clear hp
        obtain ⟨first_15, f15, hk⟩ := dI_elim hk
        obtain ⟨last_16, f16, hk⟩ := dI_elim hk
        refine EWP.seqC (fun e h => e 0 = Value.pointer s_0 ∧ e 1 = Value.int .i64 i_1 ∧ e 2 = Value.slice l_2a l_2n l_2c ∧ e 3 = Value.slice t_3a t_3n t_3c ∧ e 4 = Value.string data_4 ∧ e 5 = Value.int .i64 cursor_5 ∧ ref44_search_from_b27 s_0 i_1 l_2a l_2n l_2c t_3a t_3n t_3c data_4 cursor_5 Q h) ?_ ?_
        · have he : upd e 15 (Value.int .i64 first_15) = e := by rw [upd_self f15]
          refine EWP.seqR (fun e h => dI .i64 (e 17) fun p_17 => LoopV (fun (s : Int) h Kn => ref44_search_from_l13 s_0 i_1 l_2a l_2n l_2c t_3a t_3n t_3c data_4 cursor_5 last_16 Q s h Kn) p_17 h) ?_ ?_ ?_
          · kernel_rfl
          · rw [← he]
            exact eqMp (by as_aux_lemma => kernel_rfl : _ = ref44_search_from_b12 s_0 i_1 l_2a l_2n l_2c t_3a t_3n t_3c data_4 cursor_5 first_15 last_16 Q h) hk
          · intro e h hp hk
            have f0 := (hp 0 (by kernel_rfl)).trans f0
            have f1 := (hp 1 (by kernel_rfl)).trans f1
            have f2 := (hp 2 (by kernel_rfl)).trans f2
            have f3 := (hp 3 (by kernel_rfl)).trans f3
            have f4 := (hp 4 (by kernel_rfl)).trans f4
            have f5 := (hp 5 (by kernel_rfl)).trans f5
            have f16 := (hp 16 (by kernel_rfl)).trans f16
            clear hp
            obtain ⟨p_17, f17, hk⟩ := dI_elim hk
            refine EWP.block ?_
            refine EWP.loopV (fun e (s : Int) => e 0 = Value.pointer s_0 ∧ e 1 = Value.int .i64 i_1 ∧ e 2 = Value.slice l_2a l_2n l_2c ∧ e 3 = Value.slice t_3a t_3n t_3c ∧ e 4 = Value.string data_4 ∧ e 5 = Value.int .i64 cursor_5 ∧ e 16 = Value.int .i64 last_16 ∧ e 17 = Value.int .i64 s) ⟨f0, f1, f2, f3, f4, f5, f16, f17⟩ hk ?_
            rintro e p_17 h Kn13 ⟨f0, f1, f2, f3, f4, f5, f16, f17⟩ hk
            have f17 : e 17 = Value.int .i64 p_17 := f17
            have hk : ref44_search_from_l13 s_0 i_1 l_2a l_2n l_2c t_3a t_3n t_3c data_4 cursor_5 last_16 Q p_17 h Kn13 := hk
            refine EWP.seqC (fun e h => e 0 = Value.pointer s_0 ∧ e 1 = Value.int .i64 i_1 ∧ e 2 = Value.slice l_2a l_2n l_2c ∧ e 3 = Value.slice t_3a t_3n t_3c ∧ e 4 = Value.string data_4 ∧ e 5 = Value.int .i64 cursor_5 ∧ e 16 = Value.int .i64 last_16 ∧ e 17 = Value.int .i64 p_17 ∧ ref44_search_from_b15 s_0 i_1 l_2a l_2n l_2c t_3a t_3n t_3c data_4 cursor_5 last_16 p_17 Q Kn13 h) ?_ ?_
            · have he : upd (upd e 16 (Value.int .i64 last_16)) 17 (Value.int .i64 p_17) = e := by rw [upd_self f16, upd_self f17]
              refine EWP.seqR (fun e h => dB (e 53) fun t53 => if t53 = true then (ref44_search_from_b15 s_0 i_1 l_2a l_2n l_2c t_3a t_3n t_3c data_4 cursor_5 last_16 p_17 Q Kn13 h) else (ref44_search_from_b27 s_0 i_1 l_2a l_2n l_2c t_3a t_3n t_3c data_4 cursor_5 Q h)) ?_ ?_ ?_
              · kernel_rfl
              · rw [← he]
                exact eqMp (by as_aux_lemma => kernel_rfl : _ = ref44_search_from_b14 s_0 i_1 l_2a l_2n l_2c t_3a t_3n t_3c data_4 cursor_5 last_16 p_17 Q Kn13 h) hk
              · intro e h hp hk
                have f0 := (hp 0 (by kernel_rfl)).trans f0
                have f1 := (hp 1 (by kernel_rfl)).trans f1
                have f2 := (hp 2 (by kernel_rfl)).trans f2
                have f3 := (hp 3 (by kernel_rfl)).trans f3
                have f4 := (hp 4 (by kernel_rfl)).trans f4
                have f5 := (hp 5 (by kernel_rfl)).trans f5
                have f16 := (hp 16 (by kernel_rfl)).trans f16
                have f17 := (hp 17 (by kernel_rfl)).trans f17
                clear hp
                obtain ⟨t53, f53, hk⟩ := dB_elim hk
                have fc : eev e (.tmp 53) = .bool t53 := f53
                refine EWP.condI fc hk ?_ ?_
                · intro hk
                  refine EWP.skip ?_
                  exact (show _ ∧ _ from ⟨rfl, f0, f1, f2, f3, f4, f5, f16, f17, hk⟩)
                · intro hk
                  refine EWP.exit ?_
                  exact (show _ ∧ _ from ⟨rfl, f0, f1, f2, f3, f4, f5, hk⟩)
            · rintro e h ⟨f0, f1, f2, f3, f4, f5, f16, f17, hk⟩
              refine EWP.seqC (fun e h => e 0 = Value.pointer s_0 ∧ e 1 = Value.int .i64 i_1 ∧ e 2 = Value.slice l_2a l_2n l_2c ∧ e 3 = Value.slice t_3a t_3n t_3c ∧ e 4 = Value.string data_4 ∧ e 5 = Value.int .i64 cursor_5 ∧ e 16 = Value.int .i64 last_16 ∧ e 17 = Value.int .i64 p_17 ∧ ref44_search_from_b20 s_0 i_1 l_2a l_2n l_2c t_3a t_3n t_3c data_4 cursor_5 last_16 p_17 Q Kn13 h) ?_ ?_
              · refine EWP.block ?_
                refine EWP.seqC (fun e h => e 0 = Value.pointer s_0 ∧ e 1 = Value.int .i64 i_1 ∧ e 2 = Value.slice l_2a l_2n l_2c ∧ e 3 = Value.slice t_3a t_3n t_3c ∧ e 4 = Value.string data_4 ∧ e 5 = Value.int .i64 cursor_5 ∧ e 16 = Value.int .i64 last_16 ∧ e 17 = Value.int .i64 p_17 ∧ ref44_search_from_b18 s_0 i_1 l_2a l_2n l_2c t_3a t_3n t_3c data_4 cursor_5 last_16 p_17 Q Kn13 h) ?_ ?_
                · have he : upd e 0 (Value.pointer s_0) = e := by rw [upd_self f0]
                  refine EWP.seqR (fun e h => dB (e 58) fun t58 => if t58 = true then (ref44_search_from_b17 Q Kn13 h) else (ref44_search_from_b18 s_0 i_1 l_2a l_2n l_2c t_3a t_3n t_3c data_4 cursor_5 last_16 p_17 Q Kn13 h)) ?_ ?_ ?_
                  · kernel_rfl
                  · rw [← he]
                    exact eqMp (by as_aux_lemma => kernel_rfl : _ = ref44_search_from_b16 s_0 i_1 l_2a l_2n l_2c t_3a t_3n t_3c data_4 cursor_5 last_16 p_17 Q Kn13 h) hk
                  · intro e h hp hk
                    have f0 := (hp 0 (by kernel_rfl)).trans f0
                    have f1 := (hp 1 (by kernel_rfl)).trans f1
                    have f2 := (hp 2 (by kernel_rfl)).trans f2
                    have f3 := (hp 3 (by kernel_rfl)).trans f3
                    have f4 := (hp 4 (by kernel_rfl)).trans f4
                    have f5 := (hp 5 (by kernel_rfl)).trans f5
                    have f16 := (hp 16 (by kernel_rfl)).trans f16
                    have f17 := (hp 17 (by kernel_rfl)).trans f17
                    clear hp
                    obtain ⟨t58, f58, hk⟩ := dB_elim hk
                    have fc : eev e (.tmp 58) = .bool t58 := f58
                    refine EWP.condI fc hk ?_ ?_
                    · intro hk
                      refine EWP.seqR (fun e h => dB (e 12) fun t12 => dI .i64 (e 13) fun t13 => Q (Value.tuple #[Value.bool t12, Value.int .i64 t13]) h) ?_ ?_ ?_
                      · kernel_rfl
                      · skip
                        exact eqMp (by as_aux_lemma => kernel_rfl : _ = ref44_search_from_b17 Q Kn13 h) hk
                      · intro e h hp hk
                        clear hp
                        obtain ⟨t12, f12, hk⟩ := dB_elim hk
                        obtain ⟨t13, f13, hk⟩ := dI_elim hk
                        refine EWP.ret ?_
                        have he : upd (upd e 12 (Value.bool t12)) 13 (Value.int .i64 t13) = e := by rw [upd_self f12, upd_self f13]
                        refine (show _ ∧ _ from ⟨rfl, ?_⟩)
                        rw [← he]
                        exact eqMp (by as_aux_lemma => kernel_rfl : _ = (Q (Value.tuple #[Value.bool t12, Value.int .i64 t13]) h)) hk
                    · intro hk
                      refine EWP.skip ?_
                      exact (show _ ∧ _ from ⟨rfl, f0, f1, f2, f3, f4, f5, f16, f17, hk⟩)
                · rintro e h ⟨f0, f1, f2, f3, f4, f5, f16, f17, hk⟩
                  refine EWP.seqC (fun e h => e 0 = Value.pointer s_0 ∧ e 1 = Value.int .i64 i_1 ∧ e 2 = Value.slice l_2a l_2n l_2c ∧ e 3 = Value.slice t_3a t_3n t_3c ∧ e 4 = Value.string data_4 ∧ e 5 = Value.int .i64 cursor_5 ∧ e 16 = Value.int .i64 last_16 ∧ e 17 = Value.int .i64 p_17 ∧ ref44_search_from_b21 s_0 i_1 l_2a l_2n l_2c t_3a t_3n t_3c data_4 cursor_5 last_16 p_17 Q Kn13 h) ?_ ?_
                  · have he : upd (upd (upd (upd e 1 (Value.int .i64 i_1)) 2 (Value.slice l_2a l_2n l_2c)) 4 (Value.string data_4)) 17 (Value.int .i64 p_17) = e := by rw [upd_self f1, upd_self f2, upd_self f4, upd_self f17]
                    refine EWP.seqR (fun e h => dB (e 66) fun t66 => if t66 = true then (ref44_search_from_b20 s_0 i_1 l_2a l_2n l_2c t_3a t_3n t_3c data_4 cursor_5 last_16 p_17 Q Kn13 h) else (ref44_search_from_b21 s_0 i_1 l_2a l_2n l_2c t_3a t_3n t_3c data_4 cursor_5 last_16 p_17 Q Kn13 h)) ?_ ?_ ?_
                    · kernel_rfl
                    · rw [← he]
                      exact eqMp (by as_aux_lemma => kernel_rfl : _ = ref44_search_from_b19 s_0 i_1 l_2a l_2n l_2c t_3a t_3n t_3c data_4 cursor_5 last_16 p_17 Q Kn13 h) hk
                    · intro e h hp hk
                      have f0 := (hp 0 (by kernel_rfl)).trans f0
                      have f1 := (hp 1 (by kernel_rfl)).trans f1
                      have f2 := (hp 2 (by kernel_rfl)).trans f2
                      have f3 := (hp 3 (by kernel_rfl)).trans f3
                      have f4 := (hp 4 (by kernel_rfl)).trans f4
                      have f5 := (hp 5 (by kernel_rfl)).trans f5
                      have f16 := (hp 16 (by kernel_rfl)).trans f16
                      have f17 := (hp 17 (by kernel_rfl)).trans f17
                      clear hp
                      obtain ⟨t66, f66, hk⟩ := dB_elim hk
                      have fc : eev e (.tmp 66) = .bool t66 := f66
                      refine EWP.condI fc hk ?_ ?_
                      · intro hk
                        refine EWP.exit ?_
                        exact (show _ ∧ _ from ⟨rfl, f0, f1, f2, f3, f4, f5, f16, f17, hk⟩)
                      · intro hk
                        refine EWP.skip ?_
                        exact (show _ ∧ _ from ⟨rfl, f0, f1, f2, f3, f4, f5, f16, f17, hk⟩)
                  · rintro e h ⟨f0, f1, f2, f3, f4, f5, f16, f17, hk⟩
                    refine EWP.seqC (fun e h => e 0 = Value.pointer s_0 ∧ e 1 = Value.int .i64 i_1 ∧ e 2 = Value.slice l_2a l_2n l_2c ∧ e 3 = Value.slice t_3a t_3n t_3c ∧ e 4 = Value.string data_4 ∧ e 5 = Value.int .i64 cursor_5 ∧ e 16 = Value.int .i64 last_16 ∧ e 17 = Value.int .i64 p_17 ∧ ref44_search_from_b24 s_0 i_1 l_2a l_2n l_2c t_3a t_3n t_3c data_4 cursor_5 last_16 p_17 Q Kn13 h) ?_ ?_
                    · have he : upd (upd e 1 (Value.int .i64 i_1)) 2 (Value.slice l_2a l_2n l_2c) = e := by rw [upd_self f1, upd_self f2]
                      refine EWP.seqR (fun e h => dB (e 71) fun t71 => if t71 = true then (ref44_search_from_b23 Q Kn13 h) else (ref44_search_from_b24 s_0 i_1 l_2a l_2n l_2c t_3a t_3n t_3c data_4 cursor_5 last_16 p_17 Q Kn13 h)) ?_ ?_ ?_
                      · kernel_rfl
                      · rw [← he]
                        exact eqMp (by as_aux_lemma => kernel_rfl : _ = ref44_search_from_b22 s_0 i_1 l_2a l_2n l_2c t_3a t_3n t_3c data_4 cursor_5 last_16 p_17 Q Kn13 h) hk
                      · intro e h hp hk
                        have f0 := (hp 0 (by kernel_rfl)).trans f0
                        have f1 := (hp 1 (by kernel_rfl)).trans f1
                        have f2 := (hp 2 (by kernel_rfl)).trans f2
                        have f3 := (hp 3 (by kernel_rfl)).trans f3
                        have f4 := (hp 4 (by kernel_rfl)).trans f4
                        have f5 := (hp 5 (by kernel_rfl)).trans f5
                        have f16 := (hp 16 (by kernel_rfl)).trans f16
                        have f17 := (hp 17 (by kernel_rfl)).trans f17
                        clear hp
                        obtain ⟨t71, f71, hk⟩ := dB_elim hk
                        have fc : eev e (.tmp 71) = .bool t71 := f71
                        refine EWP.condI fc hk ?_ ?_
                        · intro hk
                          refine EWP.seqR (fun e h => dB (e 12) fun t12 => dI .i64 (e 13) fun t13 => Q (Value.tuple #[Value.bool t12, Value.int .i64 t13]) h) ?_ ?_ ?_
                          · kernel_rfl
                          · skip
                            exact eqMp (by as_aux_lemma => kernel_rfl : _ = ref44_search_from_b23 Q Kn13 h) hk
                          · intro e h hp hk
                            clear hp
                            obtain ⟨t12, f12, hk⟩ := dB_elim hk
                            obtain ⟨t13, f13, hk⟩ := dI_elim hk
                            refine EWP.ret ?_
                            have he : upd (upd e 12 (Value.bool t12)) 13 (Value.int .i64 t13) = e := by rw [upd_self f12, upd_self f13]
                            refine (show _ ∧ _ from ⟨rfl, ?_⟩)
                            rw [← he]
                            exact eqMp (by as_aux_lemma => kernel_rfl : _ = (Q (Value.tuple #[Value.bool t12, Value.int .i64 t13]) h)) hk
                        · intro hk
                          refine EWP.skip ?_
                          exact (show _ ∧ _ from ⟨rfl, f0, f1, f2, f3, f4, f5, f16, f17, hk⟩)
                    · rintro e h ⟨f0, f1, f2, f3, f4, f5, f16, f17, hk⟩
                      have he : upd (upd (upd (upd (upd (upd e 0 (Value.pointer s_0)) 1 (Value.int .i64 i_1)) 2 (Value.slice l_2a l_2n l_2c)) 3 (Value.slice t_3a t_3n t_3c)) 4 (Value.string data_4)) 17 (Value.int .i64 p_17) = e := by rw [upd_self f0, upd_self f1, upd_self f2, upd_self f3, upd_self f4, upd_self f17]
                      refine EWP.seqR (fun e h => dB (e 18) fun ok_18 => dI .i64 (e 19) fun end_19 => ref44_search_from_b25 s_0 i_1 l_2a l_2n l_2c t_3a t_3n t_3c data_4 cursor_5 last_16 p_17 ok_18 end_19 Q Kn13 h) ?_ ?_ ?_
                      · kernel_rfl
                      · rw [← he]
                        exact eqMp (by as_aux_lemma => kernel_rfl : _ = ref44_search_from_b24 s_0 i_1 l_2a l_2n l_2c t_3a t_3n t_3c data_4 cursor_5 last_16 p_17 Q Kn13 h) hk
                      · intro e h hp hk
                        have f0 := (hp 0 (by kernel_rfl)).trans f0
                        have f1 := (hp 1 (by kernel_rfl)).trans f1
                        have f2 := (hp 2 (by kernel_rfl)).trans f2
                        have f3 := (hp 3 (by kernel_rfl)).trans f3
                        have f4 := (hp 4 (by kernel_rfl)).trans f4
                        have f5 := (hp 5 (by kernel_rfl)).trans f5
                        have f16 := (hp 16 (by kernel_rfl)).trans f16
                        have f17 := (hp 17 (by kernel_rfl)).trans f17
                        clear hp
                        obtain ⟨ok_18, f18, hk⟩ := dB_elim hk
                        obtain ⟨end_19, f19, hk⟩ := dI_elim hk
                        have he : upd (upd e 0 (Value.pointer s_0)) 18 (Value.bool ok_18) = e := by rw [upd_self f0, upd_self f18]
                        refine EWP.seqR (fun e h => dB (e 96) fun t96 => if t96 = true then (ref44_search_from_b26 ok_18 end_19 Q Kn13 h) else (ref44_search_from_b20 s_0 i_1 l_2a l_2n l_2c t_3a t_3n t_3c data_4 cursor_5 last_16 p_17 Q Kn13 h)) ?_ ?_ ?_
                        · kernel_rfl
                        · rw [← he]
                          exact eqMp (by as_aux_lemma => kernel_rfl : _ = ref44_search_from_b25 s_0 i_1 l_2a l_2n l_2c t_3a t_3n t_3c data_4 cursor_5 last_16 p_17 ok_18 end_19 Q Kn13 h) hk
                        · intro e h hp hk
                          have f0 := (hp 0 (by kernel_rfl)).trans f0
                          have f1 := (hp 1 (by kernel_rfl)).trans f1
                          have f2 := (hp 2 (by kernel_rfl)).trans f2
                          have f3 := (hp 3 (by kernel_rfl)).trans f3
                          have f4 := (hp 4 (by kernel_rfl)).trans f4
                          have f5 := (hp 5 (by kernel_rfl)).trans f5
                          have f16 := (hp 16 (by kernel_rfl)).trans f16
                          have f17 := (hp 17 (by kernel_rfl)).trans f17
                          have f18 := (hp 18 (by kernel_rfl)).trans f18
                          have f19 := (hp 19 (by kernel_rfl)).trans f19
                          clear hp
                          obtain ⟨t96, f96, hk⟩ := dB_elim hk
                          have fc : eev e (.tmp 96) = .bool t96 := f96
                          refine EWP.condI fc hk ?_ ?_
                          · intro hk
                            have he : upd (upd e 18 (Value.bool ok_18)) 19 (Value.int .i64 end_19) = e := by rw [upd_self f18, upd_self f19]
                            refine EWP.seqR (fun e h => dB (e 12) fun t12 => dI .i64 (e 13) fun t13 => Q (Value.tuple #[Value.bool t12, Value.int .i64 t13]) h) ?_ ?_ ?_
                            · kernel_rfl
                            · rw [← he]
                              exact eqMp (by as_aux_lemma => kernel_rfl : _ = ref44_search_from_b26 ok_18 end_19 Q Kn13 h) hk
                            · intro e h hp hk
                              clear hp
                              obtain ⟨t12, f12, hk⟩ := dB_elim hk
                              obtain ⟨t13, f13, hk⟩ := dI_elim hk
                              refine EWP.ret ?_
                              have he : upd (upd e 12 (Value.bool t12)) 13 (Value.int .i64 t13) = e := by rw [upd_self f12, upd_self f13]
                              refine (show _ ∧ _ from ⟨rfl, ?_⟩)
                              rw [← he]
                              exact eqMp (by as_aux_lemma => kernel_rfl : _ = (Q (Value.tuple #[Value.bool t12, Value.int .i64 t13]) h)) hk
                          · intro hk
                            refine EWP.skip ?_
                            exact (show _ ∧ _ from ⟨rfl, f0, f1, f2, f3, f4, f5, f16, f17, hk⟩)
              · rintro e h ⟨f0, f1, f2, f3, f4, f5, f16, f17, hk⟩
                have he : upd e 17 (Value.int .i64 p_17) = e := by rw [upd_self f17]
                refine EWP.regionN (fun e h => dI .i64 (e 17) fun p_17 => Kn13 (p_17) h) ?_ ?_ ?_
                · kernel_rfl
                · rw [← he]
                  exact eqMp (by as_aux_lemma => kernel_rfl : _ = ref44_search_from_b20 s_0 i_1 l_2a l_2n l_2c t_3a t_3n t_3c data_4 cursor_5 last_16 p_17 Q Kn13 h) hk
                · intro e h hp hk
                  have f0 := (hp 0 (by kernel_rfl)).trans f0
                  have f1 := (hp 1 (by kernel_rfl)).trans f1
                  have f2 := (hp 2 (by kernel_rfl)).trans f2
                  have f3 := (hp 3 (by kernel_rfl)).trans f3
                  have f4 := (hp 4 (by kernel_rfl)).trans f4
                  have f5 := (hp 5 (by kernel_rfl)).trans f5
                  have f16 := (hp 16 (by kernel_rfl)).trans f16
                  clear hp
                  obtain ⟨p_17, f17, hk⟩ := dI_elim hk
                  exact (show _ ∧ _ from ⟨rfl, p_17, ⟨f0, f1, f2, f3, f4, f5, f16, f17⟩, hk⟩)
        · rintro e h ⟨f0, f1, f2, f3, f4, f5, hk⟩
          refine EWP.seqC (fun e h => ref44_search_from_b30 Q h) ?_ ?_
          · have he : upd (upd e 1 (Value.int .i64 i_1)) 2 (Value.slice l_2a l_2n l_2c) = e := by rw [upd_self f1, upd_self f2]
            refine EWP.seqR (fun e h => dB (e 103) fun t103 => if t103 = true then (ref44_search_from_b29 s_0 i_1 l_2a l_2n l_2c t_3a t_3n t_3c data_4 cursor_5 Q h) else (ref44_search_from_b30 Q h)) ?_ ?_ ?_
            · kernel_rfl
            · rw [← he]
              exact eqMp (by as_aux_lemma => kernel_rfl : _ = ref44_search_from_b28 s_0 i_1 l_2a l_2n l_2c t_3a t_3n t_3c data_4 cursor_5 Q h) hk
            · intro e h hp hk
              have f0 := (hp 0 (by kernel_rfl)).trans f0
              have f1 := (hp 1 (by kernel_rfl)).trans f1
              have f2 := (hp 2 (by kernel_rfl)).trans f2
              have f3 := (hp 3 (by kernel_rfl)).trans f3
              have f4 := (hp 4 (by kernel_rfl)).trans f4
              have f5 := (hp 5 (by kernel_rfl)).trans f5
              clear hp
              obtain ⟨t103, f103, hk⟩ := dB_elim hk
              have fc : eev e (.tmp 103) = .bool t103 := f103
              refine EWP.condI fc hk ?_ ?_
              · intro hk
                have he : upd (upd (upd (upd (upd (upd e 0 (Value.pointer s_0)) 1 (Value.int .i64 i_1)) 2 (Value.slice l_2a l_2n l_2c)) 3 (Value.slice t_3a t_3n t_3c)) 4 (Value.string data_4)) 5 (Value.int .i64 cursor_5) = e := by rw [upd_self f0, upd_self f1, upd_self f2, upd_self f3, upd_self f4, upd_self f5]
                refine EWP.seqR (fun e h => dB (e 12) fun t12 => dI .i64 (e 13) fun t13 => Q (Value.tuple #[Value.bool t12, Value.int .i64 t13]) h) ?_ ?_ ?_
                · kernel_rfl
                · rw [← he]
                  exact eqMp (by as_aux_lemma => kernel_rfl : _ = ref44_search_from_b29 s_0 i_1 l_2a l_2n l_2c t_3a t_3n t_3c data_4 cursor_5 Q h) hk
                · intro e h hp hk
                  clear hp
                  obtain ⟨t12, f12, hk⟩ := dB_elim hk
                  obtain ⟨t13, f13, hk⟩ := dI_elim hk
                  refine EWP.ret ?_
                  have he : upd (upd e 12 (Value.bool t12)) 13 (Value.int .i64 t13) = e := by rw [upd_self f12, upd_self f13]
                  refine (show _ ∧ _ from ⟨rfl, ?_⟩)
                  rw [← he]
                  exact eqMp (by as_aux_lemma => kernel_rfl : _ = (Q (Value.tuple #[Value.bool t12, Value.int .i64 t13]) h)) hk
              · intro hk
                refine EWP.skip ?_
                exact (show _ ∧ _ from ⟨rfl, hk⟩)
          · rintro e h hk
            refine EWP.seqR (fun e h => dB (e 12) fun t12 => dI .i64 (e 13) fun t13 => Q (Value.tuple #[Value.bool t12, Value.int .i64 t13]) h) ?_ ?_ ?_
            · kernel_rfl
            · skip
              exact eqMp (by as_aux_lemma => kernel_rfl : _ = ref44_search_from_b30 Q h) hk
            · intro e h hp hk
              clear hp
              obtain ⟨t12, f12, hk⟩ := dB_elim hk
              obtain ⟨t13, f13, hk⟩ := dI_elim hk
              refine EWP.ret ?_
              have he : upd (upd e 12 (Value.bool t12)) 13 (Value.int .i64 t13) = e := by rw [upd_self f12, upd_self f13]
              refine (show _ ∧ _ from ⟨rfl, ?_⟩)
              rw [← he]
              exact eqMp (by as_aux_lemma => kernel_rfl : _ = (Q (Value.tuple #[Value.bool t12, Value.int .i64 t13]) h)) hk
theorem ref44_search_from_s (s_0 : Option Addr) (i_1 : Int) (l_2a : Option Addr) (l_2n : Nat) (l_2c : Nat) (t_3a : Option Addr) (t_3n : Nat) (t_3c : Nat) (data_4 : ByteArray) (cursor_5 : Int) {Q : Value → Heap → Prop} {h : Heap} (hk : ref44_search_from_v s_0 i_1 l_2a l_2n l_2c t_3a t_3n t_3c data_4 cursor_5 Q h) : CallT Try.prog fn_ref44_search_from #[Value.pointer s_0, Value.int .i64 i_1, Value.slice l_2a l_2n l_2c, Value.slice t_3a t_3n t_3c, Value.string data_4, Value.int .i64 cursor_5] h Q := by
  obtain ⟨c, hb, he⟩ := ref44_search_from_e s_0 i_1 l_2a l_2n l_2c t_3a t_3n t_3c data_4 cursor_5 Q h hk
  exact callT_of (N := 114) Try.func22 hb rfl (Try.call22 _) (Nat.le_of_ble_eq_true rfl) he
/-! ### (*intrusion/content.search).from$1 -/
def content_search_from_1_b3 (Q : Value → Heap → Prop) (h : Heap) : Prop :=
  Q (Value.tuple #[Value.int .i64 (0 : Int), Value.bool false]) h
def content_search_from_1_b6 (Q : Value → Heap → Prop) (h : Heap) : Prop :=
  Q (Value.tuple #[Value.int .i64 (0 : Int), Value.bool true]) h
def content_search_from_1_b7 (t0 : Addr) (t1 : Addr) (t2 : Addr) (t3 : Addr) (Q : Value → Heap → Prop) (h : Heap) : Prop :=
  ldP h t0 fun t13 => ldI h t3 .i64 fun t14 => ldI h t2 .i64 fun t16 => ldS h t1 fun t18 => CallT Try.prog fn_content_search_from #[Value.pointer t13, Value.int .i64 (IntKind.wrap .i64 (t14 + (1 : Int))), Value.int .i64 (IntKind.wrap .i64 (t16 + ((t18.size : Nat) : Int)))] h fun v h2 => ∃ t21_0 : Int, ∃ t21_1 : Bool, v = Value.tuple #[Value.int .i64 t21_0, Value.bool t21_1] ∧ Q (Value.tuple #[Value.int .i64 t21_0, Value.bool t21_1]) h2
def content_search_from_1_b5 (t0 : Addr) (t1 : Addr) (t2 : Addr) (t3 : Addr) (Q : Value → Heap → Prop) (h : Heap) : Prop :=
  ldB h (Addr.add t1 2) fun t12 => if t12 = true then (content_search_from_1_b6 Q h) else (content_search_from_1_b7 t0 t1 t2 t3 Q h)
def content_search_from_1_b4 (t0 : Addr) (t1 : Addr) (t2 : Addr) (t3 : Addr) (Q : Value → Heap → Prop) (h : Heap) : Prop :=
  content_search_from_1_b5 t0 t1 t2 t3 Q h
def content_search_from_1_b2 (t0 : Addr) (t1 : Addr) (t2 : Addr) (t3 : Addr) (Q : Value → Heap → Prop) (h : Heap) : Prop :=
  ldP h t0 fun t6 => ldS h t1 fun t7_0 => ldB h (Addr.add t1 1) fun t7_1 => ldB h (Addr.add t1 2) fun t7_2 => ldB h (Addr.add t1 3) fun t7_3 => ldI h (Addr.add t1 4) .i64 fun t7_4 => ldI h (Addr.add t1 5) .i64 fun t7_5 => ldB h (Addr.add t1 6) fun t7_6 => ldI h t2 .i64 fun t8 => CallT Try.prog fn_content_search_compare #[Value.pointer t6, Value.agg #[Value.string t7_0, Value.bool t7_1, Value.bool t7_2, Value.bool t7_3, Value.int .i64 t7_4, Value.int .i64 t7_5, Value.bool t7_6], Value.int .i64 t8] h fun v h1 => ∃ t9 : Bool, v = Value.bool t9 ∧ if (!t9) = true then (content_search_from_1_b3 Q h1) else (content_search_from_1_b4 t0 t1 t2 t3 Q h1)
def content_search_from_1_b1 (t0 : Addr) (t1 : Addr) (t2 : Addr) (t3 : Addr) (Q : Value → Heap → Prop) (h : Heap) : Prop :=
  content_search_from_1_b2 t0 t1 t2 t3 Q h
def content_search_from_1_v (t0 : Addr) (t1 : Addr) (t2 : Addr) (t3 : Addr) (Q : Value → Heap → Prop) (h : Heap) : Prop :=
  content_search_from_1_b1 t0 t1 t2 t3 Q h
set_option maxRecDepth 100000 in
theorem content_search_from_1_e (t0 : Addr) (t1 : Addr) (t2 : Addr) (t3 : Addr) (Q : Value → Heap → Prop) (h : Heap) (hk : content_search_from_1_v t0 t1 t2 t3 Q h) :
    ∃ c, Try.f23.body = some c ∧ EWP Try.prog 24 c (fnPost Try.prog Try.f23 Q) (env0 #[Value.pointer (some t0), Value.pointer (some t1), Value.pointer (some t2), Value.pointer (some t3)]) [] h := by
  refine ⟨_, rfl, ?_⟩
  have hk : content_search_from_1_b1 t0 t1 t2 t3 Q h := hk
  have f0 : env0 #[Value.pointer (some t0), Value.pointer (some t1), Value.pointer (some t2), Value.pointer (some t3)] 0 = Value.pointer (some t0) := rfl
  have f1 : env0 #[Value.pointer (some t0), Value.pointer (some t1), Value.pointer (some t2), Value.pointer (some t3)] 1 = Value.pointer (some t1) := rfl
  have f2 : env0 #[Value.pointer (some t0), Value.pointer (some t1), Value.pointer (some t2), Value.pointer (some t3)] 2 = Value.pointer (some t2) := rfl
  have f3 : env0 #[Value.pointer (some t0), Value.pointer (some t1), Value.pointer (some t2), Value.pointer (some t3)] 3 = Value.pointer (some t3) := rfl
  generalize env0 #[Value.pointer (some t0), Value.pointer (some t1), Value.pointer (some t2), Value.pointer (some t3)] = e at *
  refine EWP.seqR (fun e h => content_search_from_1_b2 t0 t1 t2 t3 Q h) ?_ ?_ ?_
  · kernel_rfl
  · skip
    exact eqMp (by as_aux_lemma => kernel_rfl : _ = content_search_from_1_b1 t0 t1 t2 t3 Q h) hk
  · intro e h hp hk
    have f0 := (hp 0 (by kernel_rfl)).trans f0
    have f1 := (hp 1 (by kernel_rfl)).trans f1
    have f2 := (hp 2 (by kernel_rfl)).trans f2
    have f3 := (hp 3 (by kernel_rfl)).trans f3
    clear hp
    refine EWP.seqC (fun e h => e 0 = Value.pointer (some t0) ∧ e 1 = Value.pointer (some t1) ∧ e 2 = Value.pointer (some t2) ∧ e 3 = Value.pointer (some t3) ∧ content_search_from_1_b4 t0 t1 t2 t3 Q h) ?_ ?_
    · have he : upd (upd (upd e 0 (Value.pointer (some t0))) 1 (Value.pointer (some t1))) 2 (Value.pointer (some t2)) = e := by rw [upd_self f0, upd_self f1, upd_self f2]
      refine EWP.seqR (fun e h => dB (e 10) fun t10 => if t10 = true then (content_search_from_1_b3 Q h) else (content_search_from_1_b4 t0 t1 t2 t3 Q h)) ?_ ?_ ?_
      · kernel_rfl
      · rw [← he]
        exact eqMp (by as_aux_lemma => kernel_rfl : _ = content_search_from_1_b2 t0 t1 t2 t3 Q h) hk
      · intro e h hp hk
        have f0 := (hp 0 (by kernel_rfl)).trans f0
        have f1 := (hp 1 (by kernel_rfl)).trans f1
        have f2 := (hp 2 (by kernel_rfl)).trans f2
        have f3 := (hp 3 (by kernel_rfl)).trans f3
        clear hp
        obtain ⟨t10, f10, hk⟩ := dB_elim hk
        have fc : eev e (.tmp 10) = .bool t10 := f10
        refine EWP.condI fc hk ?_ ?_
        · intro hk
          refine EWP.seqR (fun e h => dI .i64 (e 4) fun t4 => dB (e 5) fun t5 => Q (Value.tuple #[Value.int .i64 t4, Value.bool t5]) h) ?_ ?_ ?_
          · kernel_rfl
          · skip
            exact eqMp (by as_aux_lemma => kernel_rfl : _ = content_search_from_1_b3 Q h) hk
          · intro e h hp hk
            clear hp
            obtain ⟨t4, f4, hk⟩ := dI_elim hk
            obtain ⟨t5, f5, hk⟩ := dB_elim hk
            refine EWP.ret ?_
            have he : upd (upd e 4 (Value.int .i64 t4)) 5 (Value.bool t5) = e := by rw [upd_self f4, upd_self f5]
            refine (show _ ∧ _ from ⟨rfl, ?_⟩)
            rw [← he]
            exact eqMp (by as_aux_lemma => kernel_rfl : _ = (Q (Value.tuple #[Value.int .i64 t4, Value.bool t5]) h)) hk
        · intro hk
          refine EWP.skip ?_
          exact (show _ ∧ _ from ⟨rfl, f0, f1, f2, f3, hk⟩)
    · rintro e h ⟨f0, f1, f2, f3, hk⟩
      refine EWP.seqC (fun e h => e 0 = Value.pointer (some t0) ∧ e 1 = Value.pointer (some t1) ∧ e 2 = Value.pointer (some t2) ∧ e 3 = Value.pointer (some t3) ∧ content_search_from_1_b7 t0 t1 t2 t3 Q h) ?_ ?_
      · have he : upd e 1 (Value.pointer (some t1)) = e := by rw [upd_self f1]
        refine EWP.seqR (fun e h => dB (e 12) fun t12 => if t12 = true then (content_search_from_1_b6 Q h) else (content_search_from_1_b7 t0 t1 t2 t3 Q h)) ?_ ?_ ?_
        · kernel_rfl
        · rw [← he]
          exact eqMp (by as_aux_lemma => kernel_rfl : _ = content_search_from_1_b5 t0 t1 t2 t3 Q h) hk
        · intro e h hp hk
          have f0 := (hp 0 (by kernel_rfl)).trans f0
          have f1 := (hp 1 (by kernel_rfl)).trans f1
          have f2 := (hp 2 (by kernel_rfl)).trans f2
          have f3 := (hp 3 (by kernel_rfl)).trans f3
          clear hp
          obtain ⟨t12, f12, hk⟩ := dB_elim hk
          have fc : eev e (.tmp 12) = .bool t12 := f12
          refine EWP.condI fc hk ?_ ?_
          · intro hk
            refine EWP.seqR (fun e h => dI .i64 (e 4) fun t4 => dB (e 5) fun t5 => Q (Value.tuple #[Value.int .i64 t4, Value.bool t5]) h) ?_ ?_ ?_
            · kernel_rfl
            · skip
              exact eqMp (by as_aux_lemma => kernel_rfl : _ = content_search_from_1_b6 Q h) hk
            · intro e h hp hk
              clear hp
              obtain ⟨t4, f4, hk⟩ := dI_elim hk
              obtain ⟨t5, f5, hk⟩ := dB_elim hk
              refine EWP.ret ?_
              have he : upd (upd e 4 (Value.int .i64 t4)) 5 (Value.bool t5) = e := by rw [upd_self f4, upd_self f5]
              refine (show _ ∧ _ from ⟨rfl, ?_⟩)
              rw [← he]
              exact eqMp (by as_aux_lemma => kernel_rfl : _ = (Q (Value.tuple #[Value.int .i64 t4, Value.bool t5]) h)) hk
          · intro hk
            refine EWP.skip ?_
            exact (show _ ∧ _ from ⟨rfl, f0, f1, f2, f3, hk⟩)
      · rintro e h ⟨f0, f1, f2, f3, hk⟩
        have he : upd (upd (upd (upd e 0 (Value.pointer (some t0))) 1 (Value.pointer (some t1))) 2 (Value.pointer (some t2))) 3 (Value.pointer (some t3)) = e := by rw [upd_self f0, upd_self f1, upd_self f2, upd_self f3]
        refine EWP.seqR (fun e h => dI .i64 (e 4) fun t4 => dB (e 5) fun t5 => Q (Value.tuple #[Value.int .i64 t4, Value.bool t5]) h) ?_ ?_ ?_
        · kernel_rfl
        · rw [← he]
          exact eqMp (by as_aux_lemma => kernel_rfl : _ = content_search_from_1_b7 t0 t1 t2 t3 Q h) hk
        · intro e h hp hk
          clear hp
          obtain ⟨t4, f4, hk⟩ := dI_elim hk
          obtain ⟨t5, f5, hk⟩ := dB_elim hk
          refine EWP.ret ?_
          have he : upd (upd e 4 (Value.int .i64 t4)) 5 (Value.bool t5) = e := by rw [upd_self f4, upd_self f5]
          refine (show _ ∧ _ from ⟨rfl, ?_⟩)
          rw [← he]
          exact eqMp (by as_aux_lemma => kernel_rfl : _ = (Q (Value.tuple #[Value.int .i64 t4, Value.bool t5]) h)) hk
theorem content_search_from_1_s (t0 : Addr) (t1 : Addr) (t2 : Addr) (t3 : Addr) {Q : Value → Heap → Prop} {h : Heap} (hk : content_search_from_1_v t0 t1 t2 t3 Q h) : CallT Try.prog fn_content_search_from_1 #[Value.pointer (some t0), Value.pointer (some t1), Value.pointer (some t2), Value.pointer (some t3)] h Q := by
  obtain ⟨c, hb, he⟩ := content_search_from_1_e t0 t1 t2 t3 Q h hk
  exact callT_of (N := 24) Try.func23 hb rfl (Try.call23 _) (Nat.le_of_ble_eq_true rfl) he
/-! ### (*intrusion/content.search).compare -/
def content_search_compare_b4 (Q : Value → Heap → Prop) (h : Heap) : Prop :=
  Q (Value.bool false) h
def content_search_compare_b3 (s_0 : Option Addr) (Q : Value → Heap → Prop) (h : Heap) : Prop :=
  nn s_0 fun t17 => st1 h (Addr.add t17 5) (Value.bool true) fun h2 => content_search_compare_b4 Q h2
def content_search_compare_b6 (s_0 : Option Addr) (at_2 : Int) (c_4 : Addr) (Q : Value → Heap → Prop) (h : Heap) : Prop :=
  ldS h c_4 fun t26_0 => ldB h (Addr.add c_4 1) fun t26_1 => ldB h (Addr.add c_4 2) fun t26_2 => ldB h (Addr.add c_4 3) fun t26_3 => ldI h (Addr.add c_4 4) .i64 fun t26_4 => ldI h (Addr.add c_4 5) .i64 fun t26_5 => ldB h (Addr.add c_4 6) fun t26_6 => nn s_0 fun t28 => ldS h (Addr.add t28 2) fun t30 => CallT Try.prog fn_content_At #[Value.agg #[Value.string t26_0, Value.bool t26_1, Value.bool t26_2, Value.bool t26_3, Value.int .i64 t26_4, Value.int .i64 t26_5, Value.bool t26_6], Value.string t30, Value.int .i64 at_2] h fun v h4 => ∃ t32 : Bool, v = Value.bool t32 ∧ Q (Value.bool t32) h4
def content_search_compare_b5 (s_0 : Option Addr) (at_2 : Int) (c_4 : Addr) (Q : Value → Heap → Prop) (h : Heap) : Prop :=
  nn s_0 fun t20 => ldI h (Addr.add t20 4) .i64 fun t22 => nn s_0 fun t24 => st1 h (Addr.add t24 4) (Value.int .i64 (IntKind.wrap .i64 (t22 + (1 : Int)))) fun h3 => content_search_compare_b6 s_0 at_2 c_4 Q h3
def content_search_compare_b2 (s_0 : Option Addr) (at_2 : Int) (c_4 : Addr) (Q : Value → Heap → Prop) (h : Heap) : Prop :=
  nn s_0 fun t8 => ldI h (Addr.add t8 4) .i64 fun t10 => nn s_0 fun t12 => ldI h (Addr.add t12 3) .i64 fun t14 => if (decide (t10 ≥ t14)) = true then (content_search_compare_b3 s_0 Q h) else (content_search_compare_b5 s_0 at_2 c_4 Q h)
def content_search_compare_b1 (s_0 : Option Addr) (c_1_0 : ByteArray) (c_1_1 : Bool) (c_1_2 : Bool) (c_1_3 : Bool) (c_1_4 : Int) (c_1_5 : Int) (c_1_6 : Bool) (at_2 : Int) (Q : Value → Heap → Prop) (h : Heap) : Prop :=
  alV h (.cells #[Value.string c_1_0, Value.bool c_1_1, Value.bool c_1_2, Value.bool c_1_3, Value.int .i64 c_1_4, Value.int .i64 c_1_5, Value.bool c_1_6] 23) fun t4 h1 => content_search_compare_b2 s_0 at_2 t4 Q h1
def content_search_compare_v (s_0 : Option Addr) (c_1_0 : ByteArray) (c_1_1 : Bool) (c_1_2 : Bool) (c_1_3 : Bool) (c_1_4 : Int) (c_1_5 : Int) (c_1_6 : Bool) (at_2 : Int) (Q : Value → Heap → Prop) (h : Heap) : Prop :=
  content_search_compare_b1 s_0 c_1_0 c_1_1 c_1_2 c_1_3 c_1_4 c_1_5 c_1_6 at_2 Q h
set_option maxRecDepth 100000 in
theorem content_search_compare_e (s_0 : Option Addr) (c_1_0 : ByteArray) (c_1_1 : Bool) (c_1_2 : Bool) (c_1_3 : Bool) (c_1_4 : Int) (c_1_5 : Int) (c_1_6 : Bool) (at_2 : Int) (Q : Value → Heap → Prop) (h : Heap) (hk : content_search_compare_v s_0 c_1_0 c_1_1 c_1_2 c_1_3 c_1_4 c_1_5 c_1_6 at_2 Q h) :
    ∃ c, Try.f24.body = some c ∧ EWP Try.prog 33 c (fnPost Try.prog Try.f24 Q) (env0 #[Value.pointer s_0, Value.agg #[Value.string c_1_0, Value.bool c_1_1, Value.bool c_1_2, Value.bool c_1_3, Value.int .i64 c_1_4, Value.int .i64 c_1_5, Value.bool c_1_6], Value.int .i64 at_2]) [] h := by
  refine ⟨_, rfl, ?_⟩
  have hk : content_search_compare_b1 s_0 c_1_0 c_1_1 c_1_2 c_1_3 c_1_4 c_1_5 c_1_6 at_2 Q h := hk
  have f0 : env0 #[Value.pointer s_0, Value.agg #[Value.string c_1_0, Value.bool c_1_1, Value.bool c_1_2, Value.bool c_1_3, Value.int .i64 c_1_4, Value.int .i64 c_1_5, Value.bool c_1_6], Value.int .i64 at_2] 0 = Value.pointer s_0 := rfl
  have f1 : env0 #[Value.pointer s_0, Value.agg #[Value.string c_1_0, Value.bool c_1_1, Value.bool c_1_2, Value.bool c_1_3, Value.int .i64 c_1_4, Value.int .i64 c_1_5, Value.bool c_1_6], Value.int .i64 at_2] 1 = Value.agg #[Value.string c_1_0, Value.bool c_1_1, Value.bool c_1_2, Value.bool c_1_3, Value.int .i64 c_1_4, Value.int .i64 c_1_5, Value.bool c_1_6] := rfl
  have f2 : env0 #[Value.pointer s_0, Value.agg #[Value.string c_1_0, Value.bool c_1_1, Value.bool c_1_2, Value.bool c_1_3, Value.int .i64 c_1_4, Value.int .i64 c_1_5, Value.bool c_1_6], Value.int .i64 at_2] 2 = Value.int .i64 at_2 := rfl
  generalize env0 #[Value.pointer s_0, Value.agg #[Value.string c_1_0, Value.bool c_1_1, Value.bool c_1_2, Value.bool c_1_3, Value.int .i64 c_1_4, Value.int .i64 c_1_5, Value.bool c_1_6], Value.int .i64 at_2] = e at *
  have he : upd e 1 (Value.agg #[Value.string c_1_0, Value.bool c_1_1, Value.bool c_1_2, Value.bool c_1_3, Value.int .i64 c_1_4, Value.int .i64 c_1_5, Value.bool c_1_6]) = e := by rw [upd_self f1]
  refine EWP.seqR (fun e h => dA (e 4) fun c_4 => content_search_compare_b2 s_0 at_2 c_4 Q h) ?_ ?_ ?_
  · kernel_rfl
  · rw [← he]
    exact eqMp (by as_aux_lemma => kernel_rfl : _ = content_search_compare_b1 s_0 c_1_0 c_1_1 c_1_2 c_1_3 c_1_4 c_1_5 c_1_6 at_2 Q h) hk
  · intro e h hp hk
    have f0 := (hp 0 (by kernel_rfl)).trans f0
    have f2 := (hp 2 (by kernel_rfl)).trans f2
    clear hp
    obtain ⟨c_4, f4, hk⟩ := dA_elim hk
    refine EWP.seqC (fun e h => e 0 = Value.pointer s_0 ∧ e 2 = Value.int .i64 at_2 ∧ e 4 = Value.pointer (some c_4) ∧ content_search_compare_b5 s_0 at_2 c_4 Q h) ?_ ?_
    · have he : upd e 0 (Value.pointer s_0) = e := by rw [upd_self f0]
      refine EWP.seqD (fun e h => dB (e 15) fun t15 => if t15 = true then (content_search_compare_b3 s_0 Q h) else (content_search_compare_b5 s_0 at_2 c_4 Q h)) ?_ ?_ ?_ ?_
      · kernel_rfl
      · kernel_rfl
      · rw [← he]
        exact eqMp (by as_aux_lemma => kernel_rfl : _ = content_search_compare_b2 s_0 at_2 c_4 Q h) hk
      · intro e h hp hk
        have f0 := (hp 0 (by kernel_rfl)).trans f0
        have f2 := (hp 2 (by kernel_rfl)).trans f2
        have f4 := (hp 4 (by kernel_rfl)).trans f4
        clear hp
        obtain ⟨t15, f15, hk⟩ := dB_elim hk
        have fc : eev e (.tmp 15) = .bool t15 := f15
        refine EWP.condI fc hk ?_ ?_
        · intro hk
          have he : upd e 0 (Value.pointer s_0) = e := by rw [upd_self f0]
          refine EWP.seqR (fun e h => content_search_compare_b4 Q h) ?_ ?_ ?_
          · kernel_rfl
          · rw [← he]
            exact eqMp (by as_aux_lemma => kernel_rfl : _ = content_search_compare_b3 s_0 Q h) hk
          · intro e h hp hk
            clear hp
            refine EWP.seqR (fun e h => dB (e 6) fun t6 => Q (Value.bool t6) h) ?_ ?_ ?_
            · kernel_rfl
            · skip
              exact eqMp (by as_aux_lemma => kernel_rfl : _ = content_search_compare_b4 Q h) hk
            · intro e h hp hk
              clear hp
              obtain ⟨t6, f6, hk⟩ := dB_elim hk
              refine EWP.ret ?_
              have he : upd e 6 (Value.bool t6) = e := by rw [upd_self f6]
              refine (show _ ∧ _ from ⟨rfl, ?_⟩)
              rw [← he]
              exact eqMp (by as_aux_lemma => kernel_rfl : _ = (Q (Value.bool t6) h)) hk
        · intro hk
          refine EWP.skip ?_
          exact (show _ ∧ _ from ⟨rfl, f0, f2, f4, hk⟩)
    · rintro e h ⟨f0, f2, f4, hk⟩
      have he : upd e 0 (Value.pointer s_0) = e := by rw [upd_self f0]
      refine EWP.seqR (fun e h => content_search_compare_b6 s_0 at_2 c_4 Q h) ?_ ?_ ?_
      · kernel_rfl
      · rw [← he]
        exact eqMp (by as_aux_lemma => kernel_rfl : _ = content_search_compare_b5 s_0 at_2 c_4 Q h) hk
      · intro e h hp hk
        have f0 := (hp 0 (by kernel_rfl)).trans f0
        have f2 := (hp 2 (by kernel_rfl)).trans f2
        have f4 := (hp 4 (by kernel_rfl)).trans f4
        clear hp
        have he : upd (upd (upd e 0 (Value.pointer s_0)) 2 (Value.int .i64 at_2)) 4 (Value.pointer (some c_4)) = e := by rw [upd_self f0, upd_self f2, upd_self f4]
        refine EWP.seqD (fun e h => dB (e 6) fun t6 => Q (Value.bool t6) h) ?_ ?_ ?_ ?_
        · kernel_rfl
        · kernel_rfl
        · rw [← he]
          exact eqMp (by as_aux_lemma => kernel_rfl : _ = content_search_compare_b6 s_0 at_2 c_4 Q h) hk
        · intro e h hp hk
          clear hp
          obtain ⟨t6, f6, hk⟩ := dB_elim hk
          refine EWP.ret ?_
          have he : upd e 6 (Value.bool t6) = e := by rw [upd_self f6]
          refine (show _ ∧ _ from ⟨rfl, ?_⟩)
          rw [← he]
          exact eqMp (by as_aux_lemma => kernel_rfl : _ = (Q (Value.bool t6) h)) hk
theorem content_search_compare_s (s_0 : Option Addr) (c_1_0 : ByteArray) (c_1_1 : Bool) (c_1_2 : Bool) (c_1_3 : Bool) (c_1_4 : Int) (c_1_5 : Int) (c_1_6 : Bool) (at_2 : Int) {Q : Value → Heap → Prop} {h : Heap} (hk : content_search_compare_v s_0 c_1_0 c_1_1 c_1_2 c_1_3 c_1_4 c_1_5 c_1_6 at_2 Q h) : CallT Try.prog fn_content_search_compare #[Value.pointer s_0, Value.agg #[Value.string c_1_0, Value.bool c_1_1, Value.bool c_1_2, Value.bool c_1_3, Value.int .i64 c_1_4, Value.int .i64 c_1_5, Value.bool c_1_6], Value.int .i64 at_2] h Q := by
  obtain ⟨c, hb, he⟩ := content_search_compare_e s_0 c_1_0 c_1_1 c_1_2 c_1_3 c_1_4 c_1_5 c_1_6 at_2 Q h hk
  exact callT_of (N := 33) Try.func24 hb rfl (Try.call24 _) (Nat.le_of_ble_eq_true rfl) he
/-! ### (*intrusion/intrusionref44.search).step -/
def ref44_search_step_b4 (Q : Value → Heap → Prop) (h : Heap) : Prop :=
  Q (Value.bool false) h
def ref44_search_step_b3 (s_0 : Option Addr) (Q : Value → Heap → Prop) (h : Heap) : Prop :=
  nn s_0 fun t9 => st1 h (Addr.add t9 1) (Value.bool true) fun h1 => ref44_search_step_b4 Q h1
def ref44_search_step_b6 (Q : Value → Heap → Prop) (h : Heap) : Prop :=
  Q (Value.bool true) h
def ref44_search_step_b5 (s_0 : Option Addr) (Q : Value → Heap → Prop) (h : Heap) : Prop :=
  nn s_0 fun t13 => ldI h t13 .i64 fun t15 => nn s_0 fun t17 => st1 h t17 (Value.int .i64 (IntKind.wrap .i64 (t15 - (1 : Int)))) fun h2 => ref44_search_step_b6 Q h2
def ref44_search_step_b2 (s_0 : Option Addr) (Q : Value → Heap → Prop) (h : Heap) : Prop :=
  nn s_0 fun t4 => ldI h t4 .i64 fun t6 => if (t6 == (0 : Int)) = true then (ref44_search_step_b3 s_0 Q h) else (ref44_search_step_b5 s_0 Q h)
def ref44_search_step_b1 (s_0 : Option Addr) (Q : Value → Heap → Prop) (h : Heap) : Prop :=
  ref44_search_step_b2 s_0 Q h
def ref44_search_step_v (s_0 : Option Addr) (Q : Value → Heap → Prop) (h : Heap) : Prop :=
  ref44_search_step_b1 s_0 Q h
set_option maxRecDepth 100000 in
theorem ref44_search_step_e (s_0 : Option Addr) (Q : Value → Heap → Prop) (h : Heap) (hk : ref44_search_step_v s_0 Q h) :
    ∃ c, Try.f25.body = some c ∧ EWP Try.prog 19 c (fnPost Try.prog Try.f25 Q) (env0 #[Value.pointer s_0]) [] h := by
  refine ⟨_, rfl, ?_⟩
  have hk : ref44_search_step_b1 s_0 Q h := hk
  have f0 : env0 #[Value.pointer s_0] 0 = Value.pointer s_0 := rfl
  generalize env0 #[Value.pointer s_0] = e at *
  refine EWP.seqR (fun e h => ref44_search_step_b2 s_0 Q h) ?_ ?_ ?_
  · kernel_rfl
  · skip
    exact eqMp (by as_aux_lemma => kernel_rfl : _ = ref44_search_step_b1 s_0 Q h) hk
  · intro e h hp hk
    have f0 := (hp 0 (by kernel_rfl)).trans f0
    clear hp
    refine EWP.seqC (fun e h => e 0 = Value.pointer s_0 ∧ ref44_search_step_b5 s_0 Q h) ?_ ?_
    · have he : upd e 0 (Value.pointer s_0) = e := by rw [upd_self f0]
      refine EWP.seqR (fun e h => dB (e 7) fun t7 => if t7 = true then (ref44_search_step_b3 s_0 Q h) else (ref44_search_step_b5 s_0 Q h)) ?_ ?_ ?_
      · kernel_rfl
      · rw [← he]
        exact eqMp (by as_aux_lemma => kernel_rfl : _ = ref44_search_step_b2 s_0 Q h) hk
      · intro e h hp hk
        have f0 := (hp 0 (by kernel_rfl)).trans f0
        clear hp
        obtain ⟨t7, f7, hk⟩ := dB_elim hk
        have fc : eev e (.tmp 7) = .bool t7 := f7
        refine EWP.condI fc hk ?_ ?_
        · intro hk
          have he : upd e 0 (Value.pointer s_0) = e := by rw [upd_self f0]
          refine EWP.seqR (fun e h => ref44_search_step_b4 Q h) ?_ ?_ ?_
          · kernel_rfl
          · rw [← he]
            exact eqMp (by as_aux_lemma => kernel_rfl : _ = ref44_search_step_b3 s_0 Q h) hk
          · intro e h hp hk
            clear hp
            refine EWP.seqR (fun e h => dB (e 2) fun t2 => Q (Value.bool t2) h) ?_ ?_ ?_
            · kernel_rfl
            · skip
              exact eqMp (by as_aux_lemma => kernel_rfl : _ = ref44_search_step_b4 Q h) hk
            · intro e h hp hk
              clear hp
              obtain ⟨t2, f2, hk⟩ := dB_elim hk
              refine EWP.ret ?_
              have he : upd e 2 (Value.bool t2) = e := by rw [upd_self f2]
              refine (show _ ∧ _ from ⟨rfl, ?_⟩)
              rw [← he]
              exact eqMp (by as_aux_lemma => kernel_rfl : _ = (Q (Value.bool t2) h)) hk
        · intro hk
          refine EWP.skip ?_
          exact (show _ ∧ _ from ⟨rfl, f0, hk⟩)
    · rintro e h ⟨f0, hk⟩
      have he : upd e 0 (Value.pointer s_0) = e := by rw [upd_self f0]
      refine EWP.seqR (fun e h => ref44_search_step_b6 Q h) ?_ ?_ ?_
      · kernel_rfl
      · rw [← he]
        exact eqMp (by as_aux_lemma => kernel_rfl : _ = ref44_search_step_b5 s_0 Q h) hk
      · intro e h hp hk
        clear hp
        refine EWP.seqR (fun e h => dB (e 2) fun t2 => Q (Value.bool t2) h) ?_ ?_ ?_
        · kernel_rfl
        · skip
          exact eqMp (by as_aux_lemma => kernel_rfl : _ = ref44_search_step_b6 Q h) hk
        · intro e h hp hk
          clear hp
          obtain ⟨t2, f2, hk⟩ := dB_elim hk
          refine EWP.ret ?_
          have he : upd e 2 (Value.bool t2) = e := by rw [upd_self f2]
          refine (show _ ∧ _ from ⟨rfl, ?_⟩)
          rw [← he]
          exact eqMp (by as_aux_lemma => kernel_rfl : _ = (Q (Value.bool t2) h)) hk
theorem ref44_search_step_s (s_0 : Option Addr) {Q : Value → Heap → Prop} {h : Heap} (hk : ref44_search_step_v s_0 Q h) : CallT Try.prog fn_ref44_search_step #[Value.pointer s_0] h Q := by
  obtain ⟨c, hb, he⟩ := ref44_search_step_e s_0 Q h hk
  exact callT_of (N := 19) Try.func25 hb rfl (Try.call25 _) (Nat.le_of_ble_eq_true rfl) he
end Go.Proofs.Ytkmommchanjobaa
