/-
  The reference's decoder.
-/
import Derived.Test.YtjhcockaojlfiaaDoorChunkF
namespace Go.Proofs.YtjhcockaojlfiaaDoor
set_option linter.unusedSimpArgs false
set_option linter.unusedVariables false
set_option maxRecDepth 20000
open Go
open Go.IntKind (wrap)
def rvals (st size ln : Nat) (w : Bool) (left : Nat) : List Value := [.int .i64 st, .int .i64 size, .int .i64 ln, .bool w, .int .i64 left]
def OwnV (h : Heap) (x : Addr) (st size ln : Nat) (w : Bool) (left : Nat) : Prop := Own h x (rvals st size ln w left) T_intrusionref27_Decoder
def OwnA (h : Heap) (x : Addr) : Prop := ∃ st size ln w left, OwnV h x st size ln w left
def OwnR (h : Heap) (x : Addr) (d : Dec) : Prop := ∃ size ln w left, OwnV h x d.st size ln w left ∧ (d.st ≤ 1 → size = d.sz) ∧ (d.st = 2 → left = d.sz) ∧ (d.st ≤ 4 → ln = d.len ∧ w = d.w)
theorem OwnR.any {h : Heap} {x : Addr} {d : Dec} (o : OwnR h x d) : OwnA h x := by obtain ⟨a, b, c, e, o, _⟩ := o; exact ⟨_, _, _, _, _, o⟩
theorem OwnR.fr {S : Nat → Prop} {h h' : Heap} {x : Addr} {d : Dec} (o : OwnR h x d) (f : Fr S h h') (hn : ¬ S x.block) : OwnR h' x d := by
  obtain ⟨a, b, c, e, o, r⟩ := o; exact ⟨a, b, c, e, Own.fr o f hn, r⟩
theorem OwnV.lt {h : Heap} {x : Addr} {st size ln : Nat} {w : Bool} {left : Nat} (o : OwnV h x st size ln w left) : x.block < h.size := Own.lt o
theorem OwnR.lt {h : Heap} {x : Addr} {d : Dec} (o : OwnR h x d) : x.block < h.size := by
  obtain ⟨a, b, c, e, o, r⟩ := o; exact o.lt
section
variable {h : Heap} {x : Addr} {st size ln : Nat} {w : Bool} {left : Nat} {Q : Value → Heap → Prop}
theorem begin_c [Gh] (o : OwnV h x st size ln w left) (n : Nat) {m : Int} (hm : m = n) (hk : ∀ h', Fr (fun b => b = x.block) h h' → h'.size = h.size → OwnV h' x n size 0 false left → Q (.tuple #[]) h') :
    CallT Tryd.prog fn_ref27_Decoder_begin #[.pointer (some x), .int .i64 m] h Q := by
  subst hm
  apply ref27_Decoder_begin_s
  unfold ref27_Decoder_begin_v
  refine nn_mk (st1_own0 o (by simp [rvals]) rfl fun h1 f1 s1 o1 => nn_mk ?_)
  refine st1_own o1 2 (by simp [rvals]) rfl fun h2 f2 s2 o2 => nn_mk ?_
  refine st1_own o2 3 (by simp [rvals]) rfl fun h3 f3 s3 o3 => ?_
  exact hk h3 ((f1.trans f2).trans f3) (by omega) o3
theorem rcount_c [Gh] (o : OwnV h x st size ln w left) (ok : ln ≤ 128) (hk : ∀ h', Fr (fun b => b = x.block) h h' → h'.size = h.size → OwnV h' x st size (ln + 1) w left → Q (.int .i64 ((if ln + 1 > 128 then 3 else 0 : Nat) : Int)) h') :
    CallT Tryd.prog fn_ref27_Decoder_count #[.pointer (some x)] h Q := by
  apply ref27_Decoder_count_s
  unfold ref27_Decoder_count_v
  refine nn_mk (ldI_mk (o.cells.at rfl) (nn_mk ?_))
  rw [wr (by omega) (by omega)]
  refine st1_own o 2 (by simp [rvals]) rfl fun h1 f1 s1 o1 => ?_
  refine nn_mk (ldI_mk (o1.cells.at rfl) ?_)
  have hk := hk h1 f1 s1 o1
  refine ifD (fun hb => ?_) fun hb => ?_
  · rw [if_pos (by omega)] at hk; exact hk
  · rw [if_neg (by omega)] at hk; exact hk
theorem free_c [Gh] (o : OwnV h x st size ln w left) (hk : Q (.bool (decide (st = 1 ∨ st = 4))) h) : CallT Tryd.prog fn_ref27_Decoder_free #[.pointer (some x)] h Q := by
  apply ref27_Decoder_free_s
  unfold ref27_Decoder_free_v
  refine nn_mk (ldI_mk (o.cells.at0 rfl) ?_)
  refine ifE (fun (e : (st : Int) = 1) => ?_) fun (e : (st : Int) ≠ 1) => nn_mk (ldI_mk (o.cells.at0 rfl) ?_)
  · rw [decide_eq_true (by omega)] at hk; exact hk
  · have e2 : ((st : Int) == 4) = decide (st = 1 ∨ st = 4) := by rw [Bool.eq_iff_iff]; simp only [beq_iff_eq, decide_eq_true_eq]; omega
    rw [e2]; exact hk
theorem digit_c [Gh] (x : UInt8) (hk : Q (.int .i64 (hexI x.toNat)) h) : CallT Tryd.prog fn_ref27_Digit #[.int .u8 x.toNat] h Q := by
  have hx := UInt8.toNat_lt x
  generalize x.toNat = c at *
  apply ref27_Digit_s
  unfold ref27_Digit_v
  unfold hexI hexN at hk
  rw [wr (x := (c : Int)) (by omega) (by omega)]
  have b1 : ¬ (48 ≤ c ∧ c ≤ 57) → ref27_Digit_b1 c Q h := fun hn => by
    rw [if_neg hn] at hk
    unfold ref27_Digit_b1
    rw [wr (x := (c : Int)) (by omega) (by omega)]
    have up : ¬ (97 ≤ c ∧ c ≤ 102) → (if decide ((c : Int) ≥ 65) = true then (if decide ((c : Int) ≤ 70) = true then Q (.int .i64 (wrap .i64 ((c : Int) - 55))) h else Q (.int .i64 (-1)) h) else Q (.int .i64 (-1)) h) := fun hn2 => by
      rw [if_neg hn2] at hk
      refine ifD (fun a => ifD (fun b => ?_) fun b => ?_) fun a => ?_
      · rw [if_pos (by omega)] at hk; rw [wr (by omega) (by omega), show (c : Int) - 55 = ((c - 55 : Nat) : Int) by omega]; exact hk
      · rw [if_neg (by omega)] at hk; exact hk
      · rw [if_neg (by omega)] at hk; exact hk
    refine ifD (fun a => ifD (fun b => ?_) fun b => up (by omega)) fun a => up (by omega)
    rw [if_pos (by omega)] at hk; rw [wr (by omega) (by omega), show (c : Int) - 87 = ((c - 87 : Nat) : Int) by omega]; exact hk
  refine ifD (fun a => ifD (fun b => ?_) fun b => b1 (by omega)) fun a => b1 (by omega)
  rw [if_pos (by omega)] at hk; rw [wr (by omega) (by omega), show (c : Int) - 48 = ((c - 48 : Nat) : Int) by omega]; exact hk
end
theorem end_c [Gh] {h : Heap} {x : Addr} {d : Dec} (o : OwnR h x d) (ok : d.ok) (h2 : d.st ≠ 2) (h5 : d.st ≠ 5) {Q : Value → Heap → Prop}
    (hk : ∀ h', Fr (fun b => b = x.block) h h' → h'.size = h.size → OwnA h' x → ((lineD d).1 = 0 → OwnR h' x (lineD d).2) → Q (.int .i64 (lineD d).1) h') :
    CallT Tryd.prog fn_ref27_Decoder_end #[.pointer (some x)] h Q := by
  apply ref27_Decoder_end_s
  unfold ref27_Decoder_end_v
  have oa := o.any
  obtain ⟨size, ln, w, left, o, r1, r2, r3⟩ := o
  obtain ⟨st, len, sz, wd⟩ := d
  obtain ⟨-, ok2, ok3, ok4, ok5, ok6⟩ := ok
  simp only at *
  obtain ⟨rfl, rfl⟩ := r3 (by omega)
  unfold lineD at hk
  simp only at hk
  have fin : ∀ (r : Nat × Dec) (n : Nat) (m : Int), m = n → ∀ h1 size left, OwnV h1 x st size ln w left → Fr (fun b => b = x.block) h h1 → h1.size = h.size →
      (∀ h', Fr (fun b => b = x.block) h h' → h'.size = h.size → OwnA h' x → (r.1 = 0 → OwnR h' x r.2) → Q (.int .i64 r.1) h') → r.1 = 0 → r.2.st = n → (n ≤ 1 → size = r.2.sz) → (n = 2 → left = r.2.sz) → r.2.len = 0 → r.2.w = false →
      CallT Tryd.prog fn_ref27_Decoder_begin #[.pointer (some x), .int .i64 m] h1 fun v h' => v = .tuple #[] ∧ Q (.int .i64 0) h' := by
    intro r n m hm h1 size left o1 f1 s1 hk e0 e1 e2 e3 e4 e5
    refine begin_c o1 n hm fun h2 f2 s2 o2 => ⟨rfl, ?_⟩
    have hk := hk h2 (f1.trans f2) (by omega) ⟨_, _, _, _, _, o2⟩ fun _ => by
      subst e1; exact ⟨size, 0, false, left, o2, e2, e3, fun _ => ⟨e4.symm, e5.symm⟩⟩
    rw [e0] at hk; exact hk
  have b2 : ((st = 0 ∨ st = 1) → ln ≠ 0 ∧ sz = 0) → ref27_Decoder_end_b2 (some x) Q h := fun hz => by
    unfold ref27_Decoder_end_b2
    refine nn_mk (ldI_mk (o.cells.at0 rfl) ?_)
    refine ifD (fun (e : (st : Int) ≤ 1) => ?_) fun (e : ¬ (st : Int) ≤ 1) => ?_
    · have hz := hz (by omega)
      rw [if_pos (by omega), if_neg hz.1, if_pos hz.2] at hk
      exact fin _ 4 _ rfl h size left o (Fr.refl _ _) rfl hk rfl rfl (by omega) (by omega) rfl rfl
    rw [if_neg (by omega)] at hk
    refine nn_mk (ldI_mk (o.cells.at0 rfl) ?_)
    refine ifE (fun (e3 : (st : Int) = 3) => ?_) fun (e3 : (st : Int) ≠ 3) => ?_
    · rw [if_pos (by omega)] at hk
      refine nn_mk (st1_own o 1 (by simp [rvals]) rfl fun h1 f1 s1 o1 => ?_)
      exact fin _ 0 _ rfl h1 0 left o1 f1 s1 hk rfl rfl (fun _ => rfl) (by omega) rfl rfl
    rw [if_neg (by omega), if_pos (by omega)] at hk
    refine nn_mk (ldI_mk (o.cells.at rfl) ?_)
    refine ifE (fun (e4 : (ln : Int) = 0) => ?_) fun (e4 : (ln : Int) ≠ 0) => ?_
    · rw [if_pos (by omega)] at hk
      exact fin _ 5 _ rfl h size left o (Fr.refl _ _) rfl hk rfl rfl (by omega) (by omega) rfl rfl
    · rw [if_neg (by omega)] at hk
      exact fin _ 4 _ rfl h size left o (Fr.refl _ _) rfl hk rfl rfl (by omega) (by omega) rfl rfl
  have b1 : ((st = 0 ∨ st = 1) → ln ≠ 0) → ref27_Decoder_end_b1 (some x) Q h := fun hz => by
    unfold ref27_Decoder_end_b1
    refine nn_mk (ldI_mk (o.cells.at0 rfl) ?_)
    refine ifD (fun (e : (st : Int) ≤ 1) => ?_) fun (e : ¬ (st : Int) ≤ 1) => b2 (by omega)
    refine nn_mk (ldI_mk (o.cells.at rfl) ?_)
    have es := r1 (by omega)
    refine ifD (fun (e2 : (size : Int) > 0) => ?_) fun (e2 : ¬ (size : Int) > 0) => b2 (by omega)
    rw [if_pos (by omega), if_neg (hz (by omega)), if_neg (by omega)] at hk
    refine nn_mk (ldI_mk (o.cells.at rfl) (nn_mk ?_))
    refine st1_own o 4 (by simp [rvals]) rfl fun h1 f1 s1 o1 => ?_
    exact fin _ 2 _ rfl h1 size size o1 f1 s1 hk rfl rfl (by omega) (fun _ => es) rfl rfl
  refine nn_mk (ldI_mk (o.cells.at0 rfl) ?_)
  refine ifE (fun (e : (st : Int) = 0) => ?_) fun (e : (st : Int) ≠ 0) => b1 (by omega)
  refine nn_mk (ldI_mk (o.cells.at rfl) ?_)
  refine ifE (fun (e2 : (ln : Int) = 0) => ?_) fun (e2 : (ln : Int) ≠ 0) => b1 (by omega)
  rw [if_pos (by omega), if_pos (by omega)] at hk
  exact hk h (Fr.refl _ _) rfl oa (by simp)
end Go.Proofs.YtjhcockaojlfiaaDoor
