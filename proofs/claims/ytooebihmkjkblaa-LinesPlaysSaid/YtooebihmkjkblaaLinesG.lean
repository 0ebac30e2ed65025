/-
  Split; the comparison of two lists of lines; the examples of the chapter.
-/
import Derived.Test.YtooebihmkjkblaaLinesF
namespace Go.Proofs.Ytooebihmkjkblaa
set_option linter.unusedSimpArgs false
set_option linter.unusedVariables false
open Go
theorem feedL_len (mx : Nat) : ∀ (l B : List UInt8), (feedL mx B l).1.length ≤ l.length
  | [], B => by simp [feedL]
  | c :: l, B => by
    unfold feedL
    split
    · have := feedL_len mx l []; simp; omega
    · have := feedL_len mx l (B ++ [c]); simp; omega
theorem feedL_rest (mx : Nat) : ∀ (l B : List UInt8), (feedL mx B l).2.length ≤ B.length + l.length
  | [], B => by simp [feedL]
  | c :: l, B => by
    unfold feedL
    split
    · have := feedL_rest mx l []; simp at this ⊢; omega
    · have := feedL_rest mx l (B ++ [c]); simp at this ⊢; omega
theorem closeL_len (mx : Nat) (B : List UInt8) : (closeL mx B).length ≤ 1 := by unfold closeL; split <;> simp
def splitL (mx : Nat) (l : List UInt8) : List (List UInt8 × Bool) := (feedL mx [] l).1 ++ closeL mx (feedL mx [] l).2
theorem src_of {h : Heap} {a : Option Addr} {c : Nat} {l : List (List UInt8 × Bool)} (ho : OwnC h a c 2 (linesV l)) : Src h 2 (.slice a l.length c) l.length (linesV l) := by
  cases a with
  | none =>
    obtain ⟨h1, h2⟩ := ho
    cases l with
    | nil => exact .nil _
    | cons x l => simp [linesV] at h1
  | some ad => exact .sl _ _ _ _ (linesV_len l) ho.cells
theorem Split_c [Gh] {h : Heap} (m : Int) (l : List UInt8) (hsm : l.length < 2 ^ 37) {Q : Value → Heap → Prop}
    (hk : ∀ h' r c, Fr (fun _ => False) h h' → OwnC h' r c 2 (linesV (splitL (clampI m).toNat l)) → (splitL (clampI m).toNat l).length ≤ c → (∀ x, InA r x → h.size ≤ x) → Q (.slice r (splitL (clampI m).toNat l).length c) h') :
    CallT Try.prog fn_lines_Split #[.string (bs l), .int .i64 m] h Q := by
  refine lines_Split_s _ _ ?_
  simp only [lines_Split_b4, lines_Split_b3, lines_Split_b2, lines_Split_b1, lines_Split_v]
  refine NewS_c m fun h1 s1 f1 hz => ⟨_, rfl, ?_⟩
  refine Feed_c s1 l (by simp; omega) fun h2 a2 r2 c2 s2 f2 ha2 ho2 hc2 hr2 => ⟨_, _, _, rfl, ?_⟩
  refine Close_c s2 fun h3 r3 c3 s3 f3 ho3 hc3 hr3 => ⟨_, _, _, rfl, ?_⟩
  have l1 := feedL_len (clampI m).toNat l []
  have l2 := closeL_len (clampI m).toNat (feedL (clampI m).toNat [] l).2
  have z1 := f1.size
  have hb2 : ∀ x, InA r2 x → x ≠ h.size := fun x hx => by have := (hr2 x hx).1; omega
  refine append_own t31 (xT := 31) (d := .slice 38) rfl (by simp) (ho2.fr f3 hb2) (linesV_len _) hc2 (src_of ho3) (linesV_cellV _) ?_ ?_
  · show _ * 24 ≤ _
    omega
  · intro r4 c4 h4 hown4 hc4 f4 hn4
    have f02 : Fr (fun _ => False) h h2 := f1.tr f2 fun x hx hx2 => by
      rcases hx2 with rfl | hx2
      · omega
      · obtain ⟨_, h, _⟩ := hx2; cases h
    have f03 := f02.tr f3 fun x hx hx2 => by omega
    have := hk h4 r4 c4 (f03.tr f4 fun x hx hx2 => by have := (hr2 x hx2).1; omega) (by unfold splitL; rw [linesV_append]; exact hown4) (by unfold splitL; rw [List.length_append]; exact hc4) (fun x hx => by
      rcases hn4 x hx with hx | hx
      · have := (hr2 x hx).1; omega
      · have := f03.size; omega)
    unfold splitL at this; rw [List.length_append] at this
    exact ⟨_, _, _, rfl, this⟩
theorem linesV_get : ∀ (l : List (List UInt8 × Bool)) (i : Nat) (hi : i < l.length), (linesV l)[i * 2]? = some (.string (bs l[i].1)) ∧ (linesV l)[i * 2 + 1]? = some (.bool l[i].2)
  | [], i, hi => by simp at hi
  | x :: l, 0, hi => ⟨rfl, rfl⟩
  | x :: l, i + 1, hi => by
    have := linesV_get l i (by simpa using hi)
    have e : (i + 1) * 2 = i * 2 + 1 + 1 := by omega
    rw [e]; simpa [linesV] using this
/-- A slice that holds lines. -/
def Rd (h : Heap) (r : Option Addr) (l : List (List UInt8 × Bool)) : Prop :=
  match r with
  | none => l = []
  | some ad => ad.spot = none ∧ Cells h ad (linesV l)
theorem OwnC.rd {h : Heap} {a : Option Addr} {c : Nat} {l : List (List UInt8 × Bool)} (ho : OwnC h a c 2 (linesV l)) : Rd h a l := by
  cases a with
  | none =>
    cases l with
    | nil => rfl
    | cons x l => have := ho.1; simp [linesV] at this
  | some ad => exact ⟨ho.2.1, ho.cells⟩
theorem Rd.get {h : Heap} {r : Option Addr} {l : List (List UInt8 × Bool)} (hr : Rd h r l) {i : Nat} (hi : i < l.length) :
    ∃ ad, r = some ad ∧ hcell h (ad.add (i * 2)) = some (.string (bs l[i].1)) ∧ hcell h ((ad.add (i * 2)).add 1) = some (.bool l[i].2) := by
  cases r with
  | none => have hr : l = [] := hr; subst hr; simp at hi
  | some ad =>
    obtain ⟨h1, h2⟩ := hr
    have hg := linesV_get l i hi
    refine ⟨ad, rfl, ?_, ?_⟩
    · have hlt : i * 2 < (linesV l).length := by rw [linesV_len]; omega
      rw [h2 _ hlt, ← hg.1, List.getElem?_eq_getElem hlt]
    · have hlt : i * 2 + 1 < (linesV l).length := by rw [linesV_len]; omega
      have e : (ad.add (i * 2)).add 1 = ad.add (i * 2 + 1) := by
        obtain ⟨b, o, s⟩ := ad
        cases h1
        rw [add_mk, add_mk, add_mk, Nat.add_assoc]
      rw [e, h2 _ hlt, ← hg.2, List.getElem?_eq_getElem hlt]
theorem take_eq_succ {α : Type} {l m : List α} {k : Nat} (hl : k < l.length) (hm : k < m.length) : l.take (k + 1) = m.take (k + 1) ↔ l.take k = m.take k ∧ l[k] = m[k] := by
  rw [List.take_succ_eq_append_getElem hl, List.take_succ_eq_append_getElem hm]
  constructor
  · intro h
    have := List.append_inj h (by simp; omega)
    simpa using this
  · rintro ⟨h1, h2⟩; rw [h1, h2]
theorem Same_c [Gh] {h : Heap} {r1 r2 : Option Addr} {c1 c2 : Nat} {l m : List (List UInt8 × Bool)} (hl : Rd h r1 l) (hm : Rd h r2 m) (hsm : l.length < 2 ^ 40) {Q : Value → Heap → Prop}
    (hk : Q (.bool (decide (l = m))) h) : CallT Try.prog fn_ref25_Same #[.slice r1 l.length c1, .slice r2 m.length c2] h Q := by
  refine ref25_Same_s _ _ _ _ _ _ ?_
  simp only [ref25_Same_b3, ref25_Same_b12, ref25_Same_b5, ref25_Same_b4, ref25_Same_b2, ref25_Same_b1, ref25_Same_v]
  by_cases hlen : l.length = m.length
  · rw [if_neg (by simp; omega)]
    refine LoopV.mk (fun i h' => h' = h ∧ ∃ k : Nat, i = k ∧ k ≤ l.length ∧ l.take k = m.take k) (fun i _ => l.length - i.toNat) ⟨rfl, 0, rfl, by omega, by simp⟩ ?_
    rintro i h' ⟨rfl, k, rfl, hkl, hpre⟩
    simp only [ref25_Same_b10, ref25_Same_b11, ref25_Same_b9, ref25_Same_b8, ref25_Same_b7, ref25_Same_l6]
    by_cases hk' : k < l.length
    · rw [if_pos (by simp; omega)]
      obtain ⟨a1, rfl, g1, g2⟩ := hl.get hk'
      obtain ⟨a2, rfl, g3, g4⟩ := hm.get (i := k) (by omega)
      refine ⟨by omega, by omega, ⟨_, by rw [Int.toNat_natCast]; exact g1, _, by rw [Int.toNat_natCast]; exact g2, by omega, by omega, ⟨_, by rw [Int.toNat_natCast]; exact g3, _, by rw [Int.toNat_natCast]; exact g4, ?_⟩⟩⟩
      have hk2 : k < m.length := by omega
      have e : (!(bs l[k].1 == bs m[k].1 && (l[k].2 == m[k].2 && true))) = decide (l[k] ≠ m[k]) := by
        rw [bs_beq, Bool.eq_iff_iff]
        simp [Prod.ext_iff]
      show (if (!(bs l[k].fst == bs m[k].fst && (l[k].snd == m[k].snd && true))) = true then _ else _)
      rw [e]
      by_cases heq : l[k] = m[k]
      · rw [if_neg (by simpa using heq), wr (by omega) (by omega)]
        refine ⟨⟨trivial, k + 1, by omega, by omega, (take_eq_succ hk' hk2).2 ⟨hpre, heq⟩⟩, by omega⟩
      · rw [if_pos (by simpa using heq)]
        have : decide (l = m) = false := by
          rw [decide_eq_false_iff_not]; intro h; subst h; exact heq rfl
        rw [this] at hk; exact hk
    · rw [if_neg (by simp; omega)]
      have : decide (l = m) = true := by
        rw [decide_eq_true_eq]
        have e : k = l.length := by omega
        rw [e, List.take_length, hlen, List.take_length] at hpre; exact hpre
      rw [this] at hk; exact hk
  · rw [if_pos (by simp; omega)]
    have : decide (l = m) = false := by
      rw [decide_eq_false_iff_not]; intro h; subst h; exact hlen rfl
    rw [this] at hk; exact hk
end Go.Proofs.Ytooebihmkjkblaa
