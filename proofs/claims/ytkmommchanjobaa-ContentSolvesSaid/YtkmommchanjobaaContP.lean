/-
  Two contents without Not, searched with steps enough: the first places that satisfy all.
-/
import Derived.Test.YtkmommchanjobaaContN
namespace Go.Proofs.Ytkmommchanjobaa
set_option linter.unusedSimpArgs false
set_option linter.unusedVariables false
open Go
/-- The first number from p on, of n, that is good. -/
def firstG (good : Int → Bool) : Nat → Int → Option Int
  | 0, _ => none
  | n + 1, p => if good p then some p else firstG good n (p + 1)
theorem firstG_none {good : Int → Bool} : ∀ {n : Nat} {p : Int}, firstG good n p = none → ∀ q, p ≤ q → q < p + n → good q = false
  | 0, p, _, q, h1, h2 => by omega
  | n + 1, p, h, q, h1, h2 => by
    unfold firstG at h
    cases hg : good p with
    | true => rw [hg, if_pos rfl] at h; cases h
    | false =>
      rw [hg, if_neg (by simp)] at h
      by_cases hq : q = p
      · rw [hq]; exact hg
      · exact firstG_none h q (by omega) (by omega)
theorem firstG_some {good : Int → Bool} : ∀ {n : Nat} {p x : Int}, firstG good n p = some x → p ≤ x ∧ x < p + n ∧ good x = true ∧ ∀ q, p ≤ q → q < x → good q = false
  | 0, p, x, h => by cases h
  | n + 1, p, x, h => by
    unfold firstG at h
    cases hg : good p with
    | true =>
      rw [hg, if_pos rfl] at h
      cases h
      exact ⟨by omega, by omega, hg, fun q h1 h2 => by omega⟩
    | false =>
      rw [hg, if_neg (by simp)] at h
      obtain ⟨h1, h2, h3, h4⟩ := firstG_some h
      refine ⟨by omega, by omega, h3, fun q h5 h6 => ?_⟩
      by_cases hq : q = p
      · rw [hq]; exact hg
      · exact h4 q (by omega) h6
/-- A search over places whose continuation takes at most m steps and has an answer that its steps do not turn. -/
theorem places_first {d : List UInt8} {c : Cn} (hn : c.neg = false) {k : Int → Nat → Res} {after : Nat → Res} (v : Int → Option Int) (m : Nat)
    (hk : ∀ p l, AtP c d p → m ≤ l → (k (p + c.pat.length) l).1 = v (p + c.pat.length) ∧ (k (p + c.pat.length) l).2.2 = false ∧ l - m ≤ (k (p + c.pat.length) l).2.1 ∧ (k (p + c.pat.length) l).2.1 ≤ l) (ha : ∀ l, after l = (none, l, false)) :
    ∀ n p l, n * (m + 1) ≤ l → (places d c k after n p l).2.2 = false ∧ l - n * (m + 1) ≤ (places d c k after n p l).2.1 ∧ (places d c k after n p l).2.1 ≤ l ∧
      (places d c k after n p l).1 = match firstG (fun p => decide (AtP c d p) && (v (p + c.pat.length)).isSome) n p with | some x => v (x + c.pat.length) | none => none
  | 0, p, l, h => by
    unfold places firstG
    rw [ha]
    exact ⟨rfl, by simp, Nat.le_refl _, rfl⟩
  | n + 1, p, l, h => by
    have ih := places_first (d := d) hn v m hk ha n (p + 1)
    have hmul : (n + 1) * (m + 1) = n * (m + 1) + (m + 1) := Nat.succ_mul _ _
    unfold places firstG
    rw [if_neg (by omega)]
    by_cases hat : AtP c d p
    · rw [if_pos hat, hn, if_neg (by simp)]
      obtain ⟨k1, k2, k3, k4⟩ := hk p (l - 1) hat (by omega)
      rw [if_neg (by rw [k2]; simp), k1]
      cases hv : v (p + c.pat.length) with
      | some x =>
        rw [if_pos (by rfl), if_pos (by simp [hat, hv])]
        simp only
        exact ⟨k2, by omega, by omega, by rw [k1, hv]⟩
      | none =>
        rw [if_neg (by simp), if_neg (by simp [hv])]
        obtain ⟨i1, i2, i3, i4⟩ := ih (k (p + c.pat.length) (l - 1)).2.1 (by omega)
        exact ⟨i1, by omega, by omega, i4⟩
    · rw [if_neg hat, if_neg (by simp [hat])]
      obtain ⟨i1, i2, i3, i4⟩ := ih (l - 1) (by omega)
      exact ⟨i1, by omega, by omega, i4⟩
def testsL (d : List UInt8) (ts : List Ts) (cur : Int) : Bool := ts.all fun t => testL t d cur
/-- The end of the first place of b behind a cursor at which all tests hold. -/
def endB (d : List UInt8) (ts : List Ts) (b : Cn) (cur : Int) : Option Int :=
  match firstG (fun q => decide (AtP b d q) && testsL d ts (q + b.pat.length)) ((boundsL b d.length cur).2 - (boundsL b d.length cur).1 + 1).toNat (boundsL b d.length cur).1 with
  | some q => some (q + b.pat.length)
  | none => none
theorem bnd_count (c : Cn) (hc : OkC c) (d : List UInt8) (hd : d.length ≤ 40) (cur : Int) (hcur : 0 ≤ cur ∧ cur ≤ 2147483648) : ((boundsL c d.length cur).2 - (boundsL c d.length cur).1 + 1).toNat ≤ 41 := by
  have h1 := boundsL_fst c hc d.length cur ⟨by omega, by omega⟩ hcur
  have h2 := boundsL_snd c d.length cur (by omega)
  omega
theorem solve_b {d : List UInt8} {ts : List Ts} {b : Cn} (hb : b.neg = false) (hob : OkC b) (hd : d.length ≤ 40) (cur : Int) (hcur : 0 ≤ cur ∧ cur ≤ 2147483648) (l : Nat) (hl : 41 ≤ l) :
    (solve d ts [b] cur l).1 = endB d ts b cur ∧ (solve d ts [b] cur l).2.2 = false ∧ l - 41 ≤ (solve d ts [b] cur l).2.1 ∧ (solve d ts [b] cur l).2.1 ≤ l := by
  have hc := bnd_count b hob d hd cur hcur
  obtain ⟨h1, h2, h3, h4⟩ := places_first (d := d) hb (k := solve d ts []) (after := fun left => if b.neg then solve d ts [] cur left else (none, left, false)) (fun q => if testsL d ts q then some q else none) 0
    (fun p l _ _ => ⟨rfl, rfl, Nat.le_refl _, Nat.le_refl _⟩) (fun l => by simp [hb]) ((boundsL b d.length cur).2 - (boundsL b d.length cur).1 + 1).toNat (boundsL b d.length cur).1 l (by omega)
  refine ⟨?_, h1, by unfold solve; omega, h3⟩
  have e : (fun p => decide (AtP b d p) && (if testsL d ts (p + b.pat.length) then some (p + (b.pat.length : Int)) else none).isSome) = fun q => decide (AtP b d q) && testsL d ts (q + b.pat.length) := by
    funext p
    cases testsL d ts (p + b.pat.length) <;> simp
  unfold solve endB
  rw [h4, e]
  cases hf : firstG (fun q => decide (AtP b d q) && testsL d ts (q + b.pat.length)) ((boundsL b d.length cur).2 - (boundsL b d.length cur).1 + 1).toNat (boundsL b d.length cur).1 with
  | none => rfl
  | some q =>
    have := (firstG_some hf).2.2.1
    rw [Bool.and_eq_true] at this
    simp only
    rw [if_pos this.2]
/-- Two places that satisfy all. -/
def Good (d : List UInt8) (ts : List Ts) (a b : Cn) (p q : Int) : Prop :=
  ((boundsL a d.length 0).1 ≤ p ∧ p ≤ (boundsL a d.length 0).2) ∧ ((boundsL b d.length (p + a.pat.length)).1 ≤ q ∧ q ≤ (boundsL b d.length (p + a.pat.length)).2) ∧ AtP a d p ∧ AtP b d q ∧ testsL d ts (q + b.pat.length) = true
theorem endB_none {d : List UInt8} {ts : List Ts} {b : Cn} {cur : Int} (h : endB d ts b cur = none) (q : Int) (hq : (boundsL b d.length cur).1 ≤ q ∧ q ≤ (boundsL b d.length cur).2) : ¬ (AtP b d q ∧ testsL d ts (q + b.pat.length) = true) := by
  unfold endB at h
  split at h
  · cases h
  · next hf =>
    have := firstG_none hf q hq.1 (by omega)
    rintro ⟨h1, h2⟩
    rw [h2, decide_eq_true h1] at this; cases this
theorem endB_some {d : List UInt8} {ts : List Ts} {b : Cn} {cur e : Int} (h : endB d ts b cur = some e) : ∃ q, e = q + b.pat.length ∧ ((boundsL b d.length cur).1 ≤ q ∧ q ≤ (boundsL b d.length cur).2) ∧ AtP b d q ∧ testsL d ts (q + b.pat.length) = true ∧
    ∀ q', (boundsL b d.length cur).1 ≤ q' → q' < q → ¬ (AtP b d q' ∧ testsL d ts (q' + b.pat.length) = true) := by
  unfold endB at h
  split at h
  · next q hf =>
    obtain ⟨h1, h2, h3, h4⟩ := firstG_some hf
    rw [Bool.and_eq_true, decide_eq_true_eq] at h3
    refine ⟨q, by cases h; rfl, ⟨h1, by omega⟩, h3.1, h3.2, fun q' g1 g2 => ?_⟩
    have := h4 q' g1 g2
    rintro ⟨x1, x2⟩
    rw [x2, decide_eq_true x1] at this; cases this
  · cases h
theorem solve_two {d : List UInt8} {ts : List Ts} {a b : Cn} (ha : a.neg = false) (hb : b.neg = false) (hoa : OkC a) (hob : OkC b) (hd : d.length ≤ 40) :
    (solve d ts [a, b] 0 100000).2.2 = false ∧
      match (solve d ts [a, b] 0 100000).1 with
      | some e => ∃ p q, e = q + b.pat.length ∧ Good d ts a b p q ∧ ∀ p' q', Good d ts a b p' q' → p < p' ∨ p = p' ∧ q ≤ q'
      | none => ∀ p q, ¬ Good d ts a b p q := by
  have hc := bnd_count a hoa d hd 0 ⟨by omega, by omega⟩
  have hmul : ((boundsL a d.length 0).2 - (boundsL a d.length 0).1 + 1).toNat * (41 + 1) ≤ 100000 := by omega
  obtain ⟨h1, h2, h3, h4⟩ := places_first (d := d) ha (k := solve d ts [b]) (after := fun left => if a.neg then solve d ts [b] 0 left else (none, left, false)) (endB d ts b) 41
    (fun p l hat hl => by
      have g1 := hat.1
      have g2 := hat.2.1
      exact solve_b hb hob hd (p + a.pat.length) ⟨by omega, by omega⟩ l hl) (fun l => by simp [ha]) ((boundsL a d.length 0).2 - (boundsL a d.length 0).1 + 1).toNat (boundsL a d.length 0).1 100000 hmul
  have e1 : solve d ts [a, b] 0 100000 = places d a (solve d ts [b]) (fun left => if a.neg then solve d ts [b] 0 left else (none, left, false)) ((boundsL a d.length 0).2 - (boundsL a d.length 0).1 + 1).toNat (boundsL a d.length 0).1 100000 := rfl
  rw [e1]
  refine ⟨h1, ?_⟩
  rw [h4]
  cases hf : firstG (fun p => decide (AtP a d p) && (endB d ts b (p + a.pat.length)).isSome) ((boundsL a d.length 0).2 - (boundsL a d.length 0).1 + 1).toNat (boundsL a d.length 0).1 with
  | none =>
    rintro p q ⟨g1, g2, g3, g4, g5⟩
    have := firstG_none hf p g1.1 (by omega)
    rw [decide_eq_true g3, Bool.true_and] at this
    have hnone : endB d ts b (p + a.pat.length) = none := by
      cases hx : endB d ts b (p + a.pat.length) with
      | none => rfl
      | some x => rw [hx] at this; cases this
    exact endB_none hnone q g2 ⟨g4, g5⟩
  | some p =>
    obtain ⟨f1, f2, f3, f4⟩ := firstG_some hf
    rw [Bool.and_eq_true, decide_eq_true_eq] at f3
    obtain ⟨e, he⟩ := Option.isSome_iff_exists.1 f3.2
    simp only
    rw [he]
    obtain ⟨q, q1, q2, q3, q4, q5⟩ := endB_some he
    refine ⟨p, q, q1, ⟨⟨f1, by omega⟩, q2, f3.1, q3, q4⟩, ?_⟩
    rintro p' q' ⟨g1, g2, g3, g4, g5⟩
    rcases Int.lt_trichotomy p p' with h | h | h
    · exact .inl h
    · subst h
      refine .inr ⟨rfl, ?_⟩
      rcases (show q' < q ∨ q ≤ q' by omega) with hq | hq
      · exact absurd ⟨g4, g5⟩ (q5 q' g2.1 hq)
      · exact hq
    · have := f4 p' g1.1 h
      rw [decide_eq_true g3, Bool.true_and] at this
      have hnone : endB d ts b (p' + a.pat.length) = none := by
        cases hx : endB d ts b (p' + a.pat.length) with
        | none => rfl
        | some x => rw [hx] at this; cases this
      exact absurd ⟨g4, g5⟩ (endB_none hnone q' g2)
end Go.Proofs.Ytkmommchanjobaa
