/-
  A budget that suffices changes nothing, a smaller one is told: of what the search computes.
-/
import Derived.Test.YtkmommchanjobaaContM
namespace Go.Proofs.Ytkmommchanjobaa
set_option linter.unusedSimpArgs false
set_option linter.unusedVariables false
open Go
def Mono (f : Nat → Res) : Prop := ∀ L e l, f L = (e, l, false) → l ≤ L ∧ (∀ L', L - l ≤ L' → f L' = (e, L' - (L - l), false)) ∧ ∀ L', L' < L - l → (f L').2.2 = true
theorem places_mono {d : List UInt8} {c : Cn} {k : Int → Nat → Res} {after : Nat → Res} (hk : ∀ p, Mono (k p)) (ha : Mono after) : ∀ n p, Mono (places d c k after n p)
  | 0, p => ha
  | n + 1, p => by
    have ih := places_mono (d := d) (c := c) hk ha n (p + 1)
    intro L e l h
    unfold places at h
    by_cases h0 : L = 0
    · rw [if_pos h0] at h; cases h
    rw [if_neg h0] at h
    by_cases hat : AtP c d p
    · rw [if_pos hat] at h
      cases hneg : c.neg with
      | true =>
        rw [hneg, if_pos rfl] at h
        cases h
        refine ⟨by omega, fun L' hL => ?_, fun L' hL => ?_⟩
        · unfold places
          rw [if_neg (by omega), if_pos hat, hneg, if_pos rfl]
          have : L - (L - 1) = 1 := by omega
          rw [this]
        · unfold places
          rw [if_pos (by omega)]
      | false =>
        rw [hneg, if_neg (by simp)] at h
        generalize hq : p + (c.pat.length : Int) = q at *
        cases hr : k q (L - 1) with
        | mk e1 r =>
          obtain ⟨l1, o1⟩ := r
          rw [hr] at h
          simp only at h
          cases o1 with
          | true => rw [if_pos rfl] at h; cases h
          | false =>
            rw [if_neg (by simp)] at h
            obtain ⟨m1, m2, m3⟩ := hk q (L - 1) e1 l1 hr
            cases e1 with
            | some x =>
              rw [if_pos (by rfl)] at h
              cases h
              refine ⟨by omega, fun L' hL => ?_, fun L' hL => ?_⟩
              · unfold places
                rw [if_neg (by omega), if_pos hat, hneg, if_neg (by simp), hq, m2 (L' - 1) (by omega)]
                simp only
                rw [if_neg (by simp), if_pos (by rfl)]
                have : L' - 1 - (L - 1 - l) = L' - (L - l) := by omega
                rw [this]
              · unfold places
                by_cases hz : L' = 0
                · rw [if_pos hz]
                · rw [if_neg hz, if_pos hat, hneg, if_neg (by simp), hq, if_pos (m3 (L' - 1) (by omega))]
            | none =>
              rw [if_neg (by simp)] at h
              obtain ⟨i1, i2, i3⟩ := ih l1 e l h
              refine ⟨by omega, fun L' hL => ?_, fun L' hL => ?_⟩
              · unfold places
                rw [if_neg (by omega), if_pos hat, hneg, if_neg (by simp), hq, m2 (L' - 1) (by omega)]
                simp only
                rw [if_neg (by simp), if_neg (by simp)]
                rw [i2 _ (by omega)]
                have : L' - 1 - (L - 1 - l1) - (l1 - l) = L' - (L - l) := by omega
                rw [this]
              · unfold places
                by_cases hz : L' = 0
                · rw [if_pos hz]
                · rw [if_neg hz, if_pos hat, hneg, if_neg (by simp), hq]
                  by_cases hlt : L' - 1 < L - 1 - l1
                  · rw [if_pos (m3 _ hlt)]
                  · rw [m2 (L' - 1) (by omega)]
                    simp only
                    rw [if_neg (by simp), if_neg (by simp)]
                    exact i3 _ (by omega)
    · rw [if_neg hat] at h
      obtain ⟨i1, i2, i3⟩ := ih (L - 1) e l h
      refine ⟨by omega, fun L' hL => ?_, fun L' hL => ?_⟩
      · unfold places
        rw [if_neg (by omega), if_neg hat, i2 (L' - 1) (by omega)]
        have : L' - 1 - (L - 1 - l) = L' - (L - l) := by omega
        rw [this]
      · unfold places
        by_cases hz : L' = 0
        · rw [if_pos hz]
        · rw [if_neg hz, if_neg hat]
          exact i3 _ (by omega)
theorem solve_mono (d : List UInt8) (ts : List Ts) : ∀ (cs : List Cn) (cur : Int), Mono (solve d ts cs cur)
  | [], cur => by
    intro L e l h
    unfold solve at h
    injection h with h1 h2
    injection h2 with h2 h3
    subst h2
    refine ⟨Nat.le_refl _, fun L' _ => ?_, fun L' hL => by omega⟩
    unfold solve
    rw [h1]
    have : L' - (L - L) = L' := by omega
    rw [this]
  | c :: cs, cur => by
    have hs : Mono (fun left => if c.neg then solve d ts cs cur left else (none, left, false)) := by
      cases c.neg with
      | true => exact solve_mono d ts cs cur
      | false =>
        intro L e l h
        cases h
        refine ⟨Nat.le_refl _, fun L' _ => ?_, fun L' hL => by omega⟩
        show (none, L', false) = _
        have : L' - (L - L) = L' := by omega
        rw [this]
    intro L e l h
    unfold solve at h
    have := places_mono (fun p => solve_mono d ts cs p) hs _ _ L e l h
    unfold solve
    exact this
end Go.Proofs.Ytkmommchanjobaa
