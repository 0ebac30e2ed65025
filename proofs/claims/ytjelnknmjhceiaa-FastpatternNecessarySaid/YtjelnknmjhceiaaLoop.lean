/-
  A loop by a number that falls, told beside the state.
-/
import Derived.Test.YtjelnknmjhceiaaKit2
namespace Go.Proofs.Ytjelnknmjhceiaa
set_option linter.unusedSimpArgs false
set_option linter.unusedVariables false
set_option maxRecDepth 20000
open Go
theorem leastN {I : Nat → Prop} (h : ∃ n, I n) : ∃ n, I n ∧ ∀ m, m < n → ¬ I m := by
  obtain ⟨n, hn⟩ := h
  induction n using Nat.strongRecOn with
  | ind n ih =>
    by_cases hm : ∃ m, m < n ∧ I m
    · obtain ⟨m, h1, h2⟩ := hm; exact ih m h1 h2
    · exact ⟨n, hn, fun m h1 h2 => hm ⟨m, h1, h2⟩⟩
theorem LoopV.go {σ : Type} {body : σ → Heap → (σ → Heap → Prop) → Prop} {s : σ} {h : Heap} (I : Nat → σ → Heap → Prop) (n0 : Nat) (h0 : I n0 s h)
    (hr : ∀ n s h, I n s h → ∀ Kn : σ → Heap → Prop, (∀ m s' h', m < n → I m s' h' → Kn s' h') → body s h Kn) : LoopV body s h := by
  have hx : ∀ s h, ∃ k : Nat, (∃ n, I n s h) → I k s h ∧ ∀ m, m < k → ¬ I m s h := fun s h => by
    by_cases he : ∃ n, I n s h
    · obtain ⟨k, h1, h2⟩ := leastN he; exact ⟨k, fun _ => ⟨h1, h2⟩⟩
    · exact ⟨0, fun h => absurd h he⟩
  refine LoopV.mk (fun s h => ∃ n, I n s h) (fun s h => Classical.choose (hx s h)) ⟨n0, h0⟩ fun s h hI => ?_
  obtain ⟨h1, h2⟩ := Classical.choose_spec (hx s h) hI
  refine hr _ s h h1 _ fun m s' h' hm hi => ⟨⟨m, hi⟩, ?_⟩
  obtain ⟨h3, h4⟩ := Classical.choose_spec (hx s' h') ⟨m, hi⟩
  exact Nat.lt_of_le_of_lt (Nat.le_of_not_lt fun hlt => h4 m hlt hi) hm
end Go.Proofs.Ytjelnknmjhceiaa
