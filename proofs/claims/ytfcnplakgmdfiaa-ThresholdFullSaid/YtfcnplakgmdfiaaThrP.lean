/-
  Both tables side by side: the plain law.
-/
import Derived.Test.YtfcnplakgmdfiaaThrO
namespace Go.Proofs.Ytfcnplakgmdfiaa
set_option linter.unusedSimpArgs false
set_option linter.unusedVariables false
set_option maxRecDepth 20000
open Go
open Go.IntKind (wrap)
theorem find_key {L : List Tri} (nd : (L.map (·.1)).Nodup) {k : Key} {e : Tri} (he : e ∈ L) (hk : e.1 = k) : L.find? (fun e => decide (e.1 = k)) = some e := by
  cases hf : L.find? (fun e => decide (e.1 = k)) with
  | none => rw [List.find?_eq_none] at hf; exact absurd (decide_eq_true hk) (hf _ he)
  | some y =>
    have hy := List.mem_of_find?_eq_some hf
    have hyk : y.1 = k := by have := List.find?_some hf; exact of_decide_eq_true this
    obtain ⟨i, hi, rfl⟩ := List.getElem_of_mem hy
    obtain ⟨j, hj, rfl⟩ := List.getElem_of_mem he
    have hij : i = j := (List.getElem_inj (h₀ := by simpa using hi) (h₁ := by simpa using hj) nd).1 (by simp only [List.getElem_map]; rw [hyk, hk])
    subst hij; rfl
theorem curL_perm {L1 L2 : List Tri} (nd : (L1.map (·.1)).Nodup) (p : L1.Perm L2) (k : Key) (T secs : Int) : curL L1 k T secs = curL L2 k T secs := by
  have nd2 : (L2.map (·.1)).Nodup := (p.map _).nodup_iff.1 nd
  unfold curL
  cases hf : L1.find? (fun e => decide (e.1 = k)) with
  | none =>
    have : L2.find? (fun e => decide (e.1 = k)) = none := by
      rw [List.find?_eq_none] at hf ⊢
      exact fun e he => hf e (p.mem_iff.2 he)
    rw [this]
  | some e =>
    have he := List.mem_of_find?_eq_some hf
    have hk : e.1 = k := by have := List.find?_some hf; exact of_decide_eq_true this
    rw [find_key nd2 (p.mem_iff.1 he) hk]
theorem addL_perm {L1 L2 : List Tri} (p : L1.Perm L2) (k : Key) (b n : Int) : (addL L1 k b n).Perm (addL L2 k b n) := (p.filter _).append_right _
theorem addL_nodup {L : List Tri} (nd : (L.map (·.1)).Nodup) (k : Key) (b n : Int) : ((addL L k b n).map (·.1)).Nodup := by
  unfold addL
  rw [List.map_append, List.nodup_append]
  refine ⟨nd.sublist (List.filter_sublist.map _), by simp, fun y hy z hz => ?_⟩
  obtain ⟨e, he, rfl⟩ := List.mem_map.1 hy
  simp at hz
  subst hz
  exact of_decide_eq_true (List.mem_filter.1 he).2
theorem stepF_perm {L1 L2 A B : List Tri} (nd : (L1.map (·.1)).Nodup) (p : L1.Perm L2) {k : Key} {T secs : Int} (h1 : StepF L1 A k T secs) (h2 : StepF L2 B k T secs) : A.Perm B := by
  unfold StepF at *
  rw [← curL_perm nd p] at h2
  have h2 := h2.of_perm (addL_perm p k _ _).symm
  exact Shrunk.unique (addL_nodup nd k _ _) h1 h2
theorem stepF_len {L A : List Tri} {k : Key} {T secs : Int} (hl : L.length ≤ 256) (h : StepF L A k T secs) : A.length ≤ 256 := by
  unfold StepF Shrunk at h
  split at h
  · rename_i e; rw [h.length_eq]; exact e
  · obtain ⟨c, hc, _, hp⟩ := h
    rw [hp.length_eq]
    have hfl : (L.filter fun e => decide (e.1 ≠ k)).length ≤ L.length := List.length_filter_le ..
    have hM : (addL L k (curL L k T secs).1 ((curL L k T secs).2 + 1)).length ≤ 257 := by
      unfold addL; rw [List.length_append]; simp only [List.length_singleton]; omega
    generalize addL L k (curL L k T secs).1 ((curL L k T secs).2 + 1) = M at *
    have : (M.filter fun e => decide (e.1 ≠ c.1)).length < M.length := by
      rw [List.length_filter_lt_length_iff_exists]
      exact ⟨c, hc, by simp⟩
    omega
/-- Both tables, in places apart, below n0. -/
def Both (lo n0 N : Nat) (h : Heap) (t x : Addr) (T : Int) : Prop :=
  ∃ (okP okR : Nat → Prop) (r : Nat) (S : List Ct) (L : List Tri), TabR okP N h t r T S ∧ RefR okR h x T L ∧ (S.map Ct.tri).Perm L ∧ (∀ b, okP b → okR b → False) ∧ (∀ b, okP b ∨ okR b → lo ≤ b ∧ b < n0) ∧ S.length ≤ 256
/-- The program has taken an alert, the reference not yet. -/
def Mid (lo n0 N : Nat) (h : Heap) (t x : Addr) (T T' : Int) (k : Key) (secs : Int) (c : Int) : Prop :=
  ∃ (okP okR : Nat → Prop) (r : Nat) (S : List Ct) (L : List Tri), TabR okP N h t r T' S ∧ RefR okR h x T L ∧ (∀ L', StepF L L' k T' secs → (S.map Ct.tri).Perm L') ∧ (∀ b, okP b → okR b → False) ∧ (∀ b, okP b → lo ≤ b ∧ b < h.size) ∧ (∀ b, okR b → lo ≤ b ∧ b < n0) ∧ S.length ≤ 256 ∧ (curL L k T' secs).2 = c ∧
    L.length ≤ 256 ∧ (L.map (·.1)).Nodup ∧ (∀ e ∈ L, 0 ≤ e.2.1 ∧ e.2.1 ≤ 2 ^ 40 ∧ 0 ≤ e.2.2 ∧ e.2.2 ≤ 2 ^ 40) ∧ (0 ≤ T ∧ T ≤ 2 ^ 40)
end Go.Proofs.Ytfcnplakgmdfiaa
