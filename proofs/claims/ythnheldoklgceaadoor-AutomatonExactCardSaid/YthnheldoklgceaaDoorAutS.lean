/-
  What the states on the way out find (plain).
-/
import Derived.Test.YthnheldoklgceaaDoorAutR
namespace Go.Proofs.YthnheldoklgceaaDoor
set_option linter.unusedSimpArgs false
set_option linter.unusedVariables false
set_option maxRecDepth 20000
open Go
def foundL (L : List Pt) (s : Nm) : List Nat := (List.range L.length).filter fun j => occB (L.getD j ⟨[], false⟩) s s.length
theorem foundL_asc (L : List Pt) (s : Nm) : (foundL L s).Pairwise (· < ·) := List.Pairwise.filter _ List.pairwise_lt_range
theorem mem_ends {L : List Pt} {w : Nm} {j : Nat} : j ∈ endsL L L.length w ↔ j < L.length ∧ lowL (L.getD j ⟨[], false⟩).t = w := by
  unfold endsL
  rw [List.mem_filter, List.mem_range, decide_eq_true_iff]
theorem endL_end (s : Nm) (k : Nat) (hk : k ≤ s.length) : endL s k s.length = s.drop (s.length - k) := by
  unfold endL
  rw [List.take_of_length_le]
  rw [List.length_drop]; omega
theorem suf_drop {v s : Nm} : v <:+ s ↔ v.length ≤ s.length ∧ s.drop (s.length - v.length) = v := by
  constructor
  · intro h
    exact ⟨h.length_le, (List.suffix_iff_eq_drop.1 h).symm⟩
  · rintro ⟨_, h⟩
    rw [← h]; exact List.drop_suffix _ _
section
variable {sg : List St} {ws : List Nm} {L : List Pt}
theorem Done.pre' {E : Nm → List Nat} (D : Done sg ws E) : Pre ws := ⟨List.mem_of_getElem? D.z, D.pre⟩
theorem ends_nil (he : errL L = 0) : endsL L L.length [] = [] := by
  rw [List.eq_nil_iff_forall_not_mem]
  intro j hj
  obtain ⟨h1, h2⟩ := mem_ends.1 hj
  rw [getPt L j h1] at h2
  refine (errL_ok he _ (List.getElem_mem h1)).1 ?_
  unfold lowL at h2
  exact List.map_eq_nil_iff.1 h2
theorem ends_nodup (w : Nm) : (endsL L L.length w).Nodup := List.Pairwise.filter _ List.nodup_range
theorem ends_one (v w : Nm) (j : Nat) (h1 : j ∈ endsL L L.length v) (h2 : j ∈ endsL L L.length w) : v = w := (mem_ends.1 h1).2.symm.trans (mem_ends.1 h2).2
theorem found_nodup (D : Done sg ws (endsL L L.length)) (he : errL L = 0) (s : Nm) : (foundW ws (endsL L L.length) (ls ws s)).Nodup :=
  nodup_found D.pre' _ (ends_nil he) ends_nodup ends_one _ _ (Nat.le_refl _) (ls_mem D.pre' s)
theorem found_mem (D : Done sg ws (endsL L L.length)) (hw : ∀ w, w ∈ ws ↔ isPre L L.length w) (he : errL L = 0) (s : Nm) (j : Nat) :
    j ∈ foundW ws (endsL L L.length) (ls ws s) ↔ j < L.length ∧ lowL (L.getD j ⟨[], false⟩).t <:+ s := by
  rw [mem_found D.pre' _ (ends_nil he) j _ _ (Nat.le_refl _) (ls_mem D.pre' s)]
  constructor
  · rintro ⟨v, h1, h2, h3⟩
    obtain ⟨h4, h5⟩ := mem_ends.1 h3
    refine ⟨h4, ?_⟩
    rw [h5]; exact h1.trans (ls_suf s)
  · rintro ⟨h1, h2⟩
    have hm : lowL (L.getD j ⟨[], false⟩).t ∈ ws := (hw _).2 (.inr ⟨j, h1, h1, by rw [getPt L j h1]; exact List.prefix_refl _⟩)
    exact ⟨_, ls_max s h2 hm, hm, mem_ends.2 ⟨h1, rfl⟩⟩
theorem drop64 (s : Nm) (k : Nat) (h1 : k ≤ 64) (h2 : k ≤ s.length) : (s.drop (s.length - 64)).drop ((s.drop (s.length - 64)).length - k) = s.drop (s.length - k) := by
  rw [List.drop_drop, List.length_drop]
  congr 1; omega
theorem occ_end (p : Pt) (s : Nm) (h1 : p.t ≠ []) (h2 : p.t.length ≤ 64) :
    occB p s s.length = true ↔ lowL p.t <:+ lowL s ∧ (p.nc || decide ((s.drop (s.length - 64)).drop ((s.drop (s.length - 64)).length - p.t.length) = p.t)) = true := by
  have hs : lowL p.t <:+ lowL s ↔ p.t.length ≤ s.length ∧ lowL (s.drop (s.length - p.t.length)) = lowL p.t := by
    rw [suf_drop, lowL_len, lowL_len]
    unfold lowL
    rw [List.map_drop]
  unfold occB
  rw [Bool.and_eq_true, Bool.and_eq_true, decide_eq_true_iff, decide_eq_true_iff, hs]
  constructor
  · rintro ⟨_, h3, h4⟩
    rw [endL_end s _ h3] at h4
    rw [drop64 s _ h2 h3]
    by_cases hn : p.nc = true
    · rw [if_pos hn, decide_eq_true_iff] at h4
      exact ⟨⟨h3, h4⟩, by rw [hn]; rfl⟩
    · rw [if_neg hn, decide_eq_true_iff] at h4
      exact ⟨⟨h3, by rw [h4]⟩, by rw [h4]; simp⟩
  · rintro ⟨⟨h3, h4⟩, h5⟩
    rw [drop64 s _ h2 h3] at h5
    refine ⟨h1, h3, ?_⟩
    rw [endL_end s _ h3]
    by_cases hn : p.nc = true
    · rw [if_pos hn, decide_eq_true_iff]; exact h4
    · rw [if_neg hn, decide_eq_true_iff]
      rw [Bool.or_eq_true] at h5
      rcases h5 with h5 | h5
      · exact absurd h5 hn
      · exact of_decide_eq_true h5
theorem found_perm (D : Done sg ws (endsL L L.length)) (hw : ∀ w, w ∈ ws ↔ isPre L L.length w) (he : errL L = 0) (s : Nm) :
    ((foundW ws (endsL L L.length) (ls ws (lowL s))).filter (spB L (s.drop (s.length - 64)))).Perm (foundL L s) := by
  refine (List.perm_ext_iff_of_nodup ((found_nodup D he _).filter _) ((List.nodup_range).filter _)).2 fun j => ?_
  rw [List.mem_filter, found_mem D hw he]
  rw [List.mem_filter, List.mem_range]
  constructor
  · rintro ⟨⟨h1, h2⟩, h3⟩
    have hp := errL_ok he _ (List.getElem_mem h1)
    rw [← getPt L j h1] at hp
    exact ⟨h1, (occ_end _ s hp.1 hp.2).2 ⟨h2, h3⟩⟩
  · rintro ⟨h1, h2⟩
    have hp := errL_ok he _ (List.getElem_mem h1)
    rw [← getPt L j h1] at hp
    have := (occ_end _ s hp.1 hp.2).1 h2
    exact ⟨⟨h1, this.1⟩, this.2⟩
theorem found_len (D : Done sg ws (endsL L L.length)) (hw : ∀ w, w ∈ ws ↔ isPre L L.length w) (he : errL L = 0) (s : Nm) : (foundW ws (endsL L L.length) (ls ws s)).length ≤ L.length :=
  nodup_lt (found_nodup D he s) fun j hj => ((found_mem D hw he s j).1 hj).1
end
end Go.Proofs.YthnheldoklgceaaDoor
