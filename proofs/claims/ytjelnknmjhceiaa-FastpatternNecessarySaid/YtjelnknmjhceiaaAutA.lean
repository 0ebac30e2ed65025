/-
  Words: the longest suffix among some words, what it fails to, and the patterns that end in it. (No program.)
-/
import Derived.Test.YtjelnknmjhceiaaG2
namespace Go.Proofs.Ytjelnknmjhceiaa.Au
set_option linter.unusedSimpArgs false
set_option linter.unusedVariables false
set_option maxRecDepth 20000
abbrev Nm := List UInt8
/-- The longest suffix that is one of the words. -/
def ls (sg : List Nm) : Nm → Nm
  | [] => []
  | c :: w => if c :: w ∈ sg then c :: w else ls sg w
structure Pre (sg : List Nm) : Prop where
  nil : [] ∈ sg
  pre : ∀ w c, w ++ [c] ∈ sg → w ∈ sg
section
variable {sg : List Nm}
theorem ls_mem (P : Pre sg) : ∀ w, ls sg w ∈ sg
  | [] => P.nil
  | c :: w => by
    unfold ls; split
    · assumption
    · exact ls_mem P w
theorem ls_suf : ∀ w, ls sg w <:+ w
  | [] => List.suffix_refl _
  | c :: w => by
    unfold ls; split
    · exact List.suffix_refl _
    · exact (ls_suf w).trans (List.suffix_cons c w)
theorem ls_max : ∀ (w : Nm) {v : Nm}, v <:+ w → v ∈ sg → v <:+ ls sg w
  | [], v, h, _ => by rw [List.suffix_nil.1 h]; exact List.nil_suffix
  | c :: w, v, h, hv => by
    unfold ls; split
    · exact h
    · rename_i hn
      rcases List.suffix_cons_iff.1 h with h | h
      · subst h; exact absurd hv hn
      · exact ls_max w h hv
theorem suf_eq {a b : Nm} (h1 : a <:+ b) (h2 : b <:+ a) : a = b := by
  have := h1.length_le; have := h2.length_le
  exact h1.eq_of_length (by omega)
theorem ls_uni (P : Pre sg) {w v : Nm} (h1 : v ∈ sg) (h2 : v <:+ w) (h3 : ∀ u, u <:+ w → u ∈ sg → u <:+ v) : v = ls sg w :=
  suf_eq (ls_max w h2 h1) (h3 _ (ls_suf w) (ls_mem P w))
theorem ls_self {w : Nm} (h : w ∈ sg) : ls sg w = w := by
  cases w with
  | nil => rfl
  | cons c w => unfold ls; rw [if_pos h]
theorem suf_snoc {v w : Nm} {c : UInt8} (h : v <:+ w ++ [c]) : v = [] ∨ ∃ u, v = u ++ [c] ∧ u <:+ w := by
  rcases List.eq_nil_or_concat v with rfl | ⟨u, d, rfl⟩
  · exact .inl rfl
  · right
    rw [List.concat_eq_append] at h ⊢
    obtain ⟨t, ht⟩ := h
    rw [← List.append_assoc] at ht
    obtain ⟨h1, h2⟩ := List.append_inj' ht rfl
    cases h2
    exact ⟨u, rfl, t, h1⟩
theorem snoc_suf {v w : Nm} {c : UInt8} (h : v <:+ w) : v ++ [c] <:+ w ++ [c] := by
  obtain ⟨t, rfl⟩ := h; exact ⟨t, by rw [List.append_assoc]⟩
/-- The longest suffix, letter by letter. -/
theorem ls_step (P : Pre sg) (w : Nm) (c : UInt8) : ls sg (w ++ [c]) = ls sg (ls sg w ++ [c]) := by
  refine (ls_uni P (ls_mem P _) ((ls_suf _).trans (snoc_suf (ls_suf w))) fun u h1 h2 => ?_).symm
  rcases suf_snoc h1 with rfl | ⟨v, rfl, hv⟩
  · exact List.nil_suffix
  · exact ls_max _ (snoc_suf (ls_max w hv (P.pre _ _ h2))) h2
/-- What a word fails to. -/
def fl (sg : List Nm) (w : Nm) : Nm := ls sg w.tail
theorem fl_mem (P : Pre sg) (w : Nm) : fl sg w ∈ sg := ls_mem P _
theorem fl_len (w : Nm) (h : w ≠ []) : (fl sg w).length < w.length := by
  have h1 := (ls_suf (sg := sg) w.tail).length_le
  have h2 := List.length_pos_iff.2 h
  unfold fl
  rw [List.length_tail] at h1; omega
theorem fl_child (P : Pre sg) (w : Nm) (hw : w ≠ []) (c : UInt8) : fl sg (w ++ [c]) = ls sg (fl sg w ++ [c]) := by
  unfold fl
  rw [List.tail_append_of_ne_nil hw, ls_step P]
theorem ls_back (P : Pre sg) (w : Nm) (hw : w ≠ []) (c : UInt8) (h : w ++ [c] ∉ sg) : ls sg (w ++ [c]) = ls sg (fl sg w ++ [c]) := by
  rw [← fl_child P w hw c]
  cases w with
  | nil => exact absurd rfl hw
  | cons d w =>
    show ls sg (d :: (w ++ [c])) = ls sg (w ++ [c])
    rw [ls]; exact if_neg h
theorem suf_fl (P : Pre sg) {v w : Nm} (h : v <:+ w) (hv : v ∈ sg) (hne : v ≠ w) : v <:+ fl sg w := by
  cases w with
  | nil => rw [List.suffix_nil.1 h]; exact List.nil_suffix
  | cons c w =>
    rcases List.suffix_cons_iff.1 h with h | h
    · exact absurd h hne
    · exact ls_max w h hv
theorem fl_suf (w : Nm) : fl sg w <:+ w := (ls_suf _).trans (List.tail_suffix w)
/-! ### The patterns that end in a word -/
variable (sg) in
/-- The nearest word on the way of fl at which patterns end. -/
def outW (E : Nm → List Nat) (w : Nm) : Nm :=
  if h : w = [] then [] else if E (fl sg w) ≠ [] then fl sg w else outW E (fl sg w)
termination_by w.length
decreasing_by exact fl_len w h
theorem outW_nil (E : Nm → List Nat) : outW sg E [] = [] := by rw [outW, dif_pos rfl]
theorem outW_ne (E : Nm → List Nat) {w : Nm} (h : w ≠ []) : outW sg E w = if E (fl sg w) ≠ [] then fl sg w else outW sg E (fl sg w) := by rw [outW, dif_neg h]
theorem outW_mem (P : Pre sg) (E : Nm → List Nat) : ∀ (n : Nat) (w : Nm), w.length ≤ n → outW sg E w ∈ sg
  | 0, w, h => by rw [List.length_eq_zero_iff.1 (Nat.le_zero.1 h), outW_nil]; exact P.nil
  | n + 1, w, h => by
    by_cases hw : w = []
    · rw [hw, outW_nil]; exact P.nil
    · rw [outW_ne E hw]; split
      · exact fl_mem P w
      · exact outW_mem P E n _ (by have := fl_len (sg := sg) w hw; omega)
theorem outW_len (E : Nm → List Nat) : ∀ (n : Nat) (w : Nm), w.length ≤ n → w ≠ [] → (outW sg E w).length < w.length
  | 0, w, h, hw => absurd (List.length_eq_zero_iff.1 (Nat.le_zero.1 h)) hw
  | n + 1, w, h, hw => by
    have hl := fl_len (sg := sg) w hw
    rw [outW_ne E hw]; split
    · exact hl
    · by_cases hf : fl sg w = []
      · rw [hf, outW_nil]; exact List.length_pos_iff.2 hw
      · have := outW_len E n (fl sg w) (by omega) hf; omega
theorem outW_suf (E : Nm → List Nat) : ∀ (n : Nat) (w : Nm), w.length ≤ n → outW sg E w <:+ w
  | 0, w, h => by rw [List.length_eq_zero_iff.1 (Nat.le_zero.1 h), outW_nil]; exact List.suffix_refl _
  | n + 1, w, h => by
    by_cases hw : w = []
    · rw [hw, outW_nil]; exact List.suffix_refl _
    · rw [outW_ne E hw]; split
      · exact fl_suf w
      · exact (outW_suf E n _ (by have := fl_len (sg := sg) w hw; omega)).trans (fl_suf w)
/-- A word at which patterns end, and that ends in w, is w or ends in what w goes out to. -/
theorem outW_max (P : Pre sg) (E : Nm → List Nat) (h0 : E [] = []) : ∀ (n : Nat) (w : Nm), w.length ≤ n → ∀ v, v <:+ w → v ∈ sg → E v ≠ [] → v ≠ w → v <:+ outW sg E w
  | 0, w, h, v, hs, hm, he, hne => by
    have := List.length_eq_zero_iff.1 (Nat.le_zero.1 h)
    subst this
    exact absurd (List.suffix_nil.1 hs) hne
  | n + 1, w, h, v, hs, hm, he, hne => by
    by_cases hw : w = []
    · subst hw; exact absurd (List.suffix_nil.1 hs) hne
    · have hf := suf_fl P hs hm hne
      rw [outW_ne E hw]; split
      · exact hf
      · rename_i hE
        have hE : E (fl sg w) = [] := Classical.byContradiction fun h => hE h
        exact outW_max P E h0 n _ (by have := fl_len (sg := sg) w hw; omega) v hf hm he fun h => by rw [h] at he; exact he hE
variable (sg) in
/-- The patterns along the way out. -/
def foundW (E : Nm → List Nat) (w : Nm) : List Nat :=
  if h : w = [] then [] else E w ++ foundW E (outW sg E w)
termination_by w.length
decreasing_by exact outW_len E _ w (Nat.le_refl _) h
theorem foundW_nil (E : Nm → List Nat) : foundW sg E [] = [] := by rw [foundW, dif_pos rfl]
theorem foundW_ne (E : Nm → List Nat) {w : Nm} (h : w ≠ []) : foundW sg E w = E w ++ foundW sg E (outW sg E w) := by rw [foundW, dif_neg h]
theorem mem_found (P : Pre sg) (E : Nm → List Nat) (h0 : E [] = []) (j : Nat) : ∀ (n : Nat) (w : Nm), w.length ≤ n → w ∈ sg → (j ∈ foundW sg E w ↔ ∃ v, v <:+ w ∧ v ∈ sg ∧ j ∈ E v)
  | 0, w, h, hw => by
    have := List.length_eq_zero_iff.1 (Nat.le_zero.1 h)
    subst this
    rw [foundW_nil]
    constructor
    · intro h; cases h
    · rintro ⟨v, h1, h2, h3⟩; rw [List.suffix_nil.1 h1, h0] at h3; cases h3
  | n + 1, w, h, hw => by
    by_cases hn : w = []
    · subst hn; exact mem_found P E h0 j 0 [] (Nat.le_refl _) hw
    · have hl := outW_len (sg := sg) E _ w (Nat.le_refl _) hn
      have ih := mem_found P E h0 j n (outW sg E w) (by omega) (outW_mem P E _ w (Nat.le_refl _))
      rw [foundW_ne E hn, List.mem_append, ih]
      constructor
      · rintro (h | ⟨v, h1, h2, h3⟩)
        · exact ⟨w, List.suffix_refl _, hw, h⟩
        · exact ⟨v, h1.trans (outW_suf E _ w (Nat.le_refl _)), h2, h3⟩
      · rintro ⟨v, h1, h2, h3⟩
        by_cases hv : v = w
        · left; rw [← hv]; exact h3
        · right; exact ⟨v, outW_max P E h0 _ w (Nat.le_refl _) v h1 h2 (fun h => by rw [h] at h3; cases h3) hv, h2, h3⟩
theorem nodup_found (P : Pre sg) (E : Nm → List Nat) (h0 : E [] = []) (hE : ∀ w, (E w).Nodup) (hd : ∀ v w j, j ∈ E v → j ∈ E w → v = w) : ∀ (n : Nat) (w : Nm), w.length ≤ n → w ∈ sg → (foundW sg E w).Nodup
  | 0, w, h, hw => by rw [List.length_eq_zero_iff.1 (Nat.le_zero.1 h), foundW_nil]; exact List.nodup_nil
  | n + 1, w, h, hw => by
    by_cases hn : w = []
    · rw [hn, foundW_nil]; exact List.nodup_nil
    · have hl := outW_len (sg := sg) E _ w (Nat.le_refl _) hn
      have hm := outW_mem P E _ w (Nat.le_refl _)
      rw [foundW_ne E hn]
      refine List.nodup_append.2 ⟨hE w, nodup_found P E h0 hE hd n _ (by omega) hm, fun a ha b hb hab => ?_⟩
      subst hab
      obtain ⟨v, h1, h2, h3⟩ := (mem_found P E h0 a _ _ (Nat.le_refl _) hm).1 hb
      have := hd _ _ _ ha h3
      subst this
      have := h1.length_le
      omega
end
end Go.Proofs.Ytjelnknmjhceiaa.Au
