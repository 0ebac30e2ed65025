/-
  Links: what holds while they are set (plain).
-/
import Derived.Test.YthnheldoklgceaaDoorAutN
namespace Go.Proofs.YthnheldoklgceaaDoor
set_option linter.unusedSimpArgs false
set_option linter.unusedVariables false
set_option maxRecDepth 20000
open Go
/-- D: the states that are done (the root among them); Qs: those that wait. -/
structure Lk (sg : List St) (ws : List Nm) (E : Nm → List Nat) (D : Nat → Prop) (Qs : List Nat) : Prop where
  len : sg.length = ws.length
  nd : ws.Nodup
  z : ws[0]? = some []
  pre : ∀ w c, w ++ [c] ∈ ws → w ∈ ws
  root : D 0
  no : ∀ i (hi : i < sg.length) w (c : UInt8), ws[i]? = some w → ¬ D i → sg[i].nx c.toNat = 0 → w ++ [c] ∉ ws
  yes : ∀ i (hi : i < sg.length) w (c : UInt8), ws[i]? = some w → ¬ D i → sg[i].nx c.toNat ≠ 0 → ws[sg[i].nx c.toNat]? = some (w ++ [c])
  dn : ∀ i (hi : i < sg.length) w (c : UInt8), ws[i]? = some w → D i → ws[sg[i].nx c.toNat]? = some (ls ws (w ++ [c]))
  fa : ∀ i (hi : i < sg.length) w, ws[i]? = some w → D i ∨ i ∈ Qs → ws[sg[i].fa]? = some (fl ws w)
  ou : ∀ i (hi : i < sg.length) w, ws[i]? = some w → D i → ws[sg[i].ou]? = some (outW ws E w)
  en : ∀ i (hi : i < sg.length) w, ws[i]? = some w → sg[i].en = E w
  apart : ∀ i ∈ Qs, ¬ D i ∧ i < sg.length
  qnd : Qs.Nodup
  child : ∀ i j w c, ws[i]? = some (w ++ [c]) → ws[j]? = some w → D j → D i ∨ i ∈ Qs
  ord : ∀ p i q, Qs = p ++ i :: q → ∀ w, ws[i]? = some w → ∀ j v, ws[j]? = some v → v.length < w.length → D j ∨ j ∈ p
/-- When none waits, all are done. -/
theorem Lk.all {sg : List St} {ws : List Nm} {E : Nm → List Nat} {D : Nat → Prop} (L : Lk sg ws E D []) : ∀ (n : Nat) (w : Nm), w.length ≤ n → ∀ i, ws[i]? = some w → D i := by
  intro n
  induction n with
  | zero =>
    intro w hw i hi
    have : w = [] := List.length_eq_zero_iff.1 (Nat.le_zero.1 hw)
    subst this
    rw [idx_uniq L.nd hi L.z]; exact L.root
  | succ n ih =>
    intro w hw i hi
    rcases List.eq_nil_or_concat w with h | ⟨u, c, h⟩
    · subst h; rw [idx_uniq L.nd hi L.z]; exact L.root
    · rw [List.concat_eq_append] at h
      subst h
      rw [List.length_append, List.length_singleton] at hw
      have hu := L.pre u c (List.mem_of_getElem? hi)
      obtain ⟨j, hj⟩ := List.getElem?_of_mem hu
      rcases L.child i j u c hi hj (ih u (by omega) j hj) with h | h
      · exact h
      · cases h
theorem Lk.words {sg : List St} {ws : List Nm} {E : Nm → List Nat} {D : Nat → Prop} {Qs : List Nat} (L : Lk sg ws E D Qs) : Pre ws := ⟨List.mem_of_getElem? L.z, L.pre⟩
/-- What waits first: its back is done. -/
theorem Lk.back {sg : List St} {ws : List Nm} {E : Nm → List Nat} {D : Nat → Prop} {i : Nat} {q : List Nat} (L : Lk sg ws E D (i :: q)) {w : Nm} (hw : ws[i]? = some w) (hi : i < sg.length) : ws[sg[i].fa]? = some (fl ws w) ∧ D sg[i].fa := by
  have hf := L.fa i hi w hw (.inr List.mem_cons_self)
  have hne : w ≠ [] := fun h => by
    subst h
    have := idx_uniq L.nd hw L.z
    subst this
    exact (L.apart 0 List.mem_cons_self).1 L.root
  refine ⟨hf, ?_⟩
  rcases L.ord [] i q rfl w hw _ _ hf (fl_len w hne) with h | h
  · exact h
  · cases h
end Go.Proofs.YthnheldoklgceaaDoor
