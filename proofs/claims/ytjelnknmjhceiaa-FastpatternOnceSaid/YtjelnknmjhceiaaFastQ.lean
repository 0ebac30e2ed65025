/-
  Every rule stands once in the groups, under its kind and its pattern.
-/
import Derived.Test.YtjelnknmjhceiaaFastP
namespace Go.Proofs.Ytjelnknmjhceiaa
set_option linter.unusedSimpArgs false
set_option linter.unusedVariables false
set_option maxRecDepth 20000
open Go
def vg (g : Grp) : List Int := g.always ++ g.rules.flatten
def vgs (gs : List Grp) : List Int := gs.flatMap vg
/-- What is right of a group: its numbers name rules of its kind, with its patterns. -/
structure Right (l : List Ru) (k : Nat) (g : Grp) : Prop where
  len : g.rules.length = g.pats.length
  al : ∀ n ∈ g.always, ∃ (m : Nat) (hm : m < l.length), n = m ∧ m < k ∧ l[m].Kind = g.kind ∧ patL l[m].Contents.xs = none
  ru : ∀ j (hj : j < g.rules.length) (hp : j < g.pats.length), ∀ n ∈ g.rules[j], ∃ (m : Nat) (hm : m < l.length), n = m ∧ m < k ∧ l[m].Kind = g.kind ∧ patL l[m].Contents.xs = some g.pats[j]
  up : ∀ j (hj : j < g.rules.length), g.rules[j].Pairwise (· < ·)
theorem Right.mono {l : List Ru} {k m : Nat} {g : Grp} (r : Right l k g) (h : k ≤ m) : Right l m g :=
  ⟨r.len, fun n hn => by obtain ⟨a, b, c, d, e⟩ := r.al n hn; exact ⟨a, b, c, by omega, e⟩, fun j hj hp n hn => by obtain ⟨a, b, c, d, e⟩ := r.ru j hj hp n hn; exact ⟨a, b, c, by omega, e⟩, r.up⟩
theorem add_vg (k : Nat) (r : Ru) (g : Grp) (hl : g.rules.length = g.pats.length) (x : Int) : (vg (addG k r g)).count x = (vg g).count x + (if (k : Int) = x then 1 else 0) ∧ (vg (addG k r g)).length = (vg g).length + 1 := by
  unfold addG
  cases hp : patL r.Contents.xs with
  | none => simp only [vg]; constructor
            · simp only [List.count_append, List.count_cons, List.count_nil, beq_iff_eq]; omega
            · simp only [List.length_append, List.length_cons, List.length_nil]; omega
  | some p =>
    simp only
    split
    · simp only [vg]; constructor
      · simp only [List.flatten_append, List.flatten_cons, List.flatten_nil, List.append_nil, List.count_append, List.count_cons, List.count_nil, beq_iff_eq]; omega
      · simp only [List.flatten_append, List.flatten_cons, List.flatten_nil, List.append_nil, List.length_append, List.length_cons, List.length_nil]; omega
    · rename_i hne
      have hi : g.pats.findIdx (· == p) < g.rules.length := by
        have := List.findIdx_le_length (xs := g.pats) (p := (· == p)); omega
      generalize g.pats.findIdx (· == p) = i at *
      have e : g.rules = g.rules.take i ++ g.rules[i] :: g.rules.drop (i + 1) := by rw [← List.drop_eq_getElem_cons hi, List.take_append_drop]
      have e2 : g.rules.modify i (· ++ [(k : Int)]) = g.rules.take i ++ (g.rules[i] ++ [(k : Int)]) :: g.rules.drop (i + 1) := List.modify_eq_take_cons_drop hi
      have e3 : g.rules.flatten = (g.rules.take i).flatten ++ (g.rules[i] ++ (g.rules.drop (i + 1)).flatten) := by
        conv => lhs; rw [e]
        rw [List.flatten_append, List.flatten_cons]
      simp only [vg, e2, e3, List.flatten_append, List.flatten_cons]
      constructor
      · simp only [List.count_append, List.count_cons, List.count_nil, beq_iff_eq]; omega
      · simp only [List.length_append, List.length_cons, List.length_nil]; omega
theorem modify_vgs {gs : List Grp} {i : Nat} (hi : i < gs.length) (f : Grp → Grp) (k x : Int) (h : (vg (f gs[i])).count x = (vg gs[i]).count x + (if k = x then 1 else 0) ∧ (vg (f gs[i])).length = (vg gs[i]).length + 1) :
    (vgs (gs.modify i f)).count x = (vgs gs).count x + (if k = x then 1 else 0) ∧ (vgs (gs.modify i f)).length = (vgs gs).length + 1 := by
  have e : gs = gs.take i ++ gs[i] :: gs.drop (i + 1) := by rw [← List.drop_eq_getElem_cons hi, List.take_append_drop]
  have e2 : gs.modify i f = gs.take i ++ f gs[i] :: gs.drop (i + 1) := List.modify_eq_take_cons_drop hi
  have e3 : vgs gs = vgs (gs.take i) ++ (vg gs[i] ++ vgs (gs.drop (i + 1))) := by
    conv => lhs; rw [e]
    unfold vgs; rw [List.flatMap_append, List.flatMap_cons]
  have e4 : vgs (gs.modify i f) = vgs (gs.take i) ++ (vg (f gs[i]) ++ vgs (gs.drop (i + 1))) := by
    rw [e2]; unfold vgs; rw [List.flatMap_append, List.flatMap_cons]
  rw [e3, e4]
  simp only [List.count_append, List.length_append]
  omega
structure Once (l : List Ru) (k : Nat) (gs : List Grp) : Prop where
  right : ∀ g ∈ gs, Right l k g
  len : (vgs gs).length = k
  count : ∀ x : Nat, (vgs gs).count (x : Int) = if x < k then 1 else 0
theorem addG_right {l : List Ru} {k : Nat} (hk : k < l.length) {g : Grp} (r : Right l k g) (hkind : g.kind = l[k].Kind) : Right l (k + 1) (addG k l[k] g) := by
  have r' := r.mono (Nat.le_succ k)
  unfold addG
  cases hp : patL l[k].Contents.xs with
  | none =>
    refine ⟨r'.len, fun n hn => ?_, r'.ru, r'.up⟩
    rcases List.mem_append.1 hn with h | h
    · exact r'.al n h
    · exact ⟨k, hk, List.mem_singleton.1 h, by omega, hkind.symm, hp⟩
  | some p =>
    simp only
    split
    · refine ⟨by simp [r.len], r'.al, fun j hj hq n hn => ?_, fun j hj => ?_⟩
      · by_cases e : j < g.rules.length
        · rw [List.getElem_append_left e] at hn
          rw [List.getElem_append_left (by rw [← r.len]; exact e)]
          exact r'.ru j e _ n hn
        · have ej : j = g.rules.length := by simp at hj; omega
          subst ej
          rw [List.getElem_append_right (Nat.le_refl _)] at hn
          simp at hn
          refine ⟨k, hk, hn, by omega, hkind.symm, ?_⟩
          rw [hp, List.getElem_append_right (by rw [r.len]; exact Nat.le_refl _)]
          simp
      · by_cases e : j < g.rules.length
        · rw [List.getElem_append_left e]; exact r.up j e
        · have ej : j = g.rules.length := by simp at hj; omega
          subst ej
          rw [List.getElem_append_right (Nat.le_refl _)]; simp
    · rename_i hne
      have hi : g.pats.findIdx (· == p) < g.pats.length := by
        have := List.findIdx_le_length (xs := g.pats) (p := (· == p)); omega
      have hpi : g.pats[g.pats.findIdx (· == p)] = p := by
        have := List.findIdx_getElem (w := hi)
        simpa using this
      generalize g.pats.findIdx (· == p) = i at *
      refine ⟨by simp [r.len], r'.al, fun j hj hq n hn => ?_, fun j hj => ?_⟩
      · have hj' : j < g.rules.length := by simpa using hj
        rw [List.getElem_modify] at hn
        split at hn
        · rename_i e
          subst e
          rcases List.mem_append.1 hn with h | h
          · exact r'.ru _ hj' _ n h
          · exact ⟨k, hk, List.mem_singleton.1 h, by omega, hkind.symm, by rw [hp, hpi]⟩
        · exact r'.ru _ hj' _ n hn
      · have hj' : j < g.rules.length := by simpa using hj
        rw [List.getElem_modify]
        split
        · rename_i e
          subst e
          rw [List.pairwise_append]
          refine ⟨r.up _ hj', by simp, fun a ha b hb => ?_⟩
          obtain ⟨m, _, rfl, hm, _⟩ := r.ru _ hj' hi a ha
          rw [List.mem_singleton.1 hb]; omega
        · exact r.up _ hj'
theorem once_add {l : List Ru} {k : Nat} (hk : k < l.length) {gs : List Grp} (o : Once l k gs) : Once l (k + 1) (addR k l[k] gs) := by
  unfold addR
  have hr : ∀ g ∈ seatG l[k] gs, Right l k g := by
    intro g hg
    unfold seatG at hg
    split at hg
    · rcases List.mem_append.1 hg with h | h
      · exact o.right g h
      · rw [List.mem_singleton.1 h]
        exact ⟨rfl, by simp, by simp, by simp⟩
    · exact o.right g hg
  have hv : vgs (seatG l[k] gs) = vgs gs := by
    unfold seatG vgs
    split
    · rw [List.flatMap_append]; simp [vg]
    · rfl
  have hi : gs.findIdx (fitsG l[k]) < (seatG l[k] gs).length := by
    have := List.findIdx_le_length (xs := gs) (p := fitsG l[k])
    unfold seatG
    split
    · simp; omega
    · omega
  have hkd : (seatG l[k] gs)[gs.findIdx (fitsG l[k])].kind = l[k].Kind := by
    by_cases e : gs.findIdx (fitsG l[k]) = gs.length
    · have : seatG l[k] gs = gs ++ [⟨l[k].Kind, l[k].Transforms.xs, [], [], []⟩] := by unfold seatG; rw [if_pos e]
      simp only [this, e]
      simp
    · have hlt : gs.findIdx (fitsG l[k]) < gs.length := by
        have := List.findIdx_le_length (xs := gs) (p := fitsG l[k]); omega
      have : seatG l[k] gs = gs := by unfold seatG; rw [if_neg e]
      simp only [this]
      have h2 := List.findIdx_getElem (w := hlt)
      unfold fitsG at h2 ⊢
      simp only [Bool.and_eq_true, beq_iff_eq] at h2
      exact h2.1
  generalize gs.findIdx (fitsG l[k]) = i at *
  generalize seatG l[k] gs = G at *
  have hm := fun x => modify_vgs hi (addG k l[k]) (k : Int) x (add_vg k l[k] _ (hr _ (List.getElem_mem hi)).len x)
  rw [hv] at hm
  refine ⟨fun g hg => ?_, ?_, fun x => ?_⟩
  · obtain ⟨j, hj, rfl⟩ := List.getElem_of_mem hg
    have hj' : j < G.length := by simpa using hj
    rw [List.getElem_modify]
    split
    · rename_i e; subst e
      exact addG_right hk (hr _ (List.getElem_mem hj')) hkd
    · exact (hr _ (List.getElem_mem hj')).mono (Nat.le_succ k)
  · rw [(hm 0).2, o.len]
  · rw [(hm x).1, o.count x]
    by_cases e : k = x
    · subst e; simp
    · rw [if_neg (by omega : ¬ (k : Int) = (x : Int))]
      by_cases e2 : x < k
      · rw [if_pos e2, if_pos (by omega)]
      · rw [if_neg e2, if_neg (by omega)]
theorem once_go {l : List Ru} : ∀ (n k : Nat) (gs : List Grp), k + n = l.length → Once l k gs → Once l l.length (groupsGo (l.drop k) k gs)
  | 0, k, gs, h, o => by
    have e : k = l.length := by omega
    subst e
    rw [List.drop_length]; exact o
  | n + 1, k, gs, h, o => by
    have hk : k < l.length := by omega
    rw [List.drop_eq_getElem_cons hk, groupsGo]
    exact once_go n (k + 1) _ (by omega) (once_add hk o)
theorem once_groups (l : List Ru) : Once l l.length (groupsL l) := by
  have := once_go (l := l) l.length 0 [] (by omega) ⟨fun g hg => (by cases hg), rfl, fun x => by simp [vgs]⟩
  rw [List.drop_zero] at this; exact this
end Go.Proofs.Ytjelnknmjhceiaa
