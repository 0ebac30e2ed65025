/-
  The trie of the patterns: the plain law of one more word.
-/
import Derived.Test.YthnheldoklgceaaDoorAutF
namespace Go.Proofs.YthnheldoklgceaaDoor
set_option linter.unusedSimpArgs false
set_option linter.unusedVariables false
set_option maxRecDepth 20000
open Go
/-- The states stand for the words. -/
structure Trie (sg : List St) (ws : List Nm) (E : Nm → List Nat) : Prop where
  len : sg.length = ws.length
  nd : ws.Nodup
  z : ws[0]? = some []
  pre : ∀ w c, w ++ [c] ∈ ws → w ∈ ws
  no : ∀ i (hi : i < sg.length) w (c : UInt8), ws[i]? = some w → sg[i].nx c.toNat = 0 → w ++ [c] ∉ ws
  yes : ∀ i (hi : i < sg.length) w (c : UInt8), ws[i]? = some w → sg[i].nx c.toNat ≠ 0 → ws[sg[i].nx c.toNat]? = some (w ++ [c])
  fo : ∀ i (hi : i < sg.length), sg[i].fa = 0 ∧ sg[i].ou = 0
  en : ∀ i (hi : i < sg.length) w, ws[i]? = some w → sg[i].en = E w
  out : ∀ w, w ∉ ws → E w = []
theorem idx_uniq {ws : List Nm} (nd : ws.Nodup) {i j : Nat} {w : Nm} (h1 : ws[i]? = some w) (h2 : ws[j]? = some w) : i = j := by
  exact (List.getElem?_inj (List.getElem?_eq_some_iff.1 h1).1 nd).1 (h1.trans h2.symm)
section
variable {sg : List St} {ws : List Nm} {E : Nm → List Nat}
theorem Trie.lt (T : Trie sg ws E) {i : Nat} {w : Nm} (h : ws[i]? = some w) : i < sg.length := by
  rw [T.len]; exact (List.getElem?_eq_some_iff.1 h).1
theorem Trie.mem (T : Trie sg ws E) {i : Nat} {w : Nm} (h : ws[i]? = some w) : w ∈ ws := List.mem_of_getElem? h
/-- A state for one more word. -/
theorem Trie.grow (T : Trie sg ws E) {now : Nat} {w : Nm} (hw : ws[now]? = some w) (c : UInt8) (h0 : (sg[now]'(T.lt hw)).nx c.toNat = 0) :
    Trie ((sg ++ [st00]).set now { sg[now]'(T.lt hw) with nx := putN (sg[now]'(T.lt hw)).nx c.toNat sg.length }) (ws ++ [w ++ [c]]) E := by
  have hlt := T.lt hw
  have hnew : w ++ [c] ∉ ws := T.no now hlt w c hw h0
  have hlen := T.len
  have hne0 : sg.length ≠ 0 := by omega
  have hat : ∀ i (hi : i < ((sg ++ [st00]).set now { sg[now] with nx := putN sg[now].nx c.toNat sg.length }).length) (h2 : i < sg.length), i ≠ now → ((sg ++ [st00]).set now { sg[now] with nx := putN sg[now].nx c.toNat sg.length })[i] = sg[i] := fun i hi h2 hne => by
    rw [List.getElem_set, if_neg (fun h => hne h.symm), List.getElem_append_left h2]
  have hnow : ∀ (hi : now < ((sg ++ [st00]).set now { sg[now] with nx := putN sg[now].nx c.toNat sg.length }).length), ((sg ++ [st00]).set now { sg[now] with nx := putN sg[now].nx c.toNat sg.length })[now] = { sg[now] with nx := putN sg[now].nx c.toNat sg.length } := fun hi => by
    rw [List.getElem_set, if_pos rfl]
  have hend : ∀ i (hi : i < ((sg ++ [st00]).set now { sg[now] with nx := putN sg[now].nx c.toNat sg.length }).length), ¬ i < sg.length → ((sg ++ [st00]).set now { sg[now] with nx := putN sg[now].nx c.toNat sg.length })[i] = st00 ∧ i = sg.length := fun i hi h2 => by
    have hi' : i < sg.length + 1 := by simpa using hi
    have : i = sg.length := by omega
    subst this
    refine ⟨?_, rfl⟩
    rw [List.getElem_set, if_neg (by omega), List.getElem_append_right (by omega)]
    simp
  have hold : ∀ i (h2 : i < sg.length) v, (ws ++ [w ++ [c]])[i]? = some v → ws[i]? = some v := fun i h2 v hv => by
    rw [List.getElem?_append_left (by omega)] at hv; exact hv
  have hext : ∀ i v, ws[i]? = some v → (ws ++ [w ++ [c]])[i]? = some v := fun i v hv => by
    rw [List.getElem?_append_left (List.getElem?_eq_some_iff.1 hv).1]; exact hv
  have hlast : ∀ v, (ws ++ [w ++ [c]])[sg.length]? = some v → v = w ++ [c] := fun v hv => by
    rw [hlen, List.getElem?_append_right (Nat.le_refl _), Nat.sub_self] at hv
    exact (Option.some.inj hv).symm
  have hlast2 : (ws ++ [w ++ [c]])[sg.length]? = some (w ++ [c]) := by
    rw [hlen, List.getElem?_append_right (Nat.le_refl _), Nat.sub_self]; rfl
  have tn : ∀ {x y : UInt8}, x.toNat = y.toNat → x = y := fun h => UInt8.toNat_inj.1 h
  refine ⟨?_, ?_, ?_, ?_, ?_, ?_, ?_, ?_, ?_⟩
  · rw [List.length_set, List.length_append, List.length_append, hlen]; rfl
  · exact List.nodup_append.2 ⟨T.nd, by simp, fun x hx y hy hxy => by rw [List.mem_singleton.1 hy] at hxy; rw [hxy] at hx; exact hnew hx⟩
  · exact hext 0 _ T.z
  · intro v d hv
    rcases List.mem_append.1 hv with hv | hv
    · exact List.mem_append_left _ (T.pre v d hv)
    · obtain ⟨e1, _⟩ := List.append_inj' (List.mem_singleton.1 hv) rfl
      rw [e1]; exact List.mem_append_left _ (T.mem hw)
  · intro i hi v d hv hz hm
    by_cases h2 : i < sg.length
    · have hv := hold i h2 v hv
      by_cases hin : i = now
      · subst hin
        rw [hnow hi] at hz
        have hvw : v = w := Option.some.inj (hv.symm.trans hw)
        subst hvw
        unfold putN at hz
        dsimp only at hz
        by_cases hdc : d.toNat = c.toNat
        · rw [if_pos hdc] at hz; exact hne0 hz
        · rw [if_neg hdc] at hz
          rcases List.mem_append.1 hm with hm | hm
          · exact T.no i h2 _ d hw hz hm
          · obtain ⟨_, e2⟩ := List.append_inj' (List.mem_singleton.1 hm) rfl
            exact hdc (by rw [(List.cons.inj e2).1])
      · rw [hat i hi h2 hin] at hz
        rcases List.mem_append.1 hm with hm | hm
        · exact T.no i h2 v d hv hz hm
        · obtain ⟨e1, _⟩ := List.append_inj' (List.mem_singleton.1 hm) rfl
          rw [e1] at hv
          exact hin (idx_uniq T.nd hv hw)
    · obtain ⟨_, rfl⟩ := hend i hi h2
      have := hlast v hv
      subst this
      rcases List.mem_append.1 hm with hm | hm
      · exact hnew (T.pre _ _ hm)
      · have := congrArg List.length (List.mem_singleton.1 hm)
        simp at this
  · intro i hi v d hv hz
    by_cases h2 : i < sg.length
    · have hv := hold i h2 v hv
      by_cases hin : i = now
      · subst hin
        have hvw : v = w := Option.some.inj (hv.symm.trans hw)
        subst hvw
        rw [hnow hi] at hz ⊢
        unfold putN at hz ⊢
        dsimp only at hz ⊢
        by_cases hdc : d.toNat = c.toNat
        · rw [if_pos hdc, tn hdc]; exact hlast2
        · rw [if_neg hdc] at hz ⊢; exact hext _ _ (T.yes i h2 _ d hw hz)
      · rw [hat i hi h2 hin] at hz ⊢
        exact hext _ _ (T.yes i h2 v d hv hz)
    · obtain ⟨e, rfl⟩ := hend i hi h2
      rw [e] at hz
      exact absurd rfl hz
  · intro i hi
    by_cases h2 : i < sg.length
    · by_cases hin : i = now
      · subst hin; rw [hnow hi]; exact T.fo i h2
      · rw [hat i hi h2 hin]; exact T.fo i h2
    · rw [(hend i hi h2).1]; exact ⟨rfl, rfl⟩
  · intro i hi v hv
    by_cases h2 : i < sg.length
    · have hv := hold i h2 v hv
      by_cases hin : i = now
      · subst hin; rw [hnow hi]; exact T.en i h2 v hv
      · rw [hat i hi h2 hin]; exact T.en i h2 v hv
    · obtain ⟨e, rfl⟩ := hend i hi h2
      rw [e, hlast v hv, T.out _ hnew]; rfl
  · intro v hv
    exact T.out v fun h => hv (List.mem_append_left _ h)
/-- A pattern ends at a word. -/
theorem Trie.ended (T : Trie sg ws E) {now : Nat} {w : Nm} (hw : ws[now]? = some w) (e : Nat) (q : Option Addr) (cq : Nat) :
    Trie (sg.set now { sg[now]'(T.lt hw) with eq := q, ec := cq, en := (sg[now]'(T.lt hw)).en ++ [e] }) ws (fun v => if v = w then E v ++ [e] else E v) := by
  have hlt := T.lt hw
  have g : ∀ i (hi : i < (sg.set now { sg[now] with eq := q, ec := cq, en := sg[now].en ++ [e] }).length), (sg.set now { sg[now] with eq := q, ec := cq, en := sg[now].en ++ [e] })[i] = if now = i then { sg[now] with eq := q, ec := cq, en := sg[now].en ++ [e] } else sg[i]'(by rw [List.length_set] at hi; exact hi) := fun i hi => List.getElem_set ..
  refine ⟨by rw [List.length_set]; exact T.len, T.nd, T.z, T.pre, ?_, ?_, ?_, ?_, ?_⟩
  · intro i hi v d hv hz
    rw [g] at hz
    rw [List.length_set] at hi
    split at hz
    · rename_i h; subst h; exact T.no _ hi v d hv hz
    · exact T.no i hi v d hv hz
  · intro i hi v d hv hz
    rw [g] at hz ⊢
    rw [List.length_set] at hi
    by_cases h : now = i
    · subst h
      rw [if_pos rfl] at hz ⊢
      exact T.yes _ hi v d hv hz
    · rw [if_neg h] at hz ⊢; exact T.yes i hi v d hv hz
  · intro i hi
    rw [g]
    rw [List.length_set] at hi
    split
    · exact T.fo now hlt
    · exact T.fo i hi
  · intro i hi v hv
    rw [g]
    rw [List.length_set] at hi
    by_cases h : now = i
    · subst h
      have hvw : v = w := Option.some.inj (hv.symm.trans hw)
      rw [if_pos rfl, if_pos hvw]
      show sg[now].en ++ [e] = _
      rw [T.en _ hi v hv]
    · rw [if_neg h]
      have hvw : v ≠ w := fun h' => h (idx_uniq T.nd hw (h' ▸ hv))
      rw [if_neg hvw]; exact T.en i hi v hv
  · intro v hv
    have hvw : v ≠ w := fun h => hv (by rw [h]; exact T.mem hw)
    show (if v = w then _ else _) = _
    rw [if_neg hvw]; exact T.out v hv
end
end Go.Proofs.YthnheldoklgceaaDoor
