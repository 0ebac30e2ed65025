/-
  The automaton's memory: a state is added; a pattern ends at a state.
-/
import Derived.Test.YthnheldoklgceaaDoorAutE
namespace Go.Proofs.YthnheldoklgceaaDoor
set_option linter.unusedSimpArgs false
set_option linter.unusedVariables false
set_option maxRecDepth 20000
open Go
open Go.IntKind (wrap)
section
variable {o o' : Tag} {k : Nat} {h h' : Heap} {a : Addr} {sg : List St} {pq : Option Addr} {pn pc : Nat}
theorem AutF.grow [Gh] (A : AutF o k h a sg pq pn pc) {b : Addr} {T : TypeId} (ob : Own h b (stV st00) T) (hl : sg.length ≤ 2 ^ 20) {q : Option Addr} {c : Nat} (hc : hcell h a = some (.slice q sg.length c)) {K : Heap → Prop}
    (hk : ∀ o' h', Old h o o' → Fr (fun x => o x = k + 1 ∨ o x = k + 2) h h' → (∀ x, h.size ≤ x → o' x = k + 2) → AutF o' k h' a (sg ++ [st00]) pq pn pc → K h') :
    bltV Tryd.prog .append #[T_sl_automaton_state, T_sl_automaton_state] T_sl_automaton_state #[false, false] #[.slice q sg.length c, .slice (some b) 1 1] h fun v h3 => ∃ t44a : Option Addr, ∃ t44n : Nat, ∃ t44c : Nat, v = .slice t44a t44n t44c ∧ nn (some a) fun t45 => st1 h3 t45 (.slice t44a t44n t44c) K := by
  obtain ⟨q', c', ow, Q, hq⟩ := A.ex
  have tg := A.tag
  have lt := ow.lt
  have e := hc.symm.trans (ow.cells.at0 rfl)
  simp only [Option.some.injEq, Value.slice.injEq] at e
  obtain ⟨rfl, _, rfl⟩ := e
  refine Q.app el_st Tryd.underlying41 (by intro k e; cases e) (by kernel_rfl) (by decide +kernel) stV_len stV_cell ob 1 (by omega) fun p2 c2 h2 Q2 f2 hn2 => ⟨_, _, _, rfl, nn_mk ?_⟩
  have ow2 := ow.fr f2 fun hx => by have := hq _ hx; omega
  refine st1_own0 ow2 (by simp) rfl fun h3 f3 s3 o3 => ?_
  have ho : Old h o (upT o h.size (k + 2)) := Old.up (Nat.le_refl _)
  have F : Fr (fun x => o x = k + 1 ∨ o x = k + 2) h h3 := (f2.mono fun x hx => .inr (hq x hx)).trans (f3.mono fun x hx => .inl (by subst hx; exact tg))
  have new : ∀ x, InA p2 x → upT o h.size (k + 2) x = k + 2 := fun x hx => by
    rcases hn2 x hx with h | h
    · rw [upT_lt (Q.lt h)]; exact hq x h
    · exact upT_ge h
  refine hk _ h3 ho F (fun x hx => upT_ge hx) ⟨⟨p2, c2, o3, Q2.fr f3 fun x hx hb => ?_, new⟩, fun i hi => ?_, by rw [upT_lt lt]; exact tg⟩
  · subst hb
    have := new _ hx
    rw [upT_lt lt] at this; omega
  · by_cases hlt : i < sg.length
    · rw [List.getElem_append_left hlt]
      obtain ⟨E, hE⟩ := A.ends i hlt
      exact ⟨E.fr F fun x hx hb => by have := hE x hx; omega, fun x hx => by rw [upT_lt (E.lt hx)]; exact hE x hx⟩
    · have : i = sg.length := by rw [List.length_append, List.length_singleton] at hi; omega
      subst this
      simp only [List.getElem_concat_length]
      exact ⟨Row.nil, fun x hx => (notInA hx).elim⟩
theorem AutF.addEnd [Gh] (A : AutF o k h a sg pq pn pc) (i : Nat) (hi : i < sg.length) (e : Nat) {b : Addr} {T : TypeId} (ob : Own h b (inV e) T) (hl : sg[i].en.length ≤ 2 ^ 20) {q : Option Addr} {c : Nat} (hc : hcell h a = some (.slice q sg.length c)) {K : Heap → Prop}
    (hk : ∀ o' h' q' c', Old h o o' → Fr (fun x => o x = k + 2 ∨ o x = k + 3 + i) h h' → (∀ x, h.size ≤ x → o' x = k + 3 + i) → AutF o' k h' a (sg.set i { sg[i] with eq := q', ec := c', en := sg[i].en ++ [e] }) pq pn pc → K h') :
    bltV Tryd.prog .append #[T_sl_int, T_sl_int] T_sl_int #[false, false] #[.slice sg[i].eq sg[i].en.length sg[i].ec, .slice (some b) 1 1] h fun v h7 => ∃ t75a : Option Addr, ∃ t75n : Nat, ∃ t75c : Nat, v = .slice t75a t75n t75c ∧ (ldL h7 a fun t963a t963n t963c => (.slice t963a t963n t963c : Value) = .slice q sg.length c) ∧ idxA (i : Int) sg.length (nn q fun t76 => st1 h7 (Addr.add (Addr.add t76 (i * 259)) 258) (.slice t75a t75n t75c) K) := by
  obtain ⟨q', c', ow, Q, hq⟩ := A.ex
  have tg := A.tag
  have lt := ow.lt
  have e' := hc.symm.trans (ow.cells.at0 rfl)
  simp only [Option.some.injEq, Value.slice.injEq] at e'
  obtain ⟨rfl, _, rfl⟩ := e'
  obtain ⟨E, hE⟩ := A.ends i hi
  refine E.app el_int Tryd.underlying56 (by intro k e; cases e) (by kernel_rfl) (by decide +kernel) inV_len (fun _ => rfl) ob 1 (by omega) fun p2 c2 h2 E2 f2 hn2 => ⟨_, _, _, rfl, ?_⟩
  have ow2 := ow.fr f2 fun hx => by have := hE _ hx; omega
  have Q2 := Q.fr f2 fun x hx hb => by have := hq x hx; have := hE x hb; omega
  refine ⟨⟨q, _, _, ow2.cells.at0 rfl, rfl⟩, ?_⟩
  obtain ⟨ad, had, _⟩ := Q2.cellsAt stV_len (by omega) i hi
  subst had
  refine idxA_mk i rfl hi (nn_mk ?_)
  refine Q2.set1 stV_len i hi rfl (j := 258) (by omega) (v := .slice p2 (sg[i].en ++ [e]).length c2) rfl (e' := { sg[i] with eq := p2, ec := c2, en := sg[i].en ++ [e] }) (set_en _ _ _ _) fun h3 f3 Q3 => ?_
  have ho : Old h o (upT o h.size (k + 3 + i)) := Old.up (Nat.le_refl _)
  have F : Fr (fun x => o x = k + 2 ∨ o x = k + 3 + i) h h3 := (f2.mono fun x hx => .inr (hE x hx)).trans (f3.mono fun x hx => .inl (hq x hx))
  have new : ∀ x, InA p2 x → upT o h.size (k + 3 + i) x = k + 3 + i := fun x hx => by
    rcases hn2 x hx with h | h
    · rw [upT_lt (E.lt h)]; exact hE x h
    · exact upT_ge h
  refine hk _ h3 p2 c2 ho F (fun x hx => upT_ge hx) ⟨⟨some ad, c, ?_, Q3, fun x hx => by rw [upT_lt (Q.lt hx)]; exact hq x hx⟩, fun m hm => ?_, by rw [upT_lt lt]; exact tg⟩
  · rw [List.length_set]; exact ow.fr F fun hh => by omega
  · rw [List.length_set] at hm
    rw [List.getElem_set]
    split
    · rename_i him
      subst him
      exact ⟨E2.fr f3 fun x hx hb => by have h1 := new x hx; have h2 := hq x hb; have h3 := Q.lt hb; rw [upT_lt h3] at h1; omega, new⟩
    · rename_i him
      obtain ⟨G, hG⟩ := A.ends m hm
      exact ⟨G.fr F fun x hx hb => by have := hG x hx; omega, fun x hx => by rw [upT_lt (G.lt hx)]; exact hG x hx⟩
end
end Go.Proofs.YthnheldoklgceaaDoor
