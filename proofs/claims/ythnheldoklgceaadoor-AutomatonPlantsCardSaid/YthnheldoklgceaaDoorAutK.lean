/-
  Build, up to the links.
-/
import Derived.Test.YthnheldoklgceaaDoorAutJ
namespace Go.Proofs.YthnheldoklgceaaDoor
set_option linter.unusedSimpArgs false
set_option linter.unusedVariables false
set_option maxRecDepth 20000
open Go
open Go.IntKind (wrap)
def endsL (L : List Pt) (i : Nat) (w : Nm) : List Nat := (List.range i).filter fun j => decide (lowL (L.getD j ⟨[], false⟩).t = w)
theorem endsL_succ (L : List Pt) (i : Nat) (hi : i < L.length) : (fun v => if v = lowL L[i].t then endsL L i v ++ [i] else endsL L i v) = endsL L (i + 1) := by
  funext v
  have e : L.getD i ⟨[], false⟩ = L[i] := by rw [List.getD_eq_getElem?_getD, List.getElem?_eq_getElem hi]; rfl
  unfold endsL
  rw [List.range_succ, List.filter_append, List.filter_cons, List.filter_nil, e]
  by_cases h : v = lowL L[i].t
  · rw [if_pos h, if_pos (decide_eq_true h.symm)]
  · rw [if_neg h, if_neg (fun hh => h (of_decide_eq_true hh).symm), List.append_nil]
theorem endsL_len (L : List Pt) (i : Nat) (w : Nm) : (endsL L i w).length ≤ i := by
  unfold endsL
  exact Nat.le_trans (List.length_filter_le ..) (by rw [List.length_range]; exact Nat.le_refl _)
theorem trie0 (L : List Pt) : Trie [st00] [[]] (endsL L 0) := by
  have h0 : ∀ {i : Nat}, i < [st00].length → i = 0 := fun h => by simpa using h
  refine ⟨rfl, by simp, rfl, fun w c h => ?_, fun i hi w c hw hz hm => ?_, fun i hi w c hw hz => ?_, fun i hi => ?_, fun i hi w hw => ?_, fun w hw => rfl⟩
  · simp at h
  · simp at hm
  · have := h0 hi; subst this; exact absurd rfl hz
  · have := h0 hi; subst this; exact ⟨rfl, rfl⟩
  · have := h0 hi; subst this; rfl
/-- The words of the trie. -/
def isPre (L : List Pt) (i : Nat) (w : Nm) : Prop := w = [] ∨ ∃ j, ∃ hj : j < L.length, j < i ∧ w <+: lowL L[j].t
theorem adds_c [Gh] {o : Tag} {k : Nat} {h : Heap} {a : Addr} {pq : Option Addr} {pn pc : Nat} {q : Option Addr} {cap : Nat} {L : List Pt} (hL : L.length ≤ 512) (hp : ∀ p ∈ L, p.t.length ≤ 64) (S : ∀ h', Fr (AR o k) h h' → PtOk h' q L) (A : AutF o k h a [st00] pq pn pc) {Q : Value → Heap → Prop}
    (hk : ∀ o' h' sg ws, Old h o o' → (∀ x, h.size ≤ x → x < h'.size → k < o' x ∧ o' x < k + 70000) → Fr (AR o k) h h' → AutF o' k h' a sg pq pn pc → Trie sg ws (endsL L L.length) → (∀ w, w ∈ ws ↔ isPre L L.length w) → ws.length ≤ 40000 → automaton_Build_b4 a Q h') :
    LoopV (fun (s : Int) h Kn => automaton_Build_l3 a q L.length cap ((L.length : Nat) : Int) Q s h Kn) 0 h := by
  have z0 := A.lt
  refine LoopV.go (fun n st h' => ∃ (i : Nat) (sg : List St) (ws : List Nm) (o' : Tag), st = (i : Int) ∧ i ≤ L.length ∧ n = L.length - i ∧ AutF o' k h' a sg pq pn pc ∧ Trie sg ws (endsL L i) ∧ (∀ w, w ∈ ws ↔ isPre L i w) ∧ ws.length ≤ 1 + 64 * i ∧ Old h o o' ∧ Fr (AR o k) h h' ∧ (∀ x, h.size ≤ x → x < h'.size → k < o' x ∧ o' x < k + 70000)) L.length
    ⟨0, [st00], [[]], o, rfl, by omega, rfl, A, trie0 L, fun w => ?_, by simp, Old.refl _ _, Fr.refl _ _, fun x h1 h2 => by omega⟩ ?_
  · unfold isPre
    rw [List.mem_singleton]
    refine ⟨.inl, fun h => ?_⟩
    rcases h with h | ⟨j, _, hj, _⟩
    · exact h
    · omega
  rintro n - h1 ⟨i, sg, ws, o1, rfl, hi, rfl, A1, T1, hm1, hlen, hO1, f1, hr1⟩ Kn hK
  unfold automaton_Build_l3
  have z1 := f1.size
  refine ifD (fun e => ?_) fun e => ?_
  · have hil : i < L.length := by omega
    refine (S h1 f1).get i rfl hil fun ad ci => ?_
    rw [Int.toNat_natCast]
    refine ldS_mk (ci.at0 rfl) (ldB_mk (ci.at (j := 1) rfl) ?_)
    refine al_mk (vs := [.string (bs []), .bool false]) fun t8 h2 f2 e2 o2 => ?_
    refine stN_own o2 (ws := [.string (bs L[i].t), .bool L[i].nc]) (by rfl) (by rfl) fun h3 f3 s3 o3 => ?_
    have F3 : Fr (fun _ => False) h1 h3 := f2.tr f3 fun b hb hi => by omega
    have z3 := F3.size
    refine ldS_mk (o3.cells.at0 rfl) ?_
    have A3 : AutF (upT o1 h1.size (k + 2)) k h3 a sg pq pn pc := A1.fr F3 (fun _ _ h => h.elim) (Old.up (Nat.le_refl _))
    have hO3 : ∀ x, x < h1.size → upT o1 h1.size (k + 2) x = o1 x := fun x hx => upT_lt hx
    have hpi := hp _ (List.getElem_mem hil)
    refine add_c A3 T1 i (by omega) L[i].t (by omega) (fun w => by have := endsL_len L i w; omega) fun o4 h4 sg4 ws4 hO4 hr4 f4 A4 T4 hm4 hl4 => ⟨rfl, ?_⟩
    have z4 := f4.size
    rw [wr (by omega) (by omega)]
    rw [endsL_succ L i hil] at T4
    refine hK (L.length - (i + 1)) _ _ (by omega) ⟨i + 1, sg4, ws4, o4, rfl, hil, rfl, A4, T4, fun w => ?_, by omega, fun x hx => by rw [hO4 x (by omega), hO3 x (by omega)]; exact hO1 x hx, (f1.tr F3 fun _ _ h => h.elim).tr f4 fun x hx hh => ?_, fun x hx hx4 => ?_⟩
    · rw [hm4, hm1]
      unfold isPre
      constructor
      · rintro ((h | ⟨j, hj, hji, hw⟩) | h)
        · exact .inl h
        · exact .inr ⟨j, hj, by omega, hw⟩
        · exact .inr ⟨i, hil, by omega, h⟩
      · rintro (h | ⟨j, hj, hji, hw⟩)
        · exact .inl (.inl h)
        · by_cases hj2 : j = i
          · subst hj2; exact .inr hw
          · exact .inl (.inr ⟨j, hj, by omega, hw⟩)
    · unfold AR at hh ⊢; rw [hO3 x (by omega), hO1 x hx] at hh; exact hh
    · by_cases hx3 : x < h3.size
      · rw [hO4 x hx3]
        by_cases hx1 : x < h1.size
        · rw [hO3 x hx1]; exact hr1 x hx hx1
        · rw [upT_ge (by omega)]; omega
      · exact hr4 x (by omega)
  · have : i = L.length := by omega
    subst this
    exact hk o1 h1 sg ws hO1 hr1 f1 A1 T1 hm1 (by omega)
end Go.Proofs.YthnheldoklgceaaDoor
