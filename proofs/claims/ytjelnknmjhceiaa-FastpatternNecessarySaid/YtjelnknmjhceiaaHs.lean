/-
  A heap of which a call knows some blocks of its own: one fact, that each step hands on.
-/
import Derived.Test.YtjelnknmjhceiaaRow
namespace Go.Proofs.Ytjelnknmjhceiaa
set_option linter.unusedSimpArgs false
set_option linter.unusedVariables false
set_option maxRecDepth 20000
open Go
abbrev Blk := Addr × List Value × TypeId
structure Hs (h0 : Heap) (W : Nat → Prop) (h : Heap) (L : List Blk) : Prop where
  fr : Fr W h0 h
  own : ∀ x ∈ L, Own h x.1 x.2.1 x.2.2
  nd : (L.map (·.1.block)).Nodup
  ok : ∀ x ∈ L, W x.1.block ∨ h0.size ≤ x.1.block
section
variable {h0 h : Heap} {W : Nat → Prop} {L : List Blk}
theorem Hs.start (h : Heap) (W : Nat → Prop) : Hs h W h [] := ⟨Fr.refl _ _, fun _ hx => (List.not_mem_nil hx).elim, List.nodup_nil, fun _ hx => (List.not_mem_nil hx).elim⟩
theorem Hs.pure (h : Heap) : Hs h (fun _ => False) h [] := Hs.start h _
theorem Hs.get (H : Hs h0 W h L) (i : Nat) {a : Addr} {vs : List Value} {T : TypeId} (hi : L[i]? = some (a, vs, T)) : Own h a vs T := H.own _ (List.mem_of_getElem? hi)
theorem Hs.size (H : Hs h0 W h L) : h0.size ≤ h.size := H.fr.size
/-- A block that the call owns from its beginning on. -/
theorem Hs.take (H : Hs h0 W h L) {a : Addr} {vs : List Value} {T : TypeId} (o : Own h a vs T) (hn : ∀ x ∈ L, x.1.block ≠ a.block) (hw : W a.block ∨ h0.size ≤ a.block) : Hs h0 W h ((a, vs, T) :: L) :=
  ⟨H.fr, fun x hx => by rcases List.mem_cons.1 hx with rfl | hx; exact o; exact H.own x hx, List.nodup_cons.2 ⟨fun hm => by obtain ⟨x, hx, e⟩ := List.mem_map.1 hm; exact hn x hx e, H.nd⟩, fun x hx => by rcases List.mem_cons.1 hx with rfl | hx; exact hw; exact H.ok x hx⟩
theorem Hs.call {S : Nat → Prop} {h' : Heap} (H : Hs h0 W h L) (f : Fr S h h') (hn : ∀ x ∈ L, ¬ S x.1.block) (hS : ∀ b, b < h0.size → S b → W b) : Hs h0 W h' L :=
  ⟨H.fr.tr f hS, fun x hx => (H.own x hx).fr f (hn x hx), H.nd, H.ok⟩
theorem Hs.call0 {h' : Heap} (H : Hs h0 W h L) (f : Fr (fun _ => False) h h') : Hs h0 W h' L := H.call f (fun _ _ => id) fun _ _ h => h.elim
theorem Hs.tail {x : Blk} (H : Hs h0 W h (x :: L)) : Hs h0 W h L :=
  ⟨H.fr, fun y hy => H.own y (List.mem_cons_of_mem _ hy), (List.nodup_cons.1 H.nd).2, fun y hy => H.ok y (List.mem_cons_of_mem _ hy)⟩
theorem Hs.perm {L' : List Blk} (H : Hs h0 W h L) (p : L.Perm L') : Hs h0 W h L' :=
  ⟨H.fr, fun y hy => H.own y (p.mem_iff.2 hy), (p.map _).nodup_iff.1 H.nd, fun y hy => H.ok y (p.mem_iff.2 hy)⟩
theorem Hs.swap {x y : Blk} (H : Hs h0 W h (x :: y :: L)) : Hs h0 W h (y :: x :: L) := H.perm (List.Perm.swap ..)
theorem Hs.fr0 (H : Hs h0 (fun _ => False) h L) : Fr (fun _ => False) h0 h := H.fr
theorem al_H (H : Hs h0 W h L) {vs : List Value} {T : TypeId} {K : Addr → Heap → Prop} (hk : ∀ a h', Hs h0 W h' ((a, vs, T) :: L) → h0.size ≤ a.block ∧ h.size ≤ a.block ∧ a.block < h'.size → K a h') : alV h (.cells vs.toArray T) K := by
  refine al_mk fun a h' f e o => hk a h' ((H.call0 f).take o (fun x hx he => ?_) (.inr (by have := H.size; omega))) ⟨by have := H.size; omega, by omega, o.lt⟩
  have := (H.own x hx).lt
  omega
theorem Hs.idx_nd (H : Hs h0 W h L) {i : Nat} {a : Addr} {vs : List Value} {T : TypeId} (hi : L[i]? = some (a, vs, T)) {vs' : List Value} {h' : Heap} (f : Fr (fun b => b = a.block) h h') (o : Own h' a vs' T) : Hs h0 W h' (L.set i (a, vs', T)) := by
  obtain ⟨hlt, he⟩ := List.getElem?_eq_some_iff.1 hi
  have hm : (L.set i (a, vs', T)).map (·.1.block) = L.map (·.1.block) := by
    rw [List.map_set]
    apply List.ext_getElem?
    intro j
    rw [List.getElem?_set]
    split
    · rename_i e
      subst e
      rw [if_pos (by simpa using hlt), List.getElem?_map, hi]; rfl
    · rfl
  have hne : ∀ x ∈ L, x.1.block = a.block → x = (a, vs, T) := fun x hx hb => by
    obtain ⟨j, hj, rfl⟩ := List.getElem_of_mem hx
    have hij : j = i := (List.getElem_inj (h₀ := by simpa using hj) (h₁ := by simpa using hlt) H.nd).1 (by simp only [List.getElem_map]; rw [he, hb])
    subst hij; exact he
  refine ⟨H.fr.tr f fun b hb hb' => ?_, fun x hx => ?_, by rw [hm]; exact H.nd, fun x hx => ?_⟩
  · subst hb'
    rcases H.ok _ (List.mem_of_getElem? hi) with h | h
    · exact h
    · simp only at h; omega
  · rcases List.mem_or_eq_of_mem_set hx with hx' | rfl
    · by_cases hb : x.1.block = a.block
      · have := hne x hx' hb
        subst this
        obtain ⟨j, hj, e⟩ := List.getElem_of_mem hx
        rw [List.getElem_set] at e
        by_cases hij : i = j
        · rw [if_pos hij] at e
          rw [← e]; exact o
        · rw [if_neg hij] at e
          exfalso
          apply hij
          have hj' : j < L.length := by simpa using hj
          exact (List.getElem_inj (h₀ := by simpa using hlt) (h₁ := by simpa using hj') H.nd).1 (by simp only [List.getElem_map]; rw [he, e])
      · exact (H.own x hx').fr f hb
    · exact o
  · rcases List.mem_or_eq_of_mem_set hx with hx' | rfl
    · exact H.ok x hx'
    · exact H.ok (a, vs, T) (List.mem_of_getElem? hi)
theorem st1_H (H : Hs h0 W h L) (i : Nat) {a : Addr} {vs : List Value} {T : TypeId} {j : Nat} {v : Value} {K : Heap → Prop} (hi : L[i]? = some (a, vs, T)) (hj : Nat.blt j vs.length = true) (hv : cellV v = true)
    (hk : ∀ h', Hs h0 W h' (L.set i (a, vs.set j v, T)) → K h') : st1 h (a.add j) v K :=
  st1_own (H.get i hi) j (Nat.le_of_ble_eq_true hj) hv fun h' f _ o => hk h' (H.idx_nd hi f o)
theorem st1_H0 (H : Hs h0 W h L) (i : Nat) {a : Addr} {vs : List Value} {T : TypeId} {v : Value} {K : Heap → Prop} (hi : L[i]? = some (a, vs, T)) (hj : Nat.blt 0 vs.length = true) (hv : cellV v = true)
    (hk : ∀ h', Hs h0 W h' (L.set i (a, vs.set 0 v, T)) → K h') : st1 h a v K := st1_H H i hi hj hv hk
/-- A whole block is written. -/
theorem stN_H (H : Hs h0 W h L) (i : Nat) {a : Addr} {vs ws : List Value} {T : TypeId} {K : Heap → Prop} (hi : L[i]? = some (a, vs, T)) (hl : Nat.beq ws.length vs.length = true) (hv : ws.all cellV = true)
    (hk : ∀ h', Hs h0 W h' (L.set i (a, ws, T)) → K h') : stN h a ws 0 K :=
  stN_own (H.get i hi) (Nat.eq_of_beq_eq_true hl) hv fun h' f _ o => hk h' (H.idx_nd hi f o)
theorem stN_off {b k : Nat} {K : Heap → Prop} : ∀ (ws : List Value) (i : Nat) (h : Heap), stN h ⟨b, 0, none⟩ ws (k + i) K → stN h ⟨b, k, none⟩ ws i K
  | [], _, _, hk => hk
  | v :: ws, i, h, hk => by
    unfold stN at hk ⊢
    rw [add_mk] at hk ⊢
    rw [Nat.zero_add] at hk
    obtain ⟨h1, h2, h3, h4⟩ := hk
    exact ⟨h1, h2, h3, stN_off ws (i + 1) _ h4⟩
theorem splice_mid (vs ws : List Value) (k : Nat) (hk : k + ws.length ≤ vs.length) : splice vs.toArray k ws = (vs.take k ++ ws ++ vs.drop (k + ws.length)).toArray := by
  apply Array.ext_getElem?
  intro i
  rw [splice_get ws _ k (by simpa using hk), List.getElem?_toArray, List.getElem?_toArray]
  have hlk : (vs.take k).length = k := by rw [List.length_take]; omega
  split
  · rename_i hi
    rw [List.append_assoc, List.getElem?_append_right (by omega), hlk, List.getElem?_append_left (by omega)]
  · rename_i hi
    by_cases h : i < k
    · rw [List.append_assoc, List.getElem?_append_left (by omega), List.getElem?_take, if_pos h]
    · rw [List.getElem?_append_right (by rw [List.length_append, hlk]; omega), List.length_append, hlk, List.getElem?_drop]
      congr 1; omega
theorem stN_sub {h : Heap} {a : Addr} {vs ws : List Value} {T : TypeId} (o : Own h a vs T) (k : Nat) (hk : k + ws.length ≤ vs.length) (hv : ws.all cellV = true) {K : Heap → Prop}
    (hK : ∀ h', Fr (fun b => b = a.block) h h' → h'.size = h.size → Own h' a (vs.take k ++ ws ++ vs.drop (k + ws.length)) T → K h') : stN h (a.add k) ws 0 K := by
  have e : a.add k = ⟨a.block, k, none⟩ := by rw [o.mk_eq, add_mk, Nat.zero_add]
  rw [e]
  refine stN_off ws 0 h ?_
  refine stN_blk ws k _ h o.blk (all_cellV hv) (by simpa using hk) ?_
  rw [splice_mid vs ws k hk]
  exact hK _ (Fr.set _ _ rfl) (by simp) ⟨o.off, o.spot, get_set o.blk⟩
/-- A part of a block is written. -/
theorem stP_H (H : Hs h0 W h L) (i : Nat) {a : Addr} {vs ws : List Value} {T : TypeId} {k : Nat} {K : Heap → Prop} (hi : L[i]? = some (a, vs, T)) (hl : Nat.ble (k + ws.length) vs.length = true) (hv : ws.all cellV = true)
    (hk : ∀ h', Hs h0 W h' (L.set i (a, vs.take k ++ ws ++ vs.drop (k + ws.length), T)) → K h') : stN h (a.add k) ws 0 K :=
  stN_sub (H.get i hi) k (Nat.le_of_ble_eq_true hl) hv fun h' f _ o => hk h' (H.idx_nd hi f o)
theorem stP_H0 (H : Hs h0 W h L) (i : Nat) {a : Addr} {vs ws : List Value} {T : TypeId} {K : Heap → Prop} (hi : L[i]? = some (a, vs, T)) (hl : Nat.ble (0 + ws.length) vs.length = true) (hv : ws.all cellV = true)
    (hk : ∀ h', Hs h0 W h' (L.set i (a, vs.take 0 ++ ws ++ vs.drop (0 + ws.length), T)) → K h') : stN h a ws 0 K := stP_H H i hi hl hv hk
end
theorem ifNS {α : Type} {a : α} {X Y : Prop} (h : Y) : if (Option.isNone (some a)) = true then X else Y := by rw [if_neg (by simp)]; exact h
theorem ifNN {α : Type} {X Y : Prop} (h : X) : if (Option.isNone (none : Option α)) = true then X else Y := by rw [if_pos (by rfl)]; exact h
theorem ldM_mk {h : Heap} {a : Addr} {p : Option Nat} {K : Option Nat → Prop} (hc : hcell h a = some (.map p)) (hk : K p) : ldM h a K := ⟨p, hc, hk⟩
theorem ldV_mk {h : Heap} {a : Addr} {v : Value} {K : Value → Prop} (hc : hcell h a = some v) (hk : K v) : ldV h a K := ⟨v, hc, hk⟩
theorem Qeq {Q : Value → Heap → Prop} {v v' : Value} {h : Heap} (hk : Q v h) (e : v = v') : Q v' h := e ▸ hk
end Go.Proofs.Ytjelnknmjhceiaa
