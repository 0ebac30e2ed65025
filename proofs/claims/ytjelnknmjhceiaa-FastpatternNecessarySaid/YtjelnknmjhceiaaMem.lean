/-
  Heaps: blocks, frames, slices that a call owns, append.
-/
import Derived.Test.YtjelnknmjhceiaaVcDraw
namespace Go.Proofs.Ytjelnknmjhceiaa
set_option linter.unusedSimpArgs false
set_option linter.unusedVariables false
set_option maxRecDepth 20000
open Go

theorem add_mk (b o n : Nat) : Addr.add ⟨b, o, none⟩ n = ⟨b, o + n, none⟩ := by
  unfold Addr.add; split
  · rename_i h; subst h; rfl
  · rfl
theorem hcell_blk {h : Heap} {b o : Nat} {cs : Array Value} {t : TypeId} {fr : Nat × Nat} (hb : h[b]? = some (.cells cs t fr)) : hcell h ⟨b, o, none⟩ = cs[o]? := by
  unfold hcell; simp only [hb]; rfl
theorem hfrozen_blk {h : Heap} {b o : Nat} {cs : Array Value} {t : TypeId} (hb : h[b]? = some (.cells cs t (0, 0))) : hfrozen h ⟨b, o, none⟩ = false := by
  unfold hfrozen; simp only [hb]; simp
/-- What is frozen of a row lies beyond it. -/
def frOk (n : Nat) (fr : Nat × Nat) : Prop := fr = (0, 0) ∨ n ≤ fr.1
theorem hfrozen_ok {h : Heap} {b o : Nat} {cs : Array Value} {t : TypeId} {fr : Nat × Nat} (hb : h[b]? = some (.cells cs t fr)) (hf : frOk cs.size fr) (ho : o < cs.size) : hfrozen h ⟨b, o, none⟩ = false := by
  unfold hfrozen; simp only [hb]
  obtain ⟨lo, hi⟩ := fr
  rcases hf with hf | hf
  · cases hf; simp
  · simp only at hf
    have : decide (lo ≤ o) = false := by rw [decide_eq_false_iff_not]; omega
    simp [this]
theorem hset_blk {h : Heap} {b o : Nat} {cs : Array Value} {t : TypeId} {fr : Nat × Nat} {v : Value} (hb : h[b]? = some (.cells cs t fr)) :
    hset h ⟨b, o, none⟩ v = h.setIfInBounds b (.cells (cs.setIfInBounds o v) t fr) := by
  have hlt : b < h.size := (Array.getElem?_eq_some_iff.1 hb).1
  have hg : h[b] = .cells cs t fr := (Array.getElem?_eq_some_iff.1 hb).2
  unfold hset
  ext1
  · simp
  · rename_i i h1 h2
    rw [Array.getElem_modify, Array.getElem_setIfInBounds]
    by_cases hi : b = i
    · subst hi; rw [if_pos rfl, if_pos rfl, hg]; rfl
    · rw [if_neg hi, if_neg hi]

/-- Blocks outside S are as they were. -/
structure Fr (S : Nat → Prop) (h h' : Heap) : Prop where
  size : h.size ≤ h'.size
  same : ∀ b, b < h.size → ¬ S b → h'[b]? = h[b]?
theorem Fr.refl (S : Nat → Prop) (h : Heap) : Fr S h h := ⟨Nat.le_refl _, fun _ _ _ => rfl⟩
theorem Fr.trans {S : Nat → Prop} {h h1 h2 : Heap} (a : Fr S h h1) (b : Fr S h1 h2) : Fr S h h2 :=
  ⟨Nat.le_trans a.size b.size, fun x hx hs => (b.same x (Nat.lt_of_lt_of_le hx a.size) hs).trans (a.same x hx hs)⟩
theorem Fr.mono {S S' : Nat → Prop} {h h' : Heap} (a : Fr S h h') (hs : ∀ b, S b → S' b) : Fr S' h h' :=
  ⟨a.size, fun x hx hn => a.same x hx fun hsx => hn (hs x hsx)⟩
theorem Fr.tr {S S' : Nat → Prop} {h h1 h2 : Heap} (a : Fr S h h1) (b : Fr S' h1 h2) (hs : ∀ x, x < h.size → S' x → S x) : Fr S h h2 :=
  ⟨Nat.le_trans a.size b.size, fun x hx hn => (b.same x (Nat.lt_of_lt_of_le hx a.size) fun hsx => hn (hs x hx hsx)).trans (a.same x hx hn)⟩
/-- What is added to S lies beyond the old heap. -/
theorem Fr.mono' {S S' : Nat → Prop} {h h' : Heap} (a : Fr S h h') (hs : ∀ b, b < h.size → S b → S' b) : Fr S' h h' :=
  ⟨a.size, fun x hx hn => a.same x hx fun hsx => hn (hs x hx hsx)⟩
theorem Fr.push (S : Nat → Prop) (h : Heap) (o : Obj) : Fr S h (h.push o) :=
  ⟨by simp, fun b hb _ => by simp [Array.getElem?_push, Nat.ne_of_lt hb]⟩
theorem Fr.set {S : Nat → Prop} (h : Heap) {b : Nat} (o : Obj) (hb : S b) : Fr S h (h.setIfInBounds b o) :=
  ⟨by simp, fun x _ hn => by rw [Array.getElem?_setIfInBounds_ne]; rintro rfl; exact hn hb⟩
theorem Fr.get {S : Nat → Prop} {h h' : Heap} (a : Fr S h h') {b : Nat} {o : Obj} (hb : h[b]? = some o) (hs : ¬ S b) : h'[b]? = some o := by
  rw [a.same b (Array.getElem?_eq_some_iff.1 hb).1 hs]; exact hb
theorem lt_of_get {h : Heap} {b : Nat} {o : Obj} (hb : h[b]? = some o) : b < h.size := (Array.getElem?_eq_some_iff.1 hb).1
theorem get_push {h : Heap} {b : Nat} {o x : Obj} (hb : h[b]? = some o) : (h.push x)[b]? = some o := by
  rw [Array.getElem?_push, if_neg (Nat.ne_of_lt (lt_of_get hb))]; exact hb
theorem get_push_self {h : Heap} {x : Obj} : (h.push x)[h.size]? = some x := by simp
theorem get_set {h : Heap} {b : Nat} {o x : Obj} (hb : h[b]? = some o) : (h.setIfInBounds b x)[b]? = some x := by
  simp [lt_of_get hb]
theorem get_set_ne {h : Heap} {b c : Nat} {o x : Obj} (hb : h[b]? = some o) (hn : c ≠ b) : (h.setIfInBounds c x)[b]? = some o := by
  rw [Array.getElem?_setIfInBounds_ne hn]; exact hb

/-! ### Reading cells -/
/-- From 'a' on lie the values vs. -/
def Cells (h : Heap) (a : Addr) (vs : List Value) : Prop := ∀ j (hj : j < vs.length), hcell h (a.add j) = some vs[j]
theorem wpH_load {P : Program} {h : Heap} {a : Addr} {v : Value} {K : Value → Heap → Prop} (hc : hcell h a = some v) (hk : K v h) : wpH P (load a) K h := ⟨v, hc, hk⟩
theorem wpH_loadFrom {P : Program} {h : Heap} {a : Addr} {K : Array Value → Heap → Prop} : ∀ (vs : List Value) (i : Nat) (acc : Array Value), (∀ j (hj : j < vs.length), hcell h (a.add (i + j)) = some vs[j]) →
    K (acc ++ vs.toArray) h → wpH P (loadCellsFrom a i vs.length acc) K h
  | [], i, acc, _, hk => by simpa [loadCellsFrom, pure, wpH] using hk
  | v :: vs, i, acc, hc, hk => by
    have h0 := hc 0 (by simp)
    simp only [Nat.add_zero, List.getElem_cons_zero] at h0
    simp only [List.length_cons, loadCellsFrom, bind]
    rw [wpH_bind]
    refine wpH_load h0 ?_
    refine wpH_loadFrom vs (i + 1) (acc.push v) (fun j hj => ?_) (by simpa using hk)
    have := hc (j + 1) (by simpa using hj)
    simpa [Nat.add_assoc, Nat.add_comm 1 j] using this
theorem wpH_loadCells {P : Program} {h : Heap} {a : Addr} {vs : List Value} {n : Nat} {K : Array Value → Heap → Prop} (hn : vs.length = n) (hc : Cells h a vs) (hk : K vs.toArray h) : wpH P (loadCells a n) K h := by
  subst hn
  exact wpH_loadFrom vs 0 #[] (fun j hj => by rw [Nat.zero_add]; exact hc j hj) (by simpa using hk)

/-- What is written behind o into a row. -/
def splice (cs : Array Value) (o : Nat) : List Value → Array Value
  | [] => cs
  | v :: vs => splice (cs.setIfInBounds o v) (o + 1) vs
theorem splice_size : ∀ (vs : List Value) (cs : Array Value) (o : Nat), (splice cs o vs).size = cs.size
  | [], _, _ => rfl
  | v :: vs, cs, o => by rw [splice, splice_size vs]; simp
theorem splice_get : ∀ (vs : List Value) (cs : Array Value) (o : Nat), o + vs.length ≤ cs.size → ∀ i : Nat, (splice cs o vs)[i]? = if o ≤ i ∧ i < o + vs.length then vs[i - o]? else cs[i]?
  | [], cs, o, _, i => by rw [splice, if_neg]; simp only [List.length_nil]; omega
  | v :: vs, cs, o, hs, i => by
    simp only [List.length_cons] at hs
    rw [splice, splice_get vs _ (o + 1) (by simp; omega) i]
    simp only [List.length_cons]
    by_cases h1 : o + 1 ≤ i ∧ i < o + 1 + vs.length
    · rw [if_pos h1, if_pos (by omega)]
      have : i - o = (i - (o + 1)) + 1 := by omega
      rw [this, List.getElem?_cons_succ]
    · rw [if_neg h1]
      by_cases h2 : i = o
      · subst h2
        have hlt : i < cs.size := by omega
        rw [if_pos ⟨Nat.le_refl _, by omega⟩, Nat.sub_self, List.getElem?_cons_zero, Array.getElem?_setIfInBounds_self_of_lt hlt]
      · rw [if_neg (by omega), Array.getElem?_setIfInBounds_ne (Ne.symm h2)]
theorem wpH_store {P : Program} {b : Nat} {t : TypeId} {fr : Nat × Nat} {K : Unit → Heap → Prop} {a : Addr} {o : Nat} (ha : ∀ i, a.add i = ⟨b, o + i, none⟩) :
    ∀ (vs : List Value) (i : Nat) (cs : Array Value) (h : Heap), h[b]? = some (.cells cs t fr) → frOk cs.size fr → (∀ v ∈ vs, cellV v = true) → o + i + vs.length ≤ cs.size →
    K () (h.setIfInBounds b (.cells (splice cs (o + i) vs) t fr)) → wpH P (storeCells a vs i) K h
  | [], i, cs, h, hb, _, _, _, hk => by
    have : h.setIfInBounds b (.cells cs t fr) = h := by
      ext1
      · simp
      · rename_i j h1 h2
        rw [Array.getElem_setIfInBounds]
        split
        · rename_i hj; subst hj; exact ((Array.getElem?_eq_some_iff.1 hb).2).symm
        · rfl
    simp only [splice, this] at hk
    exact hk
  | v :: vs, i, cs, h, hb, hf, hv, hs, hk => by
    simp only [List.length_cons] at hs
    unfold storeCells
    simp only [bind, store]
    refine ⟨hv v (by simp), ?_, ?_, ?_⟩
    · rw [ha, hcell_blk hb, Array.getElem?_eq_getElem (by omega)]; rfl
    · rw [ha, hfrozen_ok hb hf (by omega)]
    · rw [ha, hset_blk hb]
      refine wpH_store ha vs (i + 1) (cs.setIfInBounds (o + i) v) _ (get_set hb) (by simpa using hf) (fun x hx => hv x (by simp [hx])) (by simp; omega) ?_
      rw [Array.setIfInBounds_setIfInBounds]
      have : o + (i + 1) = o + i + 1 := by omega
      rw [this]; exact hk
end Go.Proofs.Ytjelnknmjhceiaa
