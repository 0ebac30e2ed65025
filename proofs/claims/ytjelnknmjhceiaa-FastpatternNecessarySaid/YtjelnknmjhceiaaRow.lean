/-
  Rows of data that a call has laid: reading, appending.
-/
import Derived.Test.YtjelnknmjhceiaaArgs
namespace Go.Proofs.Ytjelnknmjhceiaa
set_option linter.unusedSimpArgs false
set_option linter.unusedVariables false
set_option maxRecDepth 20000
open Go
theorem lim {n b : Nat} (hb : b ≤ 2000) (hn : n ≤ 2 ^ 30) : (8 * n + 4000) * b ≤ 2 ^ 48 :=
  Nat.le_trans (Nat.mul_le_mul (show 8 * n + 4000 ≤ 8 * 2 ^ 30 + 4000 by omega) hb) (by decide)
theorem flat_len {α : Type} {vals : α → List Value} {sz : Nat} (hv : ∀ x, (vals x).length = sz) : ∀ L : List α, (L.flatMap vals).length = L.length * sz
  | [] => by simp
  | e :: L => by rw [List.flatMap_cons, List.length_append, flat_len hv L, hv, List.length_cons, Nat.succ_mul, Nat.add_comm]
theorem flat_cell {α : Type} {vals : α → List Value} (hc : ∀ x, (vals x).all cellV = true) (L : List α) : ∀ v ∈ L.flatMap vals, cellV v = true := fun v hv => by
  obtain ⟨e, _, hv⟩ := List.mem_flatMap.1 hv
  exact List.all_eq_true.1 (hc e) v hv
theorem add_add (a : Addr) (i j : Nat) : (a.add i).add j = a.add (i + j) := by
  unfold Addr.add
  obtain ⟨b, o, s⟩ := a
  cases i with
  | zero => simp
  | succ i =>
    cases j with
    | zero => simp
    | succ j => simp [Nat.add_assoc]
theorem Cells.sub {h : Heap} {a : Addr} {vs : List Value} (c : Cells h a vs) (k : Nat) : Cells h (a.add k) (vs.drop k) := by
  intro j hj
  rw [add_add]
  refine c.at ?_
  rw [← List.getElem?_drop, List.getElem?_eq_getElem hj]
/-- A slice of data that a call has laid. -/
structure Row {α : Type} (sz : Nat) (vals : α → List Value) (h : Heap) (p : Option Addr) (cap : Nat) (L : List α) : Prop where
  own : OwnC h p cap sz (L.flatMap vals)
  le : L.length ≤ cap
section
variable {α : Type} {sz : Nat} {vals : α → List Value} {h : Heap} {p : Option Addr} {cap : Nat} {L : List α}
theorem Row.nil : Row sz vals h none 0 ([] : List α) := ⟨⟨rfl, rfl⟩, Nat.le_refl _⟩
theorem Row.of_own {a : Addr} {T : TypeId} (hv : ∀ x, (vals x).length = sz) (o : Own h a (L.flatMap vals) T) : Row sz vals h (some a) L.length L :=
  ⟨⟨o.off, o.spot, _, T, (0, 0), .inl rfl, o.blk, by rw [List.size_toArray, flat_len hv]; exact Nat.le_refl _, by simp, fun i hi => by simp [hi]⟩, Nat.le_refl _⟩
theorem Row.fr {S : Nat → Prop} {h' : Heap} (R : Row sz vals h p cap L) (f : Fr S h h') (hs : ∀ b, InA p b → ¬ S b) : Row sz vals h' p cap L := ⟨R.own.fr f hs, R.le⟩
theorem Row.fr0 {h' : Heap} (f : Fr (fun _ => False) h h') (R : Row sz vals h p cap L) : Row sz vals h' p cap L := R.fr f fun _ _ => id
theorem Row.lt (R : Row sz vals h p cap L) {b : Nat} (hb : InA p b) : b < h.size := R.own.lt hb
theorem Row.cellsAt (R : Row sz vals h p cap L) (hv : ∀ x, (vals x).length = sz) (h0 : 0 < sz) (i : Nat) (hi : i < L.length) : ∃ ad, p = some ad ∧ Cells h (ad.add (i * sz)) (vals L[i]) := by
  cases p with
  | none =>
    have := R.own.1
    rw [List.flatMap_eq_nil_iff] at this
    have h1 := hv L[i]
    rw [this _ (List.getElem_mem hi)] at h1
    simp at h1; omega
  | some ad =>
    refine ⟨ad, rfl, fun j hj => ?_⟩
    have e : (ad.add (i * sz)).add j = ad.add (i * sz + j) := by
      have h1 := R.own.1
      have h2 := R.own.2.1
      obtain ⟨b, o, s⟩ := ad
      simp only at h1 h2
      subst h1 h2
      rw [add_mk, add_mk, add_mk, Nat.add_assoc]
    rw [e]
    refine R.own.cells.at ?_
    rw [flat_get hv L i j hi (by rw [hv] at hj; exact hj), List.getElem?_eq_getElem hj]
theorem Row.idx (R : Row sz vals h p cap L) (hv : ∀ x, (vals x).length = sz) (h0 : 0 < sz) {n : Int} (i : Nat) (hn : n = i) (hi : i < L.length) {K : Addr → Prop} (hk : ∀ ad, Cells h (ad.add (i * sz)) (vals L[i]) → K ad) : idxA n L.length (nn p fun a => K a) := by
  refine idxA_mk i hn hi ?_
  obtain ⟨ad, rfl, c⟩ := R.cellsAt hv h0 i hi
  exact nn_mk (hk ad c)
/-- A row as an argument. -/
theorem Row.sl {ok : Heap → α → Prop} (R : Row sz vals h p cap L) (hv : ∀ x, (vals x).length = sz) (h0 : 0 < sz) (hl : L.length ≤ 9223372036854775807) (hok : ∀ x ∈ L, ok h x) : SlOk sz vals ok h ⟨p, cap, L⟩ :=
  ⟨R.le, hl, fun i hi => by obtain ⟨ad, h1, h2⟩ := R.cellsAt hv h0 i hi; exact ⟨ad, h1, h2, hok _ (List.getElem_mem hi)⟩⟩
theorem Row.src (R : Row sz vals h p cap L) (hv : ∀ x, (vals x).length = sz) (h0 : 0 < sz) : Src h sz (.slice p L.length cap) L.length (L.flatMap vals) := by
  cases p with
  | none =>
    have h1 := R.own.1
    have : L = [] := by
      cases L with
      | nil => rfl
      | cons e L =>
        rw [List.flatMap_eq_nil_iff] at h1
        have h2 := hv e
        rw [h1 e (by simp)] at h2
        simp at h2; omega
    subst this
    exact .nil _
  | some ad => exact .sl ad _ _ _ (flat_len hv L) R.own.cells
theorem SlOk.src {ok : Heap → α → Prop} {s : Sl α} (o : SlOk sz vals ok h s) (hv : ∀ x, (vals x).length = sz) : Src h sz (.slice s.p s.xs.length s.cap) s.xs.length (s.xs.flatMap vals) := by
  cases hp : s.p with
  | none =>
    have : s.xs = [] := by
      cases hx : s.xs with
      | nil => rfl
      | cons e l =>
        obtain ⟨ad, h1, _⟩ := o.at_ 0 (by rw [hx]; simp)
        rw [hp] at h1; cases h1
    rw [this]
    exact .nil _
  | some ad =>
    refine .sl ad _ _ _ (flat_len hv s.xs) fun j hj => ?_
    rw [flat_len hv] at hj
    have h0 : 0 < sz := by
      rcases Nat.eq_zero_or_pos sz with h | h
      · subst h; omega
      · exact h
    have hi : j / sz < s.xs.length := (Nat.div_lt_iff_lt_mul h0).2 hj
    obtain ⟨ad', h1, h2, _⟩ := o.at_ (j / sz) hi
    rw [hp] at h1; cases h1
    have hm : j % sz < sz := Nat.mod_lt _ h0
    have e : (ad.add (j / sz * sz)).add (j % sz) = ad.add j := by rw [add_add, Nat.div_add_mod' j sz]
    rw [← e]
    have := h2.at (j := j % sz) (v := (vals s.xs[j / sz])[j % sz]'(by rw [hv]; exact hm)) (List.getElem?_eq_getElem _)
    rw [this]
    congr 1
    have hg := flat_get hv s.xs (j / sz) (j % sz) hi hm
    rw [Nat.div_add_mod' j sz, List.getElem?_eq_getElem (by rw [flat_len hv]; exact hj), List.getElem?_eq_getElem (by rw [hv]; exact hm)] at hg
    exact (Option.some.inj hg).symm
theorem flat_set (hv : ∀ x, (vals x).length = sz) {e' : α} {v : Value} : ∀ (L : List α) (i j : Nat) (hi : i < L.length), j < sz → vals e' = (vals L[i]).set j v → (L.flatMap vals).set (i * sz + j) v = (L.set i e').flatMap vals
  | [], i, j, hi, _, _ => absurd hi (Nat.not_lt_zero _)
  | x :: L, 0, j, hi, hj, he => by
    rw [Nat.zero_mul, Nat.zero_add, List.flatMap_cons, List.set_append_left _ _ (by rw [hv]; exact hj), List.set_cons_zero, List.flatMap_cons, he]; rfl
  | x :: L, i + 1, j, hi, hj, he => by
    have := flat_set hv L i j (by simpa using hi) hj he
    rw [List.flatMap_cons, List.set_append_right _ _ (by rw [hv, Nat.succ_mul]; omega), hv, List.set_cons_succ, List.flatMap_cons, ← this]
    have e : (i + 1) * sz + j - sz = i * sz + j := by rw [Nat.succ_mul]; omega
    rw [e]
/-- A cell of an element is written. -/
theorem Row.set1 (R : Row sz vals h p cap L) (hv : ∀ x, (vals x).length = sz) (i : Nat) (hi : i < L.length) {ad : Addr} (hp : p = some ad) {j : Nat} (hj : j < sz) {v : Value} (hc : cellV v = true) {e' : α} (he : vals e' = (vals L[i]).set j v) {K : Heap → Prop}
    (hk : ∀ h', Fr (InA p) h h' → Row sz vals h' p cap (L.set i e') → K h') : st1 h ((ad.add (i * sz)).add j) v K := by
  subst hp
  obtain ⟨⟨h1, h2, ds, t, fr, hfr, hg, hc1, hc2, hc3⟩, hle⟩ := R
  have e : (ad.add (i * sz)).add j = ⟨ad.block, i * sz + j, none⟩ := by
    rw [add_add]
    obtain ⟨b, o, s⟩ := ad; simp only at h1 h2; subst h1 h2; rw [add_mk, Nat.zero_add]
  have hlt : i * sz + j < (L.flatMap vals).length := by
    rw [flat_len hv]
    have := Nat.mul_le_mul_right sz (show i + 1 ≤ L.length from hi)
    rw [Nat.succ_mul] at this
    omega
  rw [e]
  refine ⟨hc, by rw [hcell_blk hg, Array.getElem?_eq_getElem (by omega)]; rfl, hfrozen_ok hg hfr (by omega), ?_⟩
  rw [hset_blk hg]
  refine hk _ (Fr.set _ _ ⟨ad, rfl, rfl⟩) ⟨⟨h1, h2, _, t, fr, by simpa using hfr, get_set hg, by simpa using hc1, ?_, ?_⟩, by simpa using hle⟩
  · rw [← flat_set hv L i j hi hj he]; simpa using hc2
  · rw [← flat_set hv L i j hi hj he]
    intro k hk
    rw [List.length_set] at hk
    rw [Array.getElem?_setIfInBounds, List.getElem_set]
    by_cases hik : i * sz + j = k
    · subst hik
      rw [if_pos rfl, if_pos (by omega), if_pos rfl]
    · rw [if_neg hik, if_neg hik]; exact hc3 k hk
/-- Elements are appended to a row. -/
theorem Row.appL {P : Program} {sT xT ty el : TypeId} {consts : Array Bool} {i : TypeInfo} {z : Value} {d : TypeDesc} (t : ElemT P sT el i z) (hX : P.underlying xT = some d) (hd : ∀ k, d ≠ .int k) (hz : i.size = sz) (hb : i.bytes ≤ 2000) (hv : ∀ x, (vals x).length = sz) (hc : ∀ x, (vals x).all cellV = true)
    (R : Row sz vals h p cap L) {M : List α} {x : Value} (s : Src h sz x M.length (M.flatMap vals)) (hl : L.length + M.length ≤ 2 ^ 30) {K : Value → Heap → Prop}
    (hk : ∀ p' cap' h', Row sz vals h' p' cap' (L ++ M) → Fr (InA p) h h' → (∀ b, InA p' b → InA p b ∨ h.size ≤ b) → K (.slice p' (L ++ M).length cap') h') :
    bltV P .append #[sT, xT] ty consts #[.slice p L.length cap, x] h K := by
  subst hz
  refine append_own t hX hd (m := M.length) (xs := M.flatMap vals) R.own (flat_len hv L) R.le s (flat_cell hc M) (lim hb hl) fun p' c' h' o' hc' f hn => ?_
  have el : L.length + M.length = (L ++ M).length := by simp
  rw [el] at hc' ⊢
  refine hk p' c' h' ⟨?_, hc'⟩ f hn
  rw [List.flatMap_append]; exact o'
/-- One element, from a block of its own, is appended. -/
theorem Row.app {P : Program} {sT xT ty el T : TypeId} {consts : Array Bool} {i : TypeInfo} {z : Value} {d : TypeDesc} (t : ElemT P sT el i z) (hX : P.underlying xT = some d) (hd : ∀ k, d ≠ .int k) (hz : i.size = sz) (hb : i.bytes ≤ 2000) (hv : ∀ x, (vals x).length = sz) (hc : ∀ x, (vals x).all cellV = true)
    (R : Row sz vals h p cap L) {e : α} {b : Addr} (ob : Own h b (vals e) T) (c : Nat) (hl : L.length ≤ 2 ^ 29) {K : Value → Heap → Prop}
    (hk : ∀ p' cap' h', Row sz vals h' p' cap' (L ++ [e]) → Fr (InA p) h h' → (∀ b, InA p' b → InA p b ∨ h.size ≤ b) → K (.slice p' (L ++ [e]).length cap') h') :
    bltV P .append #[sT, xT] ty consts #[.slice p L.length cap, .slice (some b) 1 c] h K := by
  have s : Src h sz (.slice (some b) 1 c) [e].length ([e].flatMap vals) := by
    have : [e].flatMap vals = vals e := by simp
    rw [this]; exact Src.sl b 1 c (vals e) (by rw [hv]; simp) ob.cells
  exact R.appL t hX hd hz hb hv hc s (by simp only [List.length_singleton]; omega) hk
end
end Go.Proofs.Ytjelnknmjhceiaa
