/-
  Slices that begin somewhere in a row that the call owns: a[1:], and append to them.
-/
import Derived.Test.YthnheldoklgceaaDoorRow
namespace Go.Proofs.YthnheldoklgceaaDoor
set_option linter.unusedSimpArgs false
set_option linter.unusedVariables false
set_option maxRecDepth 20000
open Go
/-- A slice's cells, from its place on. -/
def OwnO (h : Heap) (a : Option Addr) (cap sz : Nat) (cs : List Value) : Prop :=
  match a with
  | none => cs = [] ∧ cap = 0
  | some ad => ad.spot = none ∧ ∃ ds t fr, frOk ds.size fr ∧ h[ad.block]? = some (.cells ds t fr) ∧ ad.off + cap * sz ≤ ds.size ∧ ad.off + cs.length ≤ ds.size ∧ ∀ i (hi : i < cs.length), ds[ad.off + i]? = some cs[i]
theorem OwnC.o {h : Heap} {a : Option Addr} {cap sz : Nat} {cs : List Value} (ho : OwnC h a cap sz cs) : OwnO h a cap sz cs := by
  cases a with
  | none => exact ho
  | some ad =>
    obtain ⟨h1, h2, ds, t, fr, hfr, hg, h3, h4, h5⟩ := ho
    exact ⟨h2, ds, t, fr, hfr, hg, by omega, by omega, fun i hi => by rw [h1, Nat.zero_add]; exact h5 i hi⟩
theorem OwnO.lt {h : Heap} {a : Option Addr} {cap sz : Nat} {cs : List Value} (ho : OwnO h a cap sz cs) {b : Nat} (hb : InA a b) : b < h.size := by
  obtain ⟨ad, rfl, rfl⟩ := hb
  obtain ⟨_, ds, t, fr, _, hg, _⟩ := ho
  exact lt_of_get hg
theorem OwnO.fr {S : Nat → Prop} {h h' : Heap} {a : Option Addr} {cap sz : Nat} {cs : List Value} (ho : OwnO h a cap sz cs) (hf : Fr S h h') (hs : ∀ b, InA a b → ¬ S b) : OwnO h' a cap sz cs := by
  cases a with
  | none => exact ho
  | some ad =>
    obtain ⟨h2, ds, t, fr, hfr, hg, hr⟩ := ho
    exact ⟨h2, ds, t, fr, hfr, hf.get hg (hs _ ⟨ad, rfl, rfl⟩), hr⟩
theorem OwnO.cells {h : Heap} {ad : Addr} {cap sz : Nat} {cs : List Value} (ho : OwnO h (some ad) cap sz cs) : Cells h ad cs := by
  obtain ⟨h2, ds, t, fr, hfr, hg, _, _, hc⟩ := ho
  intro j hj
  obtain ⟨b, o, s⟩ := ad
  simp only at h2 hg hc
  subst h2
  rw [add_mk, hcell_blk hg]; exact hc j hj
section
variable {P : Program} {h : Heap}
theorem append_ownO {sT xT ty el : TypeId} {consts : Array Bool} {i : TypeInfo} {z : Value} {d : TypeDesc} (t : ElemT P sT el i z) (hX : P.underlying xT = some d) (hd : ∀ k, d ≠ .int k)
    {a : Option Addr} {n cap m : Nat} {cs xs : List Value} {x : Value} (ho : OwnO h a cap i.size cs) (hn : cs.length = n * i.size) (hnc : n ≤ cap) (s : Src h i.size x m xs) (hv : ∀ v ∈ xs, cellV v = true)
    (hlim : (8 * (n + m) + 4000) * i.bytes ≤ 2 ^ 48) {K : Value → Heap → Prop}
    (hk : ∀ (a' : Option Addr) (cap' : Nat) (h' : Heap), OwnO h' a' cap' i.size (cs ++ xs) → n + m ≤ cap' → Fr (InA a) h h' → (∀ b, InA a' b → InA a b ∨ h.size ≤ b) → K (.slice a' (n + m) cap') h') :
    bltV P .append #[sT, xT] ty consts #[.slice a n cap, x] h K := by
  have hxl := s.len
  unfold bltV builtin
  simp only [bind]
  rw [wpH_bind]
  unfold Builtin.append_
  simp only [List.getElem?_toArray, List.getElem?_cons_zero, List.getElem?_cons_succ, bind]
  rw [wpH_bind]
  refine wpH_underlying t.und ?_
  simp only
  rw [wpH_bind]
  refine wpH_size (by rw [t.info]; rfl) ?_
  have hsz : sizeB P el = i.size := by simp [sizeB, t.info]
  rw [hsz, wpH_bind]
  refine wpH_underlying hX ?_
  have hfalse : (match d with | .int _ => true | _ => false) = false := by
    cases d <;> first | rfl | exact absurd rfl (hd _)
  simp only [pure, Sem.bind, hfalse]
  simp only [Bool.false_eq_true, if_false]
  rw [wpH_bind]
  refine wpH_len s ?_
  split
  case isTrue hle =>
    rw [wpH_bind]
    refine wpH_first s ?_
    cases a with
    | none =>
      obtain ⟨rfl, rfl⟩ := ho
      have hm : m = 0 := by omega
      have hn0 : n = 0 := by omega
      subst hm hn0
      have : xs = [] := by rw [← List.length_eq_zero_iff, hxl]; simp
      subst this
      exact hk none 0 h ⟨rfl, rfl⟩ (by omega) (Fr.refl _ _) (fun b hb => .inl hb)
    | some ad =>
      obtain ⟨h2, ds, ty', fr, hfr, hg, hcap, hlen, hc⟩ := ho
      obtain ⟨b, o, sp⟩ := ad
      simp only at h2 hg hcap hlen hc
      subst h2
      simp only
      rw [wpH_bind]
      have hadd : ∀ j, (Addr.add (Addr.add ⟨b, o, none⟩ (n * i.size)) j) = ⟨b, (o + n * i.size) + j, none⟩ := fun j => by rw [add_mk, add_mk]
      have hfit : (o + n * i.size) + xs.length ≤ ds.size := by
        have : (n + m) * i.size ≤ cap * i.size := Nat.mul_le_mul_right _ hle
        rw [Nat.add_mul] at this
        omega
      refine wpH_store hadd xs 0 ds h hg hfr hv (by omega) ?_
      simp only [Nat.add_zero, pure, wpH, nxK]
      refine hk _ _ _ ⟨rfl, _, ty', fr, by rw [splice_size]; exact hfr, get_set hg, ?_, ?_, ?_⟩ hle (Fr.set _ _ ⟨_, rfl, rfl⟩) (fun b hb => .inl hb)
      · rw [splice_size]; exact hcap
      · rw [splice_size, List.length_append]; show o + _ ≤ _; omega
      · intro j hj
        rw [splice_get _ _ _ hfit]
        rw [List.length_append] at hj
        show (if _ then _ else ds[o + j]?) = _
        by_cases hjn : j < cs.length
        · rw [if_neg (by show ¬ (_ ≤ o + j ∧ _); omega), hc j hjn, List.getElem_append_left hjn]
        · rw [if_pos (by show _ ≤ o + j ∧ o + j < _; omega), List.getElem_append_right (by omega), List.getElem?_eq_getElem (by show o + j - _ < _; omega)]
          congr 2; show o + j - _ = _; omega
  case isFalse hgt =>
    have hgt' : cap < n + m := by omega
    rw [wpH_bind]
    have hp : (2 : Nat) ^ 48 = 281474976710656 := by decide
    have hb1 : 1 ≤ i.bytes := t.bytes
    have hneed : 8 * (n + m) + 4000 ≤ 2 ^ 48 := Nat.le_trans (Nat.le_mul_of_pos_right _ t.bytes) hlim
    refine wpH_info t.info ?_
    have c1 : ¬ (((n + m : Nat) : Int) > IntKind.i64.max ∧ (False ∨ i.bytes = 0)) := by
      rintro ⟨_, h | h⟩
      · exact h
      · omega
    rw [if_neg c1]
    rw [wpH_bind]
    refine wpH_info t.info ?_
    have c2 : ¬ (Builtin.nextslicecap (n + m) cap * i.bytes > 2 ^ 48) := by
      have := Nat.mul_le_mul_right i.bytes (nextcap_le hgt')
      omega
    rw [if_neg c2]
    rw [wpH_bind]
    unfold choose
    refine ⟨fun q => ?_, fun hq => by simp [Question.forced] at hq⟩
    simp only [wpH, Question.cut]
    rw [wpH_bind]
    refine wpH_info t.info ?_
    have room : ∀ {K : Unit → Heap → Prop} {b : Nat} {h : Heap}, K () h → wpH P (askRoom b) K h := fun hk => by
      unfold askRoom; split <;> exact hk
    rw [wpH_bind]
    refine room ?_
    rw [wpH_bind]
    have sold : Src h i.size (.slice a n cap) n cs := by
      cases a with
      | none =>
        obtain ⟨rfl, rfl⟩ := ho
        have : n = 0 := by omega
        subst this; exact .nil _
      | some ad => exact .sl ad n cap cs hn ho.cells
    refine wpH_first sold ?_
    rw [wpH_bind]
    refine wpH_first s ?_
    rw [wpH_bind]
    have zr : ∀ {K : Value → Heap → Prop} {h : Heap}, K z h → wpH P (zeroValue el) K h := fun hk => by
      unfold zeroValue; simp only [bind]; rw [wpH_bind]; refine wpH_info t.info ?_; rw [t.zero]; exact hk
    refine zr ?_
    rw [wpH_bind]
    unfold newRow newObj
    simp only [bind, Sem.bind, wpH, pure, nxK]
    refine hk _ _ _ ⟨rfl, _, _, (0, 0), .inl rfl, get_push_self, ?_, ?_, ?_⟩ (by omega) (Fr.push _ _ _) (fun b hb => ?_)
    · simp only [Array.size_append, zeroCells_size, t.size]
      simp only [List.size_toArray, hn, hxl, Nat.zero_add]
      rw [← Nat.add_mul, ← Nat.add_mul]
      exact Nat.mul_le_mul_right _ (by omega)
    · simp only [Array.size_append, List.size_toArray, List.length_append]; omega
    · intro j hj
      have hja : j < (cs.toArray ++ xs.toArray).size := by simpa using hj
      rw [Nat.zero_add, Array.getElem?_append_left hja]
      simp only [List.append_toArray, List.getElem?_toArray]
      exact List.getElem?_eq_getElem hj
    · obtain ⟨ad, he, rfl⟩ := hb
      cases he
      exact .inr (Nat.le_refl _)
end
/-- A slice of data, somewhere in a row that a call has laid. -/
structure Que {α : Type} (sz : Nat) (vals : α → List Value) (h : Heap) (p : Option Addr) (cap : Nat) (L : List α) : Prop where
  own : OwnO h p cap sz (L.flatMap vals)
  le : L.length ≤ cap
section
variable {α : Type} {sz : Nat} {vals : α → List Value} {h : Heap} {p : Option Addr} {cap : Nat} {L : List α}
theorem Row.que (R : Row sz vals h p cap L) : Que sz vals h p cap L := ⟨R.own.o, R.le⟩
theorem Que.nil : Que sz vals h none 0 ([] : List α) := ⟨⟨rfl, rfl⟩, Nat.le_refl _⟩
theorem Que.fr {S : Nat → Prop} {h' : Heap} (R : Que sz vals h p cap L) (f : Fr S h h') (hs : ∀ b, InA p b → ¬ S b) : Que sz vals h' p cap L := ⟨R.own.fr f hs, R.le⟩
theorem Que.fr0 {h' : Heap} (f : Fr (fun _ => False) h h') (R : Que sz vals h p cap L) : Que sz vals h' p cap L := R.fr f fun _ _ => id
theorem Que.lt (R : Que sz vals h p cap L) {b : Nat} (hb : InA p b) : b < h.size := R.own.lt hb
theorem Que.cellsAt (R : Que sz vals h p cap L) (hv : ∀ x, (vals x).length = sz) (h0 : 0 < sz) (i : Nat) (hi : i < L.length) : ∃ ad, p = some ad ∧ Cells h (ad.add (i * sz)) (vals L[i]) := by
  cases p with
  | none =>
    have := R.own.1
    rw [List.flatMap_eq_nil_iff] at this
    have h1 := hv L[i]
    rw [this _ (List.getElem_mem hi)] at h1
    simp at h1; omega
  | some ad =>
    refine ⟨ad, rfl, fun j hj => ?_⟩
    rw [add_add]
    refine R.own.cells.at ?_
    rw [flat_get hv L i j hi (by rw [hv] at hj; exact hj), List.getElem?_eq_getElem hj]
theorem Que.idx (R : Que sz vals h p cap L) (hv : ∀ x, (vals x).length = sz) (h0 : 0 < sz) {n : Int} (i : Nat) (hn : n = i) (hi : i < L.length) {K : Addr → Prop} (hk : ∀ ad, Cells h (ad.add (i * sz)) (vals L[i]) → K ad) : idxA n L.length (nn p fun a => K a) := by
  refine idxA_mk i hn hi ?_
  obtain ⟨ad, rfl, c⟩ := R.cellsAt hv h0 i hi
  exact nn_mk (hk ad c)
theorem Que.src (R : Que sz vals h p cap L) (hv : ∀ x, (vals x).length = sz) (h0 : 0 < sz) : Src h sz (.slice p L.length cap) L.length (L.flatMap vals) := by
  cases p with
  | none =>
    have h1 := R.own.1
    have : L = [] := by
      cases L with
      | nil => rfl
      | cons e L =>
        rw [List.flatMap_eq_nil_iff] at h1
        have h2 := hv e
        rw [h1 e (by simp)] at h2
        simp at h2; omega
    subst this
    exact .nil _
  | some ad => exact .sl ad _ _ _ (flat_len hv L) R.own.cells
/-- The first element is left behind: a[1:]. -/
theorem Que.pop {x : α} {L : List α} (R : Que sz vals h p cap (x :: L)) (hv : ∀ x, (vals x).length = sz) (h0 : 0 < sz) {K : Option Addr → Nat → Nat → Prop} (hk : ∀ p' cap', (∀ b, InA p' b → InA p b) → Que sz vals h p' cap' L → K p' L.length cap') :
    sliceSl sz p (x :: L).length cap (some 1) none none K := by
  have hle := R.le
  rw [List.length_cons] at hle
  have hx := hv x
  unfold sliceSl
  refine ⟨by omega, by rw [List.length_cons]; omega, ?_⟩
  have e1 : (1 : Int).toNat = 1 := rfl
  rw [e1, List.length_cons, Nat.add_sub_cancel]
  cases p with
  | none => exact absurd R.own.2 (by omega)
  | some ad =>
    obtain ⟨h2, ds, t, fr, hfr, hg, hcap, hlen, hc⟩ := R.own
    rw [List.flatMap_cons, List.length_append, hx] at hlen
    by_cases hc1 : cap = 1
    · rw [if_pos hc1]
      have hL : L = [] := List.length_eq_zero_iff.1 (by omega)
      subst hL
      exact hk _ _ (fun b hb => hb) ⟨⟨h2, ds, t, fr, hfr, hg, by subst hc1; omega, by simp at hlen ⊢; omega, fun i hi => absurd hi (Nat.not_lt_zero _)⟩, Nat.zero_le _⟩
    · rw [if_neg hc1]
      obtain ⟨b, o, sp⟩ := ad
      simp only at h2 hg hcap hlen hc
      subst h2
      have ea : (Option.map (fun x => Addr.add x (1 * sz)) (some (⟨b, o, none⟩ : Addr))) = some ⟨b, o + sz, none⟩ := by
        show some (Addr.add _ _) = _
        rw [add_mk, Nat.one_mul]
      rw [ea]
      refine hk _ _ (fun x hx => by obtain ⟨ad, he, hb⟩ := hx; cases he; exact ⟨_, rfl, hb⟩) ⟨⟨rfl, ds, t, fr, hfr, hg, ?_, ?_, fun i hi => ?_⟩, by omega⟩
      · have : cap * sz = sz + (cap - 1) * sz := by
          obtain ⟨c, rfl⟩ : ∃ c, cap = c + 1 := ⟨cap - 1, by omega⟩
          rw [Nat.succ_mul, Nat.add_sub_cancel]; omega
        show o + sz + _ ≤ _
        omega
      · show o + sz + _ ≤ _; omega
      · have := hc (sz + i) (by rw [List.flatMap_cons, List.length_append, hx]; omega)
        show ds[o + sz + i]? = _
        rw [Nat.add_assoc, this]
        congr 1
        rw [List.getElem_append_right' (vals x) hi]
        simp only [hx, List.flatMap_cons]
        congr 1
        omega
/-- Elements are appended. -/
theorem Que.appL {P : Program} {sT xT ty el : TypeId} {consts : Array Bool} {i : TypeInfo} {z : Value} {d : TypeDesc} (t : ElemT P sT el i z) (hX : P.underlying xT = some d) (hd : ∀ k, d ≠ .int k) (hz : i.size = sz) (hb : i.bytes ≤ 2000) (hv : ∀ x, (vals x).length = sz) (hc : ∀ x, (vals x).all cellV = true)
    (R : Que sz vals h p cap L) {M : List α} {x : Value} (s : Src h sz x M.length (M.flatMap vals)) (hl : L.length + M.length ≤ 2 ^ 30) {K : Value → Heap → Prop}
    (hk : ∀ p' cap' h', Que sz vals h' p' cap' (L ++ M) → Fr (InA p) h h' → (∀ b, InA p' b → InA p b ∨ h.size ≤ b) → K (.slice p' (L ++ M).length cap') h') :
    bltV P .append #[sT, xT] ty consts #[.slice p L.length cap, x] h K := by
  subst hz
  refine append_ownO t hX hd (m := M.length) (xs := M.flatMap vals) R.own (flat_len hv L) R.le s (flat_cell hc M) (lim hb hl) fun p' c' h' o' hc' f hn => ?_
  have el : L.length + M.length = (L ++ M).length := by simp
  rw [el] at hc' ⊢
  refine hk p' c' h' ⟨?_, hc'⟩ f hn
  rw [List.flatMap_append]; exact o'
theorem Que.app {P : Program} {sT xT ty el T : TypeId} {consts : Array Bool} {i : TypeInfo} {z : Value} {d : TypeDesc} (t : ElemT P sT el i z) (hX : P.underlying xT = some d) (hd : ∀ k, d ≠ .int k) (hz : i.size = sz) (hb : i.bytes ≤ 2000) (hv : ∀ x, (vals x).length = sz) (hc : ∀ x, (vals x).all cellV = true)
    (R : Que sz vals h p cap L) {e : α} {b : Addr} (ob : Own h b (vals e) T) (c : Nat) (hl : L.length ≤ 2 ^ 29) {K : Value → Heap → Prop}
    (hk : ∀ p' cap' h', Que sz vals h' p' cap' (L ++ [e]) → Fr (InA p) h h' → (∀ b, InA p' b → InA p b ∨ h.size ≤ b) → K (.slice p' (L ++ [e]).length cap') h') :
    bltV P .append #[sT, xT] ty consts #[.slice p L.length cap, .slice (some b) 1 c] h K := by
  have s : Src h sz (.slice (some b) 1 c) [e].length ([e].flatMap vals) := by
    have : [e].flatMap vals = vals e := by simp
    rw [this]; exact Src.sl b 1 c (vals e) (by rw [hv]; simp) ob.cells
  exact R.appL t hX hd hz hb hv hc s (by simp only [List.length_singleton]; omega) hk
end
end Go.Proofs.YthnheldoklgceaaDoor
