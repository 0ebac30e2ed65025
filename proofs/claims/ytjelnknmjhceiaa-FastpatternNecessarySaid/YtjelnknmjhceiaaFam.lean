/-
  Families of slices that a call owns, no two of which share a block.
-/
import Derived.Test.YtjelnknmjhceiaaKit2
namespace Go.Proofs.Ytjelnknmjhceiaa
set_option linter.unusedSimpArgs false
set_option linter.unusedVariables false
set_option maxRecDepth 20000
open Go
def put {ι α : Type} [DecidableEq ι] (f : ι → α) (x : ι) (v : α) : ι → α := fun y => if y = x then v else f y
theorem put_self {ι α : Type} [DecidableEq ι] (f : ι → α) (x : ι) (v : α) : put f x v x = v := if_pos rfl
theorem put_ne {ι α : Type} [DecidableEq ι] (f : ι → α) {x y : ι} (v : α) (h : y ≠ x) : put f x v y = f y := if_neg h
structure Fam {ι : Type} (sz : ι → Nat) (h : Heap) (sl : ι → Option Addr) (cap : ι → Nat) (cs : ι → List Value) : Prop where
  own : ∀ x, OwnC h (sl x) (cap x) (sz x) (cs x)
  apart : ∀ x y b, InA (sl x) b → InA (sl y) b → x = y
section
variable {ι : Type} {sz : ι → Nat} {h : Heap} {sl : ι → Option Addr} {cap : ι → Nat} {cs : ι → List Value}
theorem Fam.fr (F : Fam sz h sl cap cs) {S : Nat → Prop} {h' : Heap} (f : Fr S h h') (hs : ∀ x b, InA (sl x) b → ¬ S b) : Fam sz h' sl cap cs :=
  ⟨fun x => (F.own x).fr f (hs x), F.apart⟩
theorem Fam.fr0 (F : Fam sz h sl cap cs) {h' : Heap} (f : Fr (fun _ => False) h h') : Fam sz h' sl cap cs := F.fr f fun _ _ _ => id
theorem Fam.lt (F : Fam sz h sl cap cs) {x : ι} {b : Nat} (hb : InA (sl x) b) : b < h.size := (F.own x).lt hb
theorem Fam.none (F : Fam sz h sl cap cs) {x : ι} (hx : sl x = none) : cs x = [] ∧ cap x = 0 := by
  have := F.own x; rw [hx] at this; exact this
/-- A slice that holds something has a place. -/
theorem Fam.some_of (F : Fam sz h sl cap cs) {x : ι} (hx : (cs x).length ≠ 0) : ∃ ad, sl x = some ad ∧ Cells h ad (cs x) := by
  have o := F.own x
  cases hs : sl x with
  | none => rw [hs] at o; rw [o.1] at hx; simp at hx
  | some ad => rw [hs] at o; exact ⟨ad, rfl, o.cells⟩
end
section
variable {ι : Type} [DecidableEq ι] {sz : ι → Nat} {h : Heap} {sl : ι → Option Addr} {cap : ι → Nat} {cs : ι → List Value}
/-- One slice is replaced by one that stands in its block, or in a new one. -/
theorem Fam.turn (F : Fam sz h sl cap cs) (x : ι) {a' : Option Addr} {cap' : Nat} {cs' : List Value} {h' : Heap} (o : OwnC h' a' cap' (sz x) cs') (f : Fr (InA (sl x)) h h') (hn : ∀ b, InA a' b → InA (sl x) b ∨ h.size ≤ b) :
    Fam sz h' (put sl x a') (put cap x cap') (put cs x cs') := by
  refine ⟨fun y => ?_, fun y z b hy hz => ?_⟩
  · by_cases e : y = x
    · subst e; rw [put_self, put_self, put_self]; exact o
    · rw [put_ne _ _ e, put_ne _ _ e, put_ne _ _ e]
      exact (F.own y).fr f fun b hb hx => e (F.apart _ _ _ hb hx)
  · by_cases ey : y = x
    · by_cases ez : z = x
      · rw [ey, ez]
      · rw [ey, put_self] at hy; rw [put_ne _ _ ez] at hz
        rcases hn b hy with hb | hb
        · rw [ey]; exact F.apart _ _ _ hb hz
        · have := F.lt hz; omega
    · rw [put_ne _ _ ey] at hy
      by_cases ez : z = x
      · rw [ez, put_self] at hz
        rcases hn b hz with hb | hb
        · rw [ez]; exact F.apart _ _ _ hy hb
        · have := F.lt hy; omega
      · rw [put_ne _ _ ez] at hz; exact F.apart _ _ _ hy hz
theorem Fam.app {P : Program} {sT xT ty el : TypeId} {consts : Array Bool} {i : TypeInfo} {z : Value} {d : TypeDesc} (t : ElemT P sT el i z) (hX : P.underlying xT = some d) (hd : ∀ k, d ≠ .int k)
    (F : Fam sz h sl cap cs) (x : ι) (hz : sz x = i.size) {n m : Nat} {xs : List Value} {v : Value} (hn : (cs x).length = n * sz x) (hnc : n ≤ cap x) (s : Src h i.size v m xs) (hv : ∀ v ∈ xs, cellV v = true)
    (hlim : (8 * (n + m) + 4000) * i.bytes ≤ 2 ^ 48) {K : Value → Heap → Prop}
    (hk : ∀ (a' : Option Addr) (cap' : Nat) (h' : Heap), Fam sz h' (put sl x a') (put cap x cap') (put cs x (cs x ++ xs)) → n + m ≤ cap' → Fr (InA (sl x)) h h' → (∀ b, InA a' b → InA (sl x) b ∨ h.size ≤ b) → K (.slice a' (n + m) cap') h') :
    bltV P .append #[sT, xT] ty consts #[.slice (sl x) n (cap x), v] h K := by
  refine append_own t hX hd (by rw [← hz]; exact F.own x) (by rw [hn, hz]) hnc s hv hlim fun a' cap' h' o hc f hb => hk a' cap' h' (F.turn x (by rw [hz]; exact o) f hb) hc f hb
theorem OwnC.set {h : Heap} {ad : Addr} {c n : Nat} {vs : List Value} (o : OwnC h (some ad) c n vs) {j : Nat} (hj : j < vs.length) {v : Value} (hv : cellV v = true) {K : Heap → Prop}
    (hK : ∀ h', Fr (InA (some ad)) h h' → OwnC h' (some ad) c n (vs.set j v) → K h') : st1 h (ad.add j) v K := by
  obtain ⟨h1, h2, ds, t, fr, hfr, hg, hc1, hc2, hc3⟩ := o
  have e : ad.add j = ⟨ad.block, j, none⟩ := by
    obtain ⟨b, o, s⟩ := ad; simp only at h1 h2; subst h1 h2; rw [add_mk, Nat.zero_add]
  rw [e]
  refine ⟨hv, by rw [hcell_blk hg, Array.getElem?_eq_getElem (by omega)]; rfl, hfrozen_ok hg hfr (by omega), ?_⟩
  rw [hset_blk hg]
  refine hK _ (Fr.set _ _ ⟨ad, rfl, rfl⟩) ⟨h1, h2, _, t, fr, by simpa using hfr, get_set hg, by simpa using hc1, by simpa using hc2, ?_⟩
  intro i hi
  rw [List.length_set] at hi
  rw [Array.getElem?_setIfInBounds, List.getElem_set]
  by_cases hik : j = i
  · subst hik
    rw [if_pos rfl, if_pos (by omega), if_pos rfl]
  · rw [if_neg hik, if_neg hik]; exact hc3 i hi
theorem Fam.set (F : Fam sz h sl cap cs) (x : ι) {ad : Addr} (hx : sl x = some ad) {j : Nat} (hj : j < (cs x).length) {v : Value} (hv : cellV v = true) {K : Heap → Prop}
    (hk : ∀ h', Fam sz h' sl cap (put cs x ((cs x).set j v)) → Fr (InA (sl x)) h h' → K h') : st1 h (ad.add j) v K := by
  have o := F.own x
  rw [hx] at o
  refine o.set hj hv fun h' f o' => hk h' ?_ (by rw [hx]; exact f)
  have := F.turn x (a' := some ad) (cap' := cap x) (cs' := (cs x).set j v) (h' := h') o' (by rw [hx]; exact f) (fun b hb => .inl (by rw [hx]; exact hb))
  have e1 : put sl x (some ad) = sl := by funext y; unfold put; split
                                          · rename_i e; rw [e, hx]
                                          · rfl
  have e2 : put cap x (cap x) = cap := by funext y; unfold put; split
                                          · rename_i e; rw [e]
                                          · rfl
  rw [e1, e2] at this; exact this
end
theorem Src.one {h : Heap} {a : Addr} {T : TypeId} {vs : List Value} {sz : Nat} (o : Own h a vs T) (hl : vs.length = sz) (c : Nat) : Src h sz (.slice (some a) 1 c) 1 vs :=
  .sl a 1 c vs (by omega) o.cells
end Go.Proofs.Ytjelnknmjhceiaa
