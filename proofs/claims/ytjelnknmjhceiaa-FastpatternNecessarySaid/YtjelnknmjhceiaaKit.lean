/-
  Words of walks over printed conditions: loads, stores, new blocks, bytes.
-/
import Derived.Test.YtjelnknmjhceiaaBridge
namespace Go.Proofs.Ytjelnknmjhceiaa
set_option linter.unusedSimpArgs false
set_option linter.unusedVariables false
set_option maxRecDepth 20000
open Go
theorem ldS_mk {h : Heap} {a : Addr} {s : ByteArray} {K : ByteArray → Prop} (hc : hcell h a = some (.string s)) (hk : K s) : ldS h a K := ⟨s, hc, hk⟩
theorem ldI_mk {h : Heap} {a : Addr} {k : IntKind} {n : Int} {K : Int → Prop} (hc : hcell h a = some (.int k n)) (hk : K n) : ldI h a k K := ⟨n, hc, hk⟩
theorem ldB_mk {h : Heap} {a : Addr} {n : Bool} {K : Bool → Prop} (hc : hcell h a = some (.bool n)) (hk : K n) : ldB h a K := ⟨n, hc, hk⟩
/-- A content. -/
theorem wr8 {x : Int} (h1 : 0 ≤ x) (h2 : x ≤ 255) : IntKind.wrap .u8 x = x := by
  unfold IntKind.wrap IntKind.bits IntKind.signed
  simp
  omega
theorem u8_ne {x y : UInt8} : (((x.toNat : Int)) != ((y.toNat : Int))) = !(x == y) := by
  rw [Bool.eq_iff_iff]
  simp only [bne_iff_ne, ne_eq, Bool.not_eq_true', beq_eq_false_iff_ne]
  constructor
  · intro h e; exact h (by rw [e])
  · intro h e; exact h (UInt8.toNat_inj.1 (by omega))
theorem u8_if {x y : UInt8} : (((x.toNat : Int)) != ((y.toNat : Int))) = true ↔ x ≠ y := by
  rw [u8_ne]; simp
theorem getD_ext {l m : List UInt8} (hl : l.length = m.length) (h : ∀ i, i < l.length → l.getD i 0 = m.getD i 0) : l = m := by
  apply List.ext_getElem hl
  intro i h1 h2
  have := h i h1
  rw [List.getD_eq_getElem?_getD, List.getD_eq_getElem?_getD, List.getElem?_eq_getElem h1, List.getElem?_eq_getElem h2] at this
  exact this
theorem getD_part (d : List UInt8) (a n i : Nat) (hi : i < n) : ((d.drop a).take n).getD i 0 = d.getD (a + i) 0 := by
  rw [List.getD_eq_getElem?_getD, List.getD_eq_getElem?_getD, List.getElem?_take_of_lt hi, List.getElem?_drop]
theorem Fr.hcell {S : Nat → Prop} {h h' : Heap} (f : Fr S h h') {a : Addr} {v : Value} (hc : Go.Proofs.Ytjelnknmjhceiaa.hcell h a = some v) (hn : ¬ S a.block) : Go.Proofs.Ytjelnknmjhceiaa.hcell h' a = some v := by
  unfold Go.Proofs.Ytjelnknmjhceiaa.hcell at hc ⊢
  cases hb : h[a.block]? with
  | none => rw [hb] at hc; simp at hc
  | some o => rw [f.get hb hn]; rw [hb] at hc; exact hc
theorem add_block (a : Addr) (n : Nat) : (a.add n).block = a.block := by unfold Addr.add; split <;> rfl
theorem hcell_lt {h : Heap} {a : Addr} {v : Value} (hc : hcell h a = some v) : a.block < h.size := by
  unfold hcell at hc
  cases hb : h[a.block]? with
  | none => rw [hb] at hc; simp at hc
  | some o => exact lt_of_get hb
theorem stN_blk {b : Nat} {t : TypeId} {K : Heap → Prop} : ∀ (vs : List Value) (i : Nat) (cs : Array Value) (h : Heap), h[b]? = some (.cells cs t (0, 0)) → (∀ v ∈ vs, cellV v = true) → i + vs.length ≤ cs.size →
    K (h.setIfInBounds b (.cells (splice cs i vs) t (0, 0))) → stN h ⟨b, 0, none⟩ vs i K
  | [], i, cs, h, hb, _, _, hk => by
    have : h.setIfInBounds b (.cells cs t (0, 0)) = h := by
      apply Array.ext_getElem?
      intro j
      rw [Array.getElem?_setIfInBounds]
      split
      · rename_i e; subst e
        split
        · exact hb.symm
        · rename_i hj; exact (Array.getElem?_eq_none (by omega)).symm
      · rfl
    unfold splice at hk; rw [this] at hk; exact hk
  | v :: vs, i, cs, h, hb, hv, hl, hk => by
    simp only [List.length_cons] at hl
    unfold stN
    rw [add_mk, Nat.zero_add]
    refine ⟨hv v (by simp), ?_, hfrozen_blk hb, ?_⟩
    · rw [hcell_blk hb, Array.getElem?_eq_getElem (by omega)]; rfl
    · rw [hset_blk hb]
      refine stN_blk vs (i + 1) _ _ (get_set hb) (fun x hx => hv x (by simp [hx])) (by simp; omega) ?_
      rw [Array.setIfInBounds_setIfInBounds]
      exact hk
theorem st_new {h : Heap} {t : TypeId} {zs vs : List Value} {K : Addr → Heap → Prop} (hv : ∀ v ∈ vs, cellV v = true) (hl : vs.length = zs.length) (hs : splice zs.toArray 0 vs = vs.toArray)
    (hk : K ⟨h.size, 0, none⟩ (h.push (.cells vs.toArray t (0, 0)))) : alV h (.cells zs.toArray t) fun a h1 => stN h1 a vs 0 fun h2 => K a h2 := by
  unfold alV
  refine stN_blk vs 0 zs.toArray _ get_push_self hv (by simp; omega) ?_
  have : (h.push (.cells zs.toArray t (0, 0))).setIfInBounds h.size (.cells (splice zs.toArray 0 vs) t (0, 0)) = h.push (.cells vs.toArray t (0, 0)) := by
    rw [hs]
    apply Array.ext_getElem?
    intro j
    rw [Array.getElem?_setIfInBounds, Array.getElem?_push, Array.getElem?_push]
    by_cases e : j = h.size
    · subst e; simp
    · rw [if_neg (fun x => e x.symm), if_neg e, if_neg e]
  rw [this]; exact hk
theorem ldP_mk {h : Heap} {a : Addr} {p : Option Addr} {K : Option Addr → Prop} (hc : hcell h a = some (.pointer p)) (hk : K p) : ldP h a K := ⟨p, hc, hk⟩
theorem ldL_mk {h : Heap} {a : Addr} {p : Option Addr} {n c : Nat} {K : Option Addr → Nat → Nat → Prop} (hc : hcell h a = some (.slice p n c)) (hk : K p n c) : ldL h a K := ⟨p, n, c, hc, hk⟩
theorem alV_mk {h : Heap} {o : Obj} {K : Addr → Heap → Prop} (hk : K ⟨h.size, 0, none⟩ (h.push o)) : alV h o K := hk
theorem notInA {x : Nat} : ¬ InA none x := by
  rintro ⟨_, h, _⟩; cases h
end Go.Proofs.Ytjelnknmjhceiaa
