/-
  What simp needs to walk a printed condition over a heap of which blocks are known.
-/
import Derived.Test.YtjelnknmjhceiaaStr
namespace Go.Proofs.Ytjelnknmjhceiaa
set_option linter.unusedSimpArgs false
set_option linter.unusedVariables false
set_option maxRecDepth 20000
open Go
def objSet (o : Nat) (v : Value) : Obj → Obj
  | .cells cs t fr => .cells (cs.setIfInBounds o v) t fr
  | x => x
theorem objSet_cells (o : Nat) (v : Value) (cs : Array Value) (t : TypeId) (fr : Nat × Nat) : objSet o v (.cells cs t fr) = .cells (cs.setIfInBounds o v) t fr := rfl
theorem hset_get (h : Heap) (b o : Nat) (v : Value) (c : Nat) : (hset h ⟨b, o, none⟩ v)[c]? = if b = c then (h[c]?).map (objSet o v) else h[c]? := by
  unfold hset
  rw [Array.getElem?_modify]
  have e : (fun (x : Obj) => match x with
      | .cells c elem frozen => Obj.cells (if (none : Option Nat).isSome then c else c.setIfInBounds o v) elem frozen
      | o => o) = objSet o v := by
    funext x; cases x <;> rfl
  simp only [e]
  split <;> rfl
theorem hset_size (h : Heap) (a : Addr) (v : Value) : (hset h a v).size = h.size := by simp [hset]
theorem hcell_mk (h : Heap) (b o : Nat) : hcell h ⟨b, o, none⟩ = match h[b]? with | some (.cells c _ _) => c[o]? | _ => none := by
  unfold hcell; simp only [Option.isSome_none]; rfl
theorem hfrozen_mk (h : Heap) (b o : Nat) : hfrozen h ⟨b, o, none⟩ = match h[b]? with | some (.cells _ _ (lo, hi)) => decide (lo ≤ o) && decide (o < hi) | _ => false := rfl
theorem Fr.hset {S : Nat → Prop} (h : Heap) {b o : Nat} {v : Value} (hb : S b) : Fr S h (hset h ⟨b, o, none⟩ v) :=
  ⟨by rw [hset_size]; exact Nat.le_refl _, fun c _ hn => by rw [hset_get, if_neg]; rintro rfl; exact hn hb⟩
theorem Fr.hset' {S : Nat → Prop} {h h' : Heap} (f : Fr S h h') {b o : Nat} {v : Value} (hb : S b ∨ h.size ≤ b) : Fr S h (Go.Proofs.Ytjelnknmjhceiaa.hset h' ⟨b, o, none⟩ v) :=
  ⟨by rw [hset_size]; exact f.size, fun c hc hn => by
    rw [hset_get, if_neg]
    · exact f.same c hc hn
    · rintro rfl
      rcases hb with hb | hb
      · exact hn hb
      · omega⟩
theorem Fr.push' {S : Nat → Prop} {h h' : Heap} (f : Fr S h h') (o : Obj) : Fr S h (h'.push o) := f.trans (Fr.push _ _ _)
theorem push_get (h : Heap) (o : Obj) (c : Nat) : (h.push o)[c]? = if c = h.size then some o else h[c]? := Array.getElem?_push
end Go.Proofs.Ytjelnknmjhceiaa
