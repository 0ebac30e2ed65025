/-
  From a contract over heaps to what a row asks of a call.
-/
import Derived.Test.YtjelnknmjhceiaaVcDraw
import Derived.Test.YtjelnknmjhceiaaHeap
import Derived.Below
namespace Go.Proofs.Ytjelnknmjhceiaa
set_option linter.unusedSimpArgs false
set_option linter.unusedVariables false
set_option maxRecDepth 20000
open Go Go.RowKit
theorem calls_of_callT [Gh] {P : Program} {f : FuncId} {args : Array Value} {w : World} {K : Value → Heap → Prop} (hs : Sm w) (hc : (callFunc f args).run P w = .ok (.enter f args) w)
    (h : CallT P f args w.heap K) : Calls P f args w fun e w' => ∃ v, e = .returned v ∧ K v w'.heap ∧ Sm w' := by
  have := h w rfl hs
  rw [hc] at this
  exact this
theorem below_of {w w' : World} (hs : @Sm ⟨w⟩ w') (f : Fr (fun _ => False) w.heap w'.heap) : Below w.heap.size w w' :=
  ⟨hs.1, hs.2.1, hs.2.2, f.size, fun k hk => f.same k hk id⟩
/-- A law's call: it returns true, and turns nothing that was there. -/
theorem law_calls {P : Program} {f : FuncId} {args : Array Value} {w : World} (hc : ∀ w : World, (callFunc f args).run P w = .ok (.enter f args) w)
    (h : [Gh] → ∀ Q : Value → Heap → Prop, (∀ h', Fr (fun _ => False) w.heap h' → Q (.bool true) h') → CallT P f args w.heap Q) :
    Calls P f args w fun e w' => e = .returned (.bool true) ∧ Below w.heap.size w w' := by
  letI : Gh := ⟨w⟩
  refine (calls_of_callT ⟨rfl, rfl, rfl⟩ (hc w) (h (fun v h' => v = .bool true ∧ Fr (fun _ => False) w.heap h') fun h' hf => ⟨rfl, hf⟩)).mono ?_
  rintro e w' ⟨v, rfl, ⟨rfl, hf⟩, hs⟩
  exact ⟨rfl, below_of hs hf⟩
end Go.Proofs.Ytjelnknmjhceiaa
