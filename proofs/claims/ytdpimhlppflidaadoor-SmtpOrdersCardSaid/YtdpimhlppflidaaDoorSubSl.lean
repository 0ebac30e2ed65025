/-
  A part of a slice of data.
-/
import Derived.Test.YtdpimhlppflidaaDoorRow
namespace Go.Proofs.YtdpimhlppflidaaDoor
set_option linter.unusedSimpArgs false
set_option linter.unusedVariables false
set_option maxRecDepth 20000
open Go
theorem sub_sl {α : Type} {sz : Nat} {vals : α → List Value} {ok : Heap → α → Prop} {h : Heap} {s : Sl α} (o : SlOk sz vals ok h s) {l u : Int} (lo hi : Nat) (el : l = lo) (eu : u = hi) (h1 : lo ≤ hi) (h2 : hi ≤ s.xs.length) {K : Option Addr → Nat → Nat → Prop}
    (hk : ∀ p', SlOk sz vals ok h ⟨p', s.cap - lo, (s.xs.drop lo).take (hi - lo)⟩ → K p' ((s.xs.drop lo).take (hi - lo)).length (s.cap - lo)) : sliceSl sz s.p s.xs.length s.cap (some l) (some u) none K := by
  subst el eu
  have hle := o.len
  have hn : ((s.xs.drop lo).take (hi - lo)).length = hi - lo := by rw [List.length_take, List.length_drop]; omega
  refine ⟨by omega, by omega, by omega, ?_⟩
  rw [hn] at hk
  rw [Int.toNat_natCast, Int.toNat_natCast]
  refine hk _ ⟨by show ((s.xs.drop lo).take (hi - lo)).length ≤ s.cap - lo; rw [hn]; omega, by show ((s.xs.drop lo).take (hi - lo)).length ≤ _; rw [hn]; have := o.cap; omega, fun i hi' => ?_⟩
  have hi'' : i < hi - lo := by rw [← hn]; exact hi'
  obtain ⟨ad, hp, c, ho⟩ := o.at_ (lo + i) (by omega)
  have e : ((s.xs.drop lo).take (hi - lo))[i]'hi' = s.xs[lo + i]'(by omega) := by rw [List.getElem_take, List.getElem_drop]
  refine ⟨ad.add (lo * sz), by show (if s.cap = lo then s.p else _) = _; rw [if_neg (show ¬ s.cap = lo by omega), hp]; rfl, ?_, ?_⟩
  · show Cells h ((ad.add (lo * sz)).add (i * sz)) (vals (((s.xs.drop lo).take (hi - lo))[i]'hi'))
    rw [e, add_add, ← Nat.add_mul]; exact c
  · show ok h (((s.xs.drop lo).take (hi - lo))[i]'hi')
    rw [e]; exact ho
end Go.Proofs.YtdpimhlppflidaaDoor
