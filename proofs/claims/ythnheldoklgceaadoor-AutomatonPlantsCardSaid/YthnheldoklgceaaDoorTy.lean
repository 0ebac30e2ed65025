/-
  Printed by wip/tool/types.py: records of the struct types that laws take; what their cells are, and that every argument reads as one.
-/
import Derived.Test.YthnheldoklgceaaDoorArgs
import Derived.Test.YthnheldoklgceaaDoorG1
namespace Go.Proofs.YthnheldoklgceaaDoor
set_option linter.unusedSimpArgs false
set_option linter.unusedVariables false
set_option maxRecDepth 20000
open Go
structure S_api_Pattern where
  Text : List UInt8
  Nocase : Bool
def S_api_Pattern.vals (r : S_api_Pattern) : List Go.Value := [.string (bs r.Text), .bool r.Nocase]
structure S_api_Pattern.ok (h : Heap) (r : S_api_Pattern) : Prop where
  k0 : sOk h r.Text
  k1 : bOk h r.Nocase
theorem S_api_Pattern.ok_fr (h h' : Heap) (r : S_api_Pattern) (f : Fr (fun _ => False) h h') (o : S_api_Pattern.ok h r) : S_api_Pattern.ok h' r :=
  ⟨o.k0, o.k1⟩
section
open Go.ChangeShapes Go.WideShapes Go.ChangeAt Go.RowKit
variable {H : Type} {enc : TypeId × Go.Value → H} {w : World}
set_option maxRecDepth 100000 in
theorem S_api_Pattern.op : Opens enc Tryd.prog w T_api_Pattern S_api_Pattern.vals S_api_Pattern.ok := fun fuel cs x h => by
  obtain ⟨xs, n, rfl, hx, hl, hxl, hf⟩ := DataW.trod_struct Tryd.underlying30 h
  rw [show Tryd.prog.cellsOf 30 = 2 from by kernel_rfl] at hl
  match xs, hxl, cs, hl with
  | [y0, y1], _, [v0, v1], _ =>
    have g0 : DataW.trod enc Tryd.prog w 0 (fun _ => true) true n 9 (([v0, v1].drop 0).take (Tryd.prog.cellsOf 9)) = some y0 := hf 0 _ rfl
    rw [show Tryd.prog.cellsOf 9 = 1 from by kernel_rfl] at g0
    obtain ⟨z0, e0, o0⟩ := ((op_str Tryd.underlying9) : Opens enc Tryd.prog w 9 (fun l : List UInt8 => [Go.Value.string (bs l)]) sOk) _ _ _ g0
    have g1 : DataW.trod enc Tryd.prog w 0 (fun _ => true) true n 4 (([v0, v1].drop 1).take (Tryd.prog.cellsOf 4)) = some y1 := hf 1 _ rfl
    rw [show Tryd.prog.cellsOf 4 = 1 from by kernel_rfl] at g1
    obtain ⟨z1, e1, o1⟩ := ((op_bool Tryd.underlying4) : Opens enc Tryd.prog w 4 (fun n : Bool => [Go.Value.bool n]) bOk) _ _ _ g1
    obtain rfl := List.head_eq_of_cons_eq e0
    obtain rfl := List.head_eq_of_cons_eq e1
    exact ⟨⟨z0, z1⟩, rfl, ⟨o0, o1⟩⟩
end
end Go.Proofs.YthnheldoklgceaaDoor
