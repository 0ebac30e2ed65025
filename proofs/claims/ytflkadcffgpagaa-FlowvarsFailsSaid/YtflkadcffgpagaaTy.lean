/-
  Printed by wip/tool/types.py: records of the struct types that laws take; what their cells are, and that every argument reads as one.
-/
import Derived.Test.YtflkadcffgpagaaArgs
import Derived.Test.YtflkadcffgpagaaG1
namespace Go.Proofs.Ytflkadcffgpagaa
set_option linter.unusedSimpArgs false
set_option linter.unusedVariables false
set_option maxRecDepth 20000
open Go
structure S_api_FlowOp where
  Op : Int
  Name : List UInt8
def S_api_FlowOp.vals (r : S_api_FlowOp) : List Go.Value := [.int .i64 r.Op, .string (bs r.Name)]
structure S_api_FlowOp.ok (h : Heap) (r : S_api_FlowOp) : Prop where
  k0 : (kOk .i64) h r.Op
  k1 : sOk h r.Name
theorem S_api_FlowOp.ok_fr (h h' : Heap) (r : S_api_FlowOp) (f : Fr (fun _ => False) h h') (o : S_api_FlowOp.ok h r) : S_api_FlowOp.ok h' r :=
  ⟨o.k0, o.k1⟩
section
open Go.ChangeShapes Go.WideShapes Go.ChangeAt Go.RowKit
variable {H : Type} {enc : TypeId × Go.Value → H} {w : World}
set_option maxRecDepth 100000 in
theorem S_api_FlowOp.op : Opens enc Try.prog w T_api_FlowOp S_api_FlowOp.vals S_api_FlowOp.ok := fun fuel cs x h => by
  obtain ⟨xs, n, rfl, hx, hl, hxl, hf⟩ := DataW.trod_struct Try.underlying36 h
  rw [show Try.prog.cellsOf 36 = 2 from by kernel_rfl] at hl
  match xs, hxl, cs, hl with
  | [y0, y1], _, [v0, v1], _ =>
    have g0 : DataW.trod enc Try.prog w 0 (fun _ => true) true n 3 (([v0, v1].drop 0).take (Try.prog.cellsOf 3)) = some y0 := hf 0 _ rfl
    rw [show Try.prog.cellsOf 3 = 1 from by kernel_rfl] at g0
    obtain ⟨z0, e0, o0⟩ := ((op_int Try.underlying3) : Opens enc Try.prog w 3 (fun n : Int => [Go.Value.int .i64 n]) (kOk .i64)) _ _ _ g0
    have g1 : DataW.trod enc Try.prog w 0 (fun _ => true) true n 9 (([v0, v1].drop 1).take (Try.prog.cellsOf 9)) = some y1 := hf 1 _ rfl
    rw [show Try.prog.cellsOf 9 = 1 from by kernel_rfl] at g1
    obtain ⟨z1, e1, o1⟩ := ((op_str Try.underlying9) : Opens enc Try.prog w 9 (fun l : List UInt8 => [Go.Value.string (bs l)]) sOk) _ _ _ g1
    obtain rfl := List.head_eq_of_cons_eq e0
    obtain rfl := List.head_eq_of_cons_eq e1
    exact ⟨⟨z0, z1⟩, rfl, ⟨o0, o1⟩⟩
end
structure S_intrusionlaw48_Call where
  Kind : Int
  Dir : Int
  Ops : Sl S_api_FlowOp
def S_intrusionlaw48_Call.vals (r : S_intrusionlaw48_Call) : List Go.Value := [.int .i64 r.Kind, .int .i64 r.Dir, .slice r.Ops.p r.Ops.xs.length r.Ops.cap]
structure S_intrusionlaw48_Call.ok (h : Heap) (r : S_intrusionlaw48_Call) : Prop where
  k0 : (kOk .i64) h r.Kind
  k1 : (kOk .i64) h r.Dir
  k2 : (SlOk 2 S_api_FlowOp.vals S_api_FlowOp.ok) h r.Ops
theorem S_intrusionlaw48_Call.ok_fr (h h' : Heap) (r : S_intrusionlaw48_Call) (f : Fr (fun _ => False) h h') (o : S_intrusionlaw48_Call.ok h r) : S_intrusionlaw48_Call.ok h' r :=
  ⟨o.k0, o.k1, (fr_sl S_api_FlowOp.ok_fr) _ _ _ f o.k2⟩
section
open Go.ChangeShapes Go.WideShapes Go.ChangeAt Go.RowKit
variable {H : Type} {enc : TypeId × Go.Value → H} {w : World}
set_option maxRecDepth 100000 in
theorem S_intrusionlaw48_Call.op : Opens enc Try.prog w T_intrusionlaw48_Call S_intrusionlaw48_Call.vals S_intrusionlaw48_Call.ok := fun fuel cs x h => by
  obtain ⟨xs, n, rfl, hx, hl, hxl, hf⟩ := DataW.trod_struct Try.underlying33 h
  rw [show Try.prog.cellsOf 33 = 3 from by kernel_rfl] at hl
  match xs, hxl, cs, hl with
  | [y0, y1, y2], _, [v0, v1, v2], _ =>
    have g0 : DataW.trod enc Try.prog w 0 (fun _ => true) true n 3 (([v0, v1, v2].drop 0).take (Try.prog.cellsOf 3)) = some y0 := hf 0 _ rfl
    rw [show Try.prog.cellsOf 3 = 1 from by kernel_rfl] at g0
    obtain ⟨z0, e0, o0⟩ := ((op_int Try.underlying3) : Opens enc Try.prog w 3 (fun n : Int => [Go.Value.int .i64 n]) (kOk .i64)) _ _ _ g0
    have g1 : DataW.trod enc Try.prog w 0 (fun _ => true) true n 3 (([v0, v1, v2].drop 1).take (Try.prog.cellsOf 3)) = some y1 := hf 1 _ rfl
    rw [show Try.prog.cellsOf 3 = 1 from by kernel_rfl] at g1
    obtain ⟨z1, e1, o1⟩ := ((op_int Try.underlying3) : Opens enc Try.prog w 3 (fun n : Int => [Go.Value.int .i64 n]) (kOk .i64)) _ _ _ g1
    have g2 : DataW.trod enc Try.prog w 0 (fun _ => true) true n 31 (([v0, v1, v2].drop 2).take (Try.prog.cellsOf 31)) = some y2 := hf 2 _ rfl
    rw [show Try.prog.cellsOf 31 = 1 from by kernel_rfl] at g2
    obtain ⟨z2, e2, o2⟩ := ((op_sl Try.underlying31 (by kernel_rfl) (fun _ => rfl) S_api_FlowOp.op) : Opens enc Try.prog w 31 (fun s : Sl S_api_FlowOp => [s.v]) (SlOk 2 S_api_FlowOp.vals S_api_FlowOp.ok)) _ _ _ g2
    obtain rfl := List.head_eq_of_cons_eq e0
    obtain rfl := List.head_eq_of_cons_eq e1
    obtain rfl := List.head_eq_of_cons_eq e2
    exact ⟨⟨z0, z1, z2⟩, rfl, ⟨o0, o1, o2⟩⟩
end
end Go.Proofs.Ytflkadcffgpagaa
