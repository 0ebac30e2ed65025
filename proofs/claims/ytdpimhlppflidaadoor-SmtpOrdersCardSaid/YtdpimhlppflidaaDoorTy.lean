/-
  Printed by wip/tool/types.py: records of the struct types that laws take; what their cells are, and that every argument reads as one.
-/
import Derived.Test.YtdpimhlppflidaaDoorArgs
import Derived.Test.YtdpimhlppflidaaDoorG1
namespace Go.Proofs.YtdpimhlppflidaaDoor
set_option linter.unusedSimpArgs false
set_option linter.unusedVariables false
set_option maxRecDepth 20000
open Go
structure S_intrusionlaw30_Part where
  Dir : Int
  S : List UInt8
def S_intrusionlaw30_Part.vals (r : S_intrusionlaw30_Part) : List Go.Value := [.int .i64 r.Dir, .string (bs r.S)]
structure S_intrusionlaw30_Part.ok (h : Heap) (r : S_intrusionlaw30_Part) : Prop where
  k0 : (kOk .i64) h r.Dir
  k1 : sOk h r.S
theorem S_intrusionlaw30_Part.ok_fr (h h' : Heap) (r : S_intrusionlaw30_Part) (f : Fr (fun _ => False) h h') (o : S_intrusionlaw30_Part.ok h r) : S_intrusionlaw30_Part.ok h' r :=
  ⟨o.k0, o.k1⟩
section
open Go.ChangeShapes Go.WideShapes Go.ChangeAt Go.RowKit
variable {H : Type} {enc : TypeId × Go.Value → H} {w : World}
set_option maxRecDepth 100000 in
theorem S_intrusionlaw30_Part.op : Opens enc Tryd.prog w T_intrusionlaw30_Part S_intrusionlaw30_Part.vals S_intrusionlaw30_Part.ok := fun fuel cs x h => by
  obtain ⟨xs, n, rfl, hx, hl, hxl, hf⟩ := DataW.trod_struct Tryd.underlying33 h
  rw [show Tryd.prog.cellsOf 33 = 2 from by kernel_rfl] at hl
  match xs, hxl, cs, hl with
  | [y0, y1], _, [v0, v1], _ =>
    have g0 : DataW.trod enc Tryd.prog w 0 (fun _ => true) true n 3 (([v0, v1].drop 0).take (Tryd.prog.cellsOf 3)) = some y0 := hf 0 _ rfl
    rw [show Tryd.prog.cellsOf 3 = 1 from by kernel_rfl] at g0
    obtain ⟨z0, e0, o0⟩ := ((op_int Tryd.underlying3) : Opens enc Tryd.prog w 3 (fun n : Int => [Go.Value.int .i64 n]) (kOk .i64)) _ _ _ g0
    have g1 : DataW.trod enc Tryd.prog w 0 (fun _ => true) true n 9 (([v0, v1].drop 1).take (Tryd.prog.cellsOf 9)) = some y1 := hf 1 _ rfl
    rw [show Tryd.prog.cellsOf 9 = 1 from by kernel_rfl] at g1
    obtain ⟨z1, e1, o1⟩ := ((op_str Tryd.underlying9) : Opens enc Tryd.prog w 9 (fun l : List UInt8 => [Go.Value.string (bs l)]) sOk) _ _ _ g1
    obtain rfl := List.head_eq_of_cons_eq e0
    obtain rfl := List.head_eq_of_cons_eq e1
    exact ⟨⟨z0, z1⟩, rfl, ⟨o0, o1⟩⟩
end
structure S_api_SmtpEvent where
  Kind : Int
  Dir : Int
  Name : List UInt8
  Text : List UInt8
def S_api_SmtpEvent.vals (r : S_api_SmtpEvent) : List Go.Value := [.int .i64 r.Kind, .int .i64 r.Dir, .string (bs r.Name), .string (bs r.Text)]
structure S_api_SmtpEvent.ok (h : Heap) (r : S_api_SmtpEvent) : Prop where
  k0 : (kOk .i64) h r.Kind
  k1 : (kOk .i64) h r.Dir
  k2 : sOk h r.Name
  k3 : sOk h r.Text
theorem S_api_SmtpEvent.ok_fr (h h' : Heap) (r : S_api_SmtpEvent) (f : Fr (fun _ => False) h h') (o : S_api_SmtpEvent.ok h r) : S_api_SmtpEvent.ok h' r :=
  ⟨o.k0, o.k1, o.k2, o.k3⟩
section
open Go.ChangeShapes Go.WideShapes Go.ChangeAt Go.RowKit
variable {H : Type} {enc : TypeId × Go.Value → H} {w : World}
set_option maxRecDepth 100000 in
theorem S_api_SmtpEvent.op : Opens enc Tryd.prog w T_api_SmtpEvent S_api_SmtpEvent.vals S_api_SmtpEvent.ok := fun fuel cs x h => by
  obtain ⟨xs, n, rfl, hx, hl, hxl, hf⟩ := DataW.trod_struct Tryd.underlying41 h
  rw [show Tryd.prog.cellsOf 41 = 4 from by kernel_rfl] at hl
  match xs, hxl, cs, hl with
  | [y0, y1, y2, y3], _, [v0, v1, v2, v3], _ =>
    have g0 : DataW.trod enc Tryd.prog w 0 (fun _ => true) true n 3 (([v0, v1, v2, v3].drop 0).take (Tryd.prog.cellsOf 3)) = some y0 := hf 0 _ rfl
    rw [show Tryd.prog.cellsOf 3 = 1 from by kernel_rfl] at g0
    obtain ⟨z0, e0, o0⟩ := ((op_int Tryd.underlying3) : Opens enc Tryd.prog w 3 (fun n : Int => [Go.Value.int .i64 n]) (kOk .i64)) _ _ _ g0
    have g1 : DataW.trod enc Tryd.prog w 0 (fun _ => true) true n 3 (([v0, v1, v2, v3].drop 1).take (Tryd.prog.cellsOf 3)) = some y1 := hf 1 _ rfl
    rw [show Tryd.prog.cellsOf 3 = 1 from by kernel_rfl] at g1
    obtain ⟨z1, e1, o1⟩ := ((op_int Tryd.underlying3) : Opens enc Tryd.prog w 3 (fun n : Int => [Go.Value.int .i64 n]) (kOk .i64)) _ _ _ g1
    have g2 : DataW.trod enc Tryd.prog w 0 (fun _ => true) true n 9 (([v0, v1, v2, v3].drop 2).take (Tryd.prog.cellsOf 9)) = some y2 := hf 2 _ rfl
    rw [show Tryd.prog.cellsOf 9 = 1 from by kernel_rfl] at g2
    obtain ⟨z2, e2, o2⟩ := ((op_str Tryd.underlying9) : Opens enc Tryd.prog w 9 (fun l : List UInt8 => [Go.Value.string (bs l)]) sOk) _ _ _ g2
    have g3 : DataW.trod enc Tryd.prog w 0 (fun _ => true) true n 9 (([v0, v1, v2, v3].drop 3).take (Tryd.prog.cellsOf 9)) = some y3 := hf 3 _ rfl
    rw [show Tryd.prog.cellsOf 9 = 1 from by kernel_rfl] at g3
    obtain ⟨z3, e3, o3⟩ := ((op_str Tryd.underlying9) : Opens enc Tryd.prog w 9 (fun l : List UInt8 => [Go.Value.string (bs l)]) sOk) _ _ _ g3
    obtain rfl := List.head_eq_of_cons_eq e0
    obtain rfl := List.head_eq_of_cons_eq e1
    obtain rfl := List.head_eq_of_cons_eq e2
    obtain rfl := List.head_eq_of_cons_eq e3
    exact ⟨⟨z0, z1, z2, z3⟩, rfl, ⟨o0, o1, o2, o3⟩⟩
end
end Go.Proofs.YtdpimhlppflidaaDoor
