/-
  Printed by wip/tool/types.py: records of the struct types that laws take; what their cells are, and that every argument reads as one.
-/
import Derived.Test.YtjelnknmjhceiaaArgs
import Derived.Test.YtjelnknmjhceiaaG1
namespace Go.Proofs.Ytjelnknmjhceiaa
set_option linter.unusedSimpArgs false
set_option linter.unusedVariables false
set_option maxRecDepth 20000
open Go
structure S_api_Addr where
  V6 : Bool
  Hi : Int
  Lo : Int
def S_api_Addr.vals (r : S_api_Addr) : List Go.Value := [.bool r.V6, .int .u64 r.Hi, .int .u64 r.Lo]
structure S_api_Addr.ok (h : Heap) (r : S_api_Addr) : Prop where
  k0 : bOk h r.V6
  k1 : (kOk .u64) h r.Hi
  k2 : (kOk .u64) h r.Lo
theorem S_api_Addr.ok_fr (h h' : Heap) (r : S_api_Addr) (f : Fr (fun _ => False) h h') (o : S_api_Addr.ok h r) : S_api_Addr.ok h' r :=
  ⟨o.k0, o.k1, o.k2⟩
section
open Go.ChangeShapes Go.WideShapes Go.ChangeAt Go.RowKit
variable {H : Type} {enc : TypeId × Go.Value → H} {w : World}
set_option maxRecDepth 100000 in
theorem S_api_Addr.op : Opens enc Try.prog w T_api_Addr S_api_Addr.vals S_api_Addr.ok := fun fuel cs x h => by
  obtain ⟨xs, n, rfl, hx, hl, hxl, hf⟩ := DataW.trod_struct Try.underlying90 h
  rw [show Try.prog.cellsOf 90 = 3 from by kernel_rfl] at hl
  match xs, hxl, cs, hl with
  | [y0, y1, y2], _, [v0, v1, v2], _ =>
    have g0 : DataW.trod enc Try.prog w 0 (fun _ => true) true n 4 (([v0, v1, v2].drop 0).take (Try.prog.cellsOf 4)) = some y0 := hf 0 _ rfl
    rw [show Try.prog.cellsOf 4 = 1 from by kernel_rfl] at g0
    obtain ⟨z0, e0, o0⟩ := ((op_bool Try.underlying4) : Opens enc Try.prog w 4 (fun n : Bool => [Go.Value.bool n]) bOk) _ _ _ g0
    have g1 : DataW.trod enc Try.prog w 0 (fun _ => true) true n 88 (([v0, v1, v2].drop 1).take (Try.prog.cellsOf 88)) = some y1 := hf 1 _ rfl
    rw [show Try.prog.cellsOf 88 = 1 from by kernel_rfl] at g1
    obtain ⟨z1, e1, o1⟩ := ((op_int Try.underlying88) : Opens enc Try.prog w 88 (fun n : Int => [Go.Value.int .u64 n]) (kOk .u64)) _ _ _ g1
    have g2 : DataW.trod enc Try.prog w 0 (fun _ => true) true n 88 (([v0, v1, v2].drop 2).take (Try.prog.cellsOf 88)) = some y2 := hf 2 _ rfl
    rw [show Try.prog.cellsOf 88 = 1 from by kernel_rfl] at g2
    obtain ⟨z2, e2, o2⟩ := ((op_int Try.underlying88) : Opens enc Try.prog w 88 (fun n : Int => [Go.Value.int .u64 n]) (kOk .u64)) _ _ _ g2
    obtain rfl := List.head_eq_of_cons_eq e0
    obtain rfl := List.head_eq_of_cons_eq e1
    obtain rfl := List.head_eq_of_cons_eq e2
    exact ⟨⟨z0, z1, z2⟩, rfl, ⟨o0, o1, o2⟩⟩
end
structure S_api_Prefix where
  Addr : S_api_Addr
  Bits : Int
def S_api_Prefix.vals (r : S_api_Prefix) : List Go.Value := [.bool r.Addr.V6, .int .u64 r.Addr.Hi, .int .u64 r.Addr.Lo, .int .i64 r.Bits]
structure S_api_Prefix.ok (h : Heap) (r : S_api_Prefix) : Prop where
  k0 : S_api_Addr.ok h r.Addr
  k1 : (kOk .i64) h r.Bits
theorem S_api_Prefix.ok_fr (h h' : Heap) (r : S_api_Prefix) (f : Fr (fun _ => False) h h') (o : S_api_Prefix.ok h r) : S_api_Prefix.ok h' r :=
  ⟨S_api_Addr.ok_fr _ _ _ f o.k0, o.k1⟩
section
open Go.ChangeShapes Go.WideShapes Go.ChangeAt Go.RowKit
variable {H : Type} {enc : TypeId × Go.Value → H} {w : World}
set_option maxRecDepth 100000 in
theorem S_api_Prefix.op : Opens enc Try.prog w T_api_Prefix S_api_Prefix.vals S_api_Prefix.ok := fun fuel cs x h => by
  obtain ⟨xs, n, rfl, hx, hl, hxl, hf⟩ := DataW.trod_struct Try.underlying92 h
  rw [show Try.prog.cellsOf 92 = 4 from by kernel_rfl] at hl
  match xs, hxl, cs, hl with
  | [y0, y1], _, [v0, v1, v2, v3], _ =>
    have g0 : DataW.trod enc Try.prog w 0 (fun _ => true) true n 90 (([v0, v1, v2, v3].drop 0).take (Try.prog.cellsOf 90)) = some y0 := hf 0 _ rfl
    rw [show Try.prog.cellsOf 90 = 3 from by kernel_rfl] at g0
    obtain ⟨z0, e0, o0⟩ := (S_api_Addr.op : Opens enc Try.prog w 90 S_api_Addr.vals S_api_Addr.ok) _ _ _ g0
    have g1 : DataW.trod enc Try.prog w 0 (fun _ => true) true n 3 (([v0, v1, v2, v3].drop 3).take (Try.prog.cellsOf 3)) = some y1 := hf 1 _ rfl
    rw [show Try.prog.cellsOf 3 = 1 from by kernel_rfl] at g1
    obtain ⟨z1, e1, o1⟩ := ((op_int Try.underlying3) : Opens enc Try.prog w 3 (fun n : Int => [Go.Value.int .i64 n]) (kOk .i64)) _ _ _ g1
    have e0 : [v0, v1, v2] = S_api_Addr.vals z0 := e0
    simp only [S_api_Addr.vals, List.cons.injEq, and_true] at e0
    obtain ⟨rfl, rfl, rfl⟩ := e0
    obtain rfl := List.head_eq_of_cons_eq e1
    exact ⟨⟨z0, z1⟩, rfl, ⟨o0, o1⟩⟩
end
structure S_api_AddrTerm where
  Not : Bool
  Var : List UInt8
  Prefix : S_api_Prefix
def S_api_AddrTerm.vals (r : S_api_AddrTerm) : List Go.Value := [.bool r.Not, .string (bs r.Var), .bool r.Prefix.Addr.V6, .int .u64 r.Prefix.Addr.Hi, .int .u64 r.Prefix.Addr.Lo, .int .i64 r.Prefix.Bits]
structure S_api_AddrTerm.ok (h : Heap) (r : S_api_AddrTerm) : Prop where
  k0 : bOk h r.Not
  k1 : sOk h r.Var
  k2 : S_api_Prefix.ok h r.Prefix
theorem S_api_AddrTerm.ok_fr (h h' : Heap) (r : S_api_AddrTerm) (f : Fr (fun _ => False) h h') (o : S_api_AddrTerm.ok h r) : S_api_AddrTerm.ok h' r :=
  ⟨o.k0, o.k1, S_api_Prefix.ok_fr _ _ _ f o.k2⟩
section
open Go.ChangeShapes Go.WideShapes Go.ChangeAt Go.RowKit
variable {H : Type} {enc : TypeId × Go.Value → H} {w : World}
set_option maxRecDepth 100000 in
theorem S_api_AddrTerm.op : Opens enc Try.prog w T_api_AddrTerm S_api_AddrTerm.vals S_api_AddrTerm.ok := fun fuel cs x h => by
  obtain ⟨xs, n, rfl, hx, hl, hxl, hf⟩ := DataW.trod_struct Try.underlying94 h
  rw [show Try.prog.cellsOf 94 = 6 from by kernel_rfl] at hl
  match xs, hxl, cs, hl with
  | [y0, y1, y2], _, [v0, v1, v2, v3, v4, v5], _ =>
    have g0 : DataW.trod enc Try.prog w 0 (fun _ => true) true n 4 (([v0, v1, v2, v3, v4, v5].drop 0).take (Try.prog.cellsOf 4)) = some y0 := hf 0 _ rfl
    rw [show Try.prog.cellsOf 4 = 1 from by kernel_rfl] at g0
    obtain ⟨z0, e0, o0⟩ := ((op_bool Try.underlying4) : Opens enc Try.prog w 4 (fun n : Bool => [Go.Value.bool n]) bOk) _ _ _ g0
    have g1 : DataW.trod enc Try.prog w 0 (fun _ => true) true n 9 (([v0, v1, v2, v3, v4, v5].drop 1).take (Try.prog.cellsOf 9)) = some y1 := hf 1 _ rfl
    rw [show Try.prog.cellsOf 9 = 1 from by kernel_rfl] at g1
    obtain ⟨z1, e1, o1⟩ := ((op_str Try.underlying9) : Opens enc Try.prog w 9 (fun l : List UInt8 => [Go.Value.string (bs l)]) sOk) _ _ _ g1
    have g2 : DataW.trod enc Try.prog w 0 (fun _ => true) true n 92 (([v0, v1, v2, v3, v4, v5].drop 2).take (Try.prog.cellsOf 92)) = some y2 := hf 2 _ rfl
    rw [show Try.prog.cellsOf 92 = 4 from by kernel_rfl] at g2
    obtain ⟨z2, e2, o2⟩ := (S_api_Prefix.op : Opens enc Try.prog w 92 S_api_Prefix.vals S_api_Prefix.ok) _ _ _ g2
    obtain rfl := List.head_eq_of_cons_eq e0
    obtain rfl := List.head_eq_of_cons_eq e1
    have e2 : [v2, v3, v4, v5] = S_api_Prefix.vals z2 := e2
    simp only [S_api_Prefix.vals, List.cons.injEq, and_true] at e2
    obtain ⟨rfl, rfl, rfl, rfl⟩ := e2
    exact ⟨⟨z0, z1, z2⟩, rfl, ⟨o0, o1, o2⟩⟩
end
structure S_api_PortTerm where
  Not : Bool
  Var : List UInt8
  Lo : Int
  Hi : Int
def S_api_PortTerm.vals (r : S_api_PortTerm) : List Go.Value := [.bool r.Not, .string (bs r.Var), .int .i64 r.Lo, .int .i64 r.Hi]
structure S_api_PortTerm.ok (h : Heap) (r : S_api_PortTerm) : Prop where
  k0 : bOk h r.Not
  k1 : sOk h r.Var
  k2 : (kOk .i64) h r.Lo
  k3 : (kOk .i64) h r.Hi
theorem S_api_PortTerm.ok_fr (h h' : Heap) (r : S_api_PortTerm) (f : Fr (fun _ => False) h h') (o : S_api_PortTerm.ok h r) : S_api_PortTerm.ok h' r :=
  ⟨o.k0, o.k1, o.k2, o.k3⟩
section
open Go.ChangeShapes Go.WideShapes Go.ChangeAt Go.RowKit
variable {H : Type} {enc : TypeId × Go.Value → H} {w : World}
set_option maxRecDepth 100000 in
theorem S_api_PortTerm.op : Opens enc Try.prog w T_api_PortTerm S_api_PortTerm.vals S_api_PortTerm.ok := fun fuel cs x h => by
  obtain ⟨xs, n, rfl, hx, hl, hxl, hf⟩ := DataW.trod_struct Try.underlying96 h
  rw [show Try.prog.cellsOf 96 = 4 from by kernel_rfl] at hl
  match xs, hxl, cs, hl with
  | [y0, y1, y2, y3], _, [v0, v1, v2, v3], _ =>
    have g0 : DataW.trod enc Try.prog w 0 (fun _ => true) true n 4 (([v0, v1, v2, v3].drop 0).take (Try.prog.cellsOf 4)) = some y0 := hf 0 _ rfl
    rw [show Try.prog.cellsOf 4 = 1 from by kernel_rfl] at g0
    obtain ⟨z0, e0, o0⟩ := ((op_bool Try.underlying4) : Opens enc Try.prog w 4 (fun n : Bool => [Go.Value.bool n]) bOk) _ _ _ g0
    have g1 : DataW.trod enc Try.prog w 0 (fun _ => true) true n 9 (([v0, v1, v2, v3].drop 1).take (Try.prog.cellsOf 9)) = some y1 := hf 1 _ rfl
    rw [show Try.prog.cellsOf 9 = 1 from by kernel_rfl] at g1
    obtain ⟨z1, e1, o1⟩ := ((op_str Try.underlying9) : Opens enc Try.prog w 9 (fun l : List UInt8 => [Go.Value.string (bs l)]) sOk) _ _ _ g1
    have g2 : DataW.trod enc Try.prog w 0 (fun _ => true) true n 3 (([v0, v1, v2, v3].drop 2).take (Try.prog.cellsOf 3)) = some y2 := hf 2 _ rfl
    rw [show Try.prog.cellsOf 3 = 1 from by kernel_rfl] at g2
    obtain ⟨z2, e2, o2⟩ := ((op_int Try.underlying3) : Opens enc Try.prog w 3 (fun n : Int => [Go.Value.int .i64 n]) (kOk .i64)) _ _ _ g2
    have g3 : DataW.trod enc Try.prog w 0 (fun _ => true) true n 3 (([v0, v1, v2, v3].drop 3).take (Try.prog.cellsOf 3)) = some y3 := hf 3 _ rfl
    rw [show Try.prog.cellsOf 3 = 1 from by kernel_rfl] at g3
    obtain ⟨z3, e3, o3⟩ := ((op_int Try.underlying3) : Opens enc Try.prog w 3 (fun n : Int => [Go.Value.int .i64 n]) (kOk .i64)) _ _ _ g3
    obtain rfl := List.head_eq_of_cons_eq e0
    obtain rfl := List.head_eq_of_cons_eq e1
    obtain rfl := List.head_eq_of_cons_eq e2
    obtain rfl := List.head_eq_of_cons_eq e3
    exact ⟨⟨z0, z1, z2, z3⟩, rfl, ⟨o0, o1, o2, o3⟩⟩
end
structure S_api_Content where
  Pattern : List UInt8
  Nocase : Bool
  Not : Bool
  Relative : Bool
  Offset : Int
  Depth : Int
  Fast : Bool
def S_api_Content.vals (r : S_api_Content) : List Go.Value := [.string (bs r.Pattern), .bool r.Nocase, .bool r.Not, .bool r.Relative, .int .i64 r.Offset, .int .i64 r.Depth, .bool r.Fast]
structure S_api_Content.ok (h : Heap) (r : S_api_Content) : Prop where
  k0 : sOk h r.Pattern
  k1 : bOk h r.Nocase
  k2 : bOk h r.Not
  k3 : bOk h r.Relative
  k4 : (kOk .i64) h r.Offset
  k5 : (kOk .i64) h r.Depth
  k6 : bOk h r.Fast
theorem S_api_Content.ok_fr (h h' : Heap) (r : S_api_Content) (f : Fr (fun _ => False) h h') (o : S_api_Content.ok h r) : S_api_Content.ok h' r :=
  ⟨o.k0, o.k1, o.k2, o.k3, o.k4, o.k5, o.k6⟩
section
open Go.ChangeShapes Go.WideShapes Go.ChangeAt Go.RowKit
variable {H : Type} {enc : TypeId × Go.Value → H} {w : World}
set_option maxRecDepth 100000 in
theorem S_api_Content.op : Opens enc Try.prog w T_api_Content S_api_Content.vals S_api_Content.ok := fun fuel cs x h => by
  obtain ⟨xs, n, rfl, hx, hl, hxl, hf⟩ := DataW.trod_struct Try.underlying51 h
  rw [show Try.prog.cellsOf 51 = 7 from by kernel_rfl] at hl
  match xs, hxl, cs, hl with
  | [y0, y1, y2, y3, y4, y5, y6], _, [v0, v1, v2, v3, v4, v5, v6], _ =>
    have g0 : DataW.trod enc Try.prog w 0 (fun _ => true) true n 9 (([v0, v1, v2, v3, v4, v5, v6].drop 0).take (Try.prog.cellsOf 9)) = some y0 := hf 0 _ rfl
    rw [show Try.prog.cellsOf 9 = 1 from by kernel_rfl] at g0
    obtain ⟨z0, e0, o0⟩ := ((op_str Try.underlying9) : Opens enc Try.prog w 9 (fun l : List UInt8 => [Go.Value.string (bs l)]) sOk) _ _ _ g0
    have g1 : DataW.trod enc Try.prog w 0 (fun _ => true) true n 4 (([v0, v1, v2, v3, v4, v5, v6].drop 1).take (Try.prog.cellsOf 4)) = some y1 := hf 1 _ rfl
    rw [show Try.prog.cellsOf 4 = 1 from by kernel_rfl] at g1
    obtain ⟨z1, e1, o1⟩ := ((op_bool Try.underlying4) : Opens enc Try.prog w 4 (fun n : Bool => [Go.Value.bool n]) bOk) _ _ _ g1
    have g2 : DataW.trod enc Try.prog w 0 (fun _ => true) true n 4 (([v0, v1, v2, v3, v4, v5, v6].drop 2).take (Try.prog.cellsOf 4)) = some y2 := hf 2 _ rfl
    rw [show Try.prog.cellsOf 4 = 1 from by kernel_rfl] at g2
    obtain ⟨z2, e2, o2⟩ := ((op_bool Try.underlying4) : Opens enc Try.prog w 4 (fun n : Bool => [Go.Value.bool n]) bOk) _ _ _ g2
    have g3 : DataW.trod enc Try.prog w 0 (fun _ => true) true n 4 (([v0, v1, v2, v3, v4, v5, v6].drop 3).take (Try.prog.cellsOf 4)) = some y3 := hf 3 _ rfl
    rw [show Try.prog.cellsOf 4 = 1 from by kernel_rfl] at g3
    obtain ⟨z3, e3, o3⟩ := ((op_bool Try.underlying4) : Opens enc Try.prog w 4 (fun n : Bool => [Go.Value.bool n]) bOk) _ _ _ g3
    have g4 : DataW.trod enc Try.prog w 0 (fun _ => true) true n 3 (([v0, v1, v2, v3, v4, v5, v6].drop 4).take (Try.prog.cellsOf 3)) = some y4 := hf 4 _ rfl
    rw [show Try.prog.cellsOf 3 = 1 from by kernel_rfl] at g4
    obtain ⟨z4, e4, o4⟩ := ((op_int Try.underlying3) : Opens enc Try.prog w 3 (fun n : Int => [Go.Value.int .i64 n]) (kOk .i64)) _ _ _ g4
    have g5 : DataW.trod enc Try.prog w 0 (fun _ => true) true n 3 (([v0, v1, v2, v3, v4, v5, v6].drop 5).take (Try.prog.cellsOf 3)) = some y5 := hf 5 _ rfl
    rw [show Try.prog.cellsOf 3 = 1 from by kernel_rfl] at g5
    obtain ⟨z5, e5, o5⟩ := ((op_int Try.underlying3) : Opens enc Try.prog w 3 (fun n : Int => [Go.Value.int .i64 n]) (kOk .i64)) _ _ _ g5
    have g6 : DataW.trod enc Try.prog w 0 (fun _ => true) true n 4 (([v0, v1, v2, v3, v4, v5, v6].drop 6).take (Try.prog.cellsOf 4)) = some y6 := hf 6 _ rfl
    rw [show Try.prog.cellsOf 4 = 1 from by kernel_rfl] at g6
    obtain ⟨z6, e6, o6⟩ := ((op_bool Try.underlying4) : Opens enc Try.prog w 4 (fun n : Bool => [Go.Value.bool n]) bOk) _ _ _ g6
    obtain rfl := List.head_eq_of_cons_eq e0
    obtain rfl := List.head_eq_of_cons_eq e1
    obtain rfl := List.head_eq_of_cons_eq e2
    obtain rfl := List.head_eq_of_cons_eq e3
    obtain rfl := List.head_eq_of_cons_eq e4
    obtain rfl := List.head_eq_of_cons_eq e5
    obtain rfl := List.head_eq_of_cons_eq e6
    exact ⟨⟨z0, z1, z2, z3, z4, z5, z6⟩, rfl, ⟨o0, o1, o2, o3, o4, o5, o6⟩⟩
end
structure S_api_Test where
  Op : Int
  Size : Int
  Value : Int
  Offset : Int
  Relative : Bool
  Little : Bool
  Not : Bool
def S_api_Test.vals (r : S_api_Test) : List Go.Value := [.int .i64 r.Op, .int .i64 r.Size, .int .i64 r.Value, .int .i64 r.Offset, .bool r.Relative, .bool r.Little, .bool r.Not]
structure S_api_Test.ok (h : Heap) (r : S_api_Test) : Prop where
  k0 : (kOk .i64) h r.Op
  k1 : (kOk .i64) h r.Size
  k2 : (kOk .i64) h r.Value
  k3 : (kOk .i64) h r.Offset
  k4 : bOk h r.Relative
  k5 : bOk h r.Little
  k6 : bOk h r.Not
theorem S_api_Test.ok_fr (h h' : Heap) (r : S_api_Test) (f : Fr (fun _ => False) h h') (o : S_api_Test.ok h r) : S_api_Test.ok h' r :=
  ⟨o.k0, o.k1, o.k2, o.k3, o.k4, o.k5, o.k6⟩
section
open Go.ChangeShapes Go.WideShapes Go.ChangeAt Go.RowKit
variable {H : Type} {enc : TypeId × Go.Value → H} {w : World}
set_option maxRecDepth 100000 in
theorem S_api_Test.op : Opens enc Try.prog w T_api_Test S_api_Test.vals S_api_Test.ok := fun fuel cs x h => by
  obtain ⟨xs, n, rfl, hx, hl, hxl, hf⟩ := DataW.trod_struct Try.underlying101 h
  rw [show Try.prog.cellsOf 101 = 7 from by kernel_rfl] at hl
  match xs, hxl, cs, hl with
  | [y0, y1, y2, y3, y4, y5, y6], _, [v0, v1, v2, v3, v4, v5, v6], _ =>
    have g0 : DataW.trod enc Try.prog w 0 (fun _ => true) true n 3 (([v0, v1, v2, v3, v4, v5, v6].drop 0).take (Try.prog.cellsOf 3)) = some y0 := hf 0 _ rfl
    rw [show Try.prog.cellsOf 3 = 1 from by kernel_rfl] at g0
    obtain ⟨z0, e0, o0⟩ := ((op_int Try.underlying3) : Opens enc Try.prog w 3 (fun n : Int => [Go.Value.int .i64 n]) (kOk .i64)) _ _ _ g0
    have g1 : DataW.trod enc Try.prog w 0 (fun _ => true) true n 3 (([v0, v1, v2, v3, v4, v5, v6].drop 1).take (Try.prog.cellsOf 3)) = some y1 := hf 1 _ rfl
    rw [show Try.prog.cellsOf 3 = 1 from by kernel_rfl] at g1
    obtain ⟨z1, e1, o1⟩ := ((op_int Try.underlying3) : Opens enc Try.prog w 3 (fun n : Int => [Go.Value.int .i64 n]) (kOk .i64)) _ _ _ g1
    have g2 : DataW.trod enc Try.prog w 0 (fun _ => true) true n 3 (([v0, v1, v2, v3, v4, v5, v6].drop 2).take (Try.prog.cellsOf 3)) = some y2 := hf 2 _ rfl
    rw [show Try.prog.cellsOf 3 = 1 from by kernel_rfl] at g2
    obtain ⟨z2, e2, o2⟩ := ((op_int Try.underlying3) : Opens enc Try.prog w 3 (fun n : Int => [Go.Value.int .i64 n]) (kOk .i64)) _ _ _ g2
    have g3 : DataW.trod enc Try.prog w 0 (fun _ => true) true n 3 (([v0, v1, v2, v3, v4, v5, v6].drop 3).take (Try.prog.cellsOf 3)) = some y3 := hf 3 _ rfl
    rw [show Try.prog.cellsOf 3 = 1 from by kernel_rfl] at g3
    obtain ⟨z3, e3, o3⟩ := ((op_int Try.underlying3) : Opens enc Try.prog w 3 (fun n : Int => [Go.Value.int .i64 n]) (kOk .i64)) _ _ _ g3
    have g4 : DataW.trod enc Try.prog w 0 (fun _ => true) true n 4 (([v0, v1, v2, v3, v4, v5, v6].drop 4).take (Try.prog.cellsOf 4)) = some y4 := hf 4 _ rfl
    rw [show Try.prog.cellsOf 4 = 1 from by kernel_rfl] at g4
    obtain ⟨z4, e4, o4⟩ := ((op_bool Try.underlying4) : Opens enc Try.prog w 4 (fun n : Bool => [Go.Value.bool n]) bOk) _ _ _ g4
    have g5 : DataW.trod enc Try.prog w 0 (fun _ => true) true n 4 (([v0, v1, v2, v3, v4, v5, v6].drop 5).take (Try.prog.cellsOf 4)) = some y5 := hf 5 _ rfl
    rw [show Try.prog.cellsOf 4 = 1 from by kernel_rfl] at g5
    obtain ⟨z5, e5, o5⟩ := ((op_bool Try.underlying4) : Opens enc Try.prog w 4 (fun n : Bool => [Go.Value.bool n]) bOk) _ _ _ g5
    have g6 : DataW.trod enc Try.prog w 0 (fun _ => true) true n 4 (([v0, v1, v2, v3, v4, v5, v6].drop 6).take (Try.prog.cellsOf 4)) = some y6 := hf 6 _ rfl
    rw [show Try.prog.cellsOf 4 = 1 from by kernel_rfl] at g6
    obtain ⟨z6, e6, o6⟩ := ((op_bool Try.underlying4) : Opens enc Try.prog w 4 (fun n : Bool => [Go.Value.bool n]) bOk) _ _ _ g6
    obtain rfl := List.head_eq_of_cons_eq e0
    obtain rfl := List.head_eq_of_cons_eq e1
    obtain rfl := List.head_eq_of_cons_eq e2
    obtain rfl := List.head_eq_of_cons_eq e3
    obtain rfl := List.head_eq_of_cons_eq e4
    obtain rfl := List.head_eq_of_cons_eq e5
    obtain rfl := List.head_eq_of_cons_eq e6
    exact ⟨⟨z0, z1, z2, z3, z4, z5, z6⟩, rfl, ⟨o0, o1, o2, o3, o4, o5, o6⟩⟩
end
structure S_api_FlowOp where
  Op : Int
  Name : List UInt8
def S_api_FlowOp.vals (r : S_api_FlowOp) : List Go.Value := [.int .i64 r.Op, .string (bs r.Name)]
structure S_api_FlowOp.ok (h : Heap) (r : S_api_FlowOp) : Prop where
  k0 : (kOk .i64) h r.Op
  k1 : sOk h r.Name
theorem S_api_FlowOp.ok_fr (h h' : Heap) (r : S_api_FlowOp) (f : Fr (fun _ => False) h h') (o : S_api_FlowOp.ok h r) : S_api_FlowOp.ok h' r :=
  ⟨o.k0, o.k1⟩
section
open Go.ChangeShapes Go.WideShapes Go.ChangeAt Go.RowKit
variable {H : Type} {enc : TypeId × Go.Value → H} {w : World}
set_option maxRecDepth 100000 in
theorem S_api_FlowOp.op : Opens enc Try.prog w T_api_FlowOp S_api_FlowOp.vals S_api_FlowOp.ok := fun fuel cs x h => by
  obtain ⟨xs, n, rfl, hx, hl, hxl, hf⟩ := DataW.trod_struct Try.underlying98 h
  rw [show Try.prog.cellsOf 98 = 2 from by kernel_rfl] at hl
  match xs, hxl, cs, hl with
  | [y0, y1], _, [v0, v1], _ =>
    have g0 : DataW.trod enc Try.prog w 0 (fun _ => true) true n 3 (([v0, v1].drop 0).take (Try.prog.cellsOf 3)) = some y0 := hf 0 _ rfl
    rw [show Try.prog.cellsOf 3 = 1 from by kernel_rfl] at g0
    obtain ⟨z0, e0, o0⟩ := ((op_int Try.underlying3) : Opens enc Try.prog w 3 (fun n : Int => [Go.Value.int .i64 n]) (kOk .i64)) _ _ _ g0
    have g1 : DataW.trod enc Try.prog w 0 (fun _ => true) true n 9 (([v0, v1].drop 1).take (Try.prog.cellsOf 9)) = some y1 := hf 1 _ rfl
    rw [show Try.prog.cellsOf 9 = 1 from by kernel_rfl] at g1
    obtain ⟨z1, e1, o1⟩ := ((op_str Try.underlying9) : Opens enc Try.prog w 9 (fun l : List UInt8 => [Go.Value.string (bs l)]) sOk) _ _ _ g1
    obtain rfl := List.head_eq_of_cons_eq e0
    obtain rfl := List.head_eq_of_cons_eq e1
    exact ⟨⟨z0, z1⟩, rfl, ⟨o0, o1⟩⟩
end
structure S_api_Threshold where
  Kind : Int
  By : Int
  Count : Int
  Seconds : Int
def S_api_Threshold.vals (r : S_api_Threshold) : List Go.Value := [.int .i64 r.Kind, .int .i64 r.By, .int .i64 r.Count, .int .i64 r.Seconds]
structure S_api_Threshold.ok (h : Heap) (r : S_api_Threshold) : Prop where
  k0 : (kOk .i64) h r.Kind
  k1 : (kOk .i64) h r.By
  k2 : (kOk .i64) h r.Count
  k3 : (kOk .i64) h r.Seconds
theorem S_api_Threshold.ok_fr (h h' : Heap) (r : S_api_Threshold) (f : Fr (fun _ => False) h h') (o : S_api_Threshold.ok h r) : S_api_Threshold.ok h' r :=
  ⟨o.k0, o.k1, o.k2, o.k3⟩
section
open Go.ChangeShapes Go.WideShapes Go.ChangeAt Go.RowKit
variable {H : Type} {enc : TypeId × Go.Value → H} {w : World}
set_option maxRecDepth 100000 in
theorem S_api_Threshold.op : Opens enc Try.prog w T_api_Threshold S_api_Threshold.vals S_api_Threshold.ok := fun fuel cs x h => by
  obtain ⟨xs, n, rfl, hx, hl, hxl, hf⟩ := DataW.trod_struct Try.underlying32 h
  rw [show Try.prog.cellsOf 32 = 4 from by kernel_rfl] at hl
  match xs, hxl, cs, hl with
  | [y0, y1, y2, y3], _, [v0, v1, v2, v3], _ =>
    have g0 : DataW.trod enc Try.prog w 0 (fun _ => true) true n 3 (([v0, v1, v2, v3].drop 0).take (Try.prog.cellsOf 3)) = some y0 := hf 0 _ rfl
    rw [show Try.prog.cellsOf 3 = 1 from by kernel_rfl] at g0
    obtain ⟨z0, e0, o0⟩ := ((op_int Try.underlying3) : Opens enc Try.prog w 3 (fun n : Int => [Go.Value.int .i64 n]) (kOk .i64)) _ _ _ g0
    have g1 : DataW.trod enc Try.prog w 0 (fun _ => true) true n 3 (([v0, v1, v2, v3].drop 1).take (Try.prog.cellsOf 3)) = some y1 := hf 1 _ rfl
    rw [show Try.prog.cellsOf 3 = 1 from by kernel_rfl] at g1
    obtain ⟨z1, e1, o1⟩ := ((op_int Try.underlying3) : Opens enc Try.prog w 3 (fun n : Int => [Go.Value.int .i64 n]) (kOk .i64)) _ _ _ g1
    have g2 : DataW.trod enc Try.prog w 0 (fun _ => true) true n 3 (([v0, v1, v2, v3].drop 2).take (Try.prog.cellsOf 3)) = some y2 := hf 2 _ rfl
    rw [show Try.prog.cellsOf 3 = 1 from by kernel_rfl] at g2
    obtain ⟨z2, e2, o2⟩ := ((op_int Try.underlying3) : Opens enc Try.prog w 3 (fun n : Int => [Go.Value.int .i64 n]) (kOk .i64)) _ _ _ g2
    have g3 : DataW.trod enc Try.prog w 0 (fun _ => true) true n 3 (([v0, v1, v2, v3].drop 3).take (Try.prog.cellsOf 3)) = some y3 := hf 3 _ rfl
    rw [show Try.prog.cellsOf 3 = 1 from by kernel_rfl] at g3
    obtain ⟨z3, e3, o3⟩ := ((op_int Try.underlying3) : Opens enc Try.prog w 3 (fun n : Int => [Go.Value.int .i64 n]) (kOk .i64)) _ _ _ g3
    obtain rfl := List.head_eq_of_cons_eq e0
    obtain rfl := List.head_eq_of_cons_eq e1
    obtain rfl := List.head_eq_of_cons_eq e2
    obtain rfl := List.head_eq_of_cons_eq e3
    exact ⟨⟨z0, z1, z2, z3⟩, rfl, ⟨o0, o1, o2, o3⟩⟩
end
structure S_api_Rule where
  Action : Int
  Proto : Int
  Src : Sl S_api_AddrTerm
  Dst : Sl S_api_AddrTerm
  SrcPorts : Sl S_api_PortTerm
  DstPorts : Sl S_api_PortTerm
  Both : Bool
  Sid : Int
  Rev : Int
  Priority : Int
  Msg : List UInt8
  Dir : Int
  Kind : Int
  Transforms : Sl Int
  Contents : Sl S_api_Content
  Tests : Sl S_api_Test
  Flow : Sl S_api_FlowOp
  Threshold : S_api_Threshold
def S_api_Rule.vals (r : S_api_Rule) : List Go.Value := [.int .i64 r.Action, .int .i64 r.Proto, .slice r.Src.p r.Src.xs.length r.Src.cap, .slice r.Dst.p r.Dst.xs.length r.Dst.cap, .slice r.SrcPorts.p r.SrcPorts.xs.length r.SrcPorts.cap, .slice r.DstPorts.p r.DstPorts.xs.length r.DstPorts.cap, .bool r.Both, .int .i64 r.Sid, .int .i64 r.Rev, .int .i64 r.Priority, .string (bs r.Msg), .int .i64 r.Dir, .int .i64 r.Kind, .slice r.Transforms.p r.Transforms.xs.length r.Transforms.cap, .slice r.Contents.p r.Contents.xs.length r.Contents.cap, .slice r.Tests.p r.Tests.xs.length r.Tests.cap, .slice r.Flow.p r.Flow.xs.length r.Flow.cap, .int .i64 r.Threshold.Kind, .int .i64 r.Threshold.By, .int .i64 r.Threshold.Count, .int .i64 r.Threshold.Seconds]
structure S_api_Rule.ok (h : Heap) (r : S_api_Rule) : Prop where
  k0 : (kOk .i64) h r.Action
  k1 : (kOk .i64) h r.Proto
  k2 : (SlOk 6 S_api_AddrTerm.vals S_api_AddrTerm.ok) h r.Src
  k3 : (SlOk 6 S_api_AddrTerm.vals S_api_AddrTerm.ok) h r.Dst
  k4 : (SlOk 4 S_api_PortTerm.vals S_api_PortTerm.ok) h r.SrcPorts
  k5 : (SlOk 4 S_api_PortTerm.vals S_api_PortTerm.ok) h r.DstPorts
  k6 : bOk h r.Both
  k7 : (kOk .i64) h r.Sid
  k8 : (kOk .i64) h r.Rev
  k9 : (kOk .i64) h r.Priority
  k10 : sOk h r.Msg
  k11 : (kOk .i64) h r.Dir
  k12 : (kOk .i64) h r.Kind
  k13 : (SlOk 1 (fun n : Int => [Go.Value.int .i64 n]) (kOk .i64)) h r.Transforms
  k14 : (SlOk 7 S_api_Content.vals S_api_Content.ok) h r.Contents
  k15 : (SlOk 7 S_api_Test.vals S_api_Test.ok) h r.Tests
  k16 : (SlOk 2 S_api_FlowOp.vals S_api_FlowOp.ok) h r.Flow
  k17 : S_api_Threshold.ok h r.Threshold
theorem S_api_Rule.ok_fr (h h' : Heap) (r : S_api_Rule) (f : Fr (fun _ => False) h h') (o : S_api_Rule.ok h r) : S_api_Rule.ok h' r :=
  ⟨o.k0, o.k1, (fr_sl S_api_AddrTerm.ok_fr) _ _ _ f o.k2, (fr_sl S_api_AddrTerm.ok_fr) _ _ _ f o.k3, (fr_sl S_api_PortTerm.ok_fr) _ _ _ f o.k4, (fr_sl S_api_PortTerm.ok_fr) _ _ _ f o.k5, o.k6, o.k7, o.k8, o.k9, o.k10, o.k11, o.k12, (fr_sl fr_c) _ _ _ f o.k13, (fr_sl S_api_Content.ok_fr) _ _ _ f o.k14, (fr_sl S_api_Test.ok_fr) _ _ _ f o.k15, (fr_sl S_api_FlowOp.ok_fr) _ _ _ f o.k16, S_api_Threshold.ok_fr _ _ _ f o.k17⟩
section
open Go.ChangeShapes Go.WideShapes Go.ChangeAt Go.RowKit
variable {H : Type} {enc : TypeId × Go.Value → H} {w : World}
set_option maxRecDepth 100000 in
theorem S_api_Rule.op : Opens enc Try.prog w T_api_Rule S_api_Rule.vals S_api_Rule.ok := fun fuel cs x h => by
  obtain ⟨xs, n, rfl, hx, hl, hxl, hf⟩ := DataW.trod_struct Try.underlying34 h
  rw [show Try.prog.cellsOf 34 = 21 from by kernel_rfl] at hl
  match xs, hxl, cs, hl with
  | [y0, y1, y2, y3, y4, y5, y6, y7, y8, y9, y10, y11, y12, y13, y14, y15, y16, y17], _, [v0, v1, v2, v3, v4, v5, v6, v7, v8, v9, v10, v11, v12, v13, v14, v15, v16, v17, v18, v19, v20], _ =>
    have g0 : DataW.trod enc Try.prog w 0 (fun _ => true) true n 3 (([v0, v1, v2, v3, v4, v5, v6, v7, v8, v9, v10, v11, v12, v13, v14, v15, v16, v17, v18, v19, v20].drop 0).take (Try.prog.cellsOf 3)) = some y0 := hf 0 _ rfl
    rw [show Try.prog.cellsOf 3 = 1 from by kernel_rfl] at g0
    obtain ⟨z0, e0, o0⟩ := ((op_int Try.underlying3) : Opens enc Try.prog w 3 (fun n : Int => [Go.Value.int .i64 n]) (kOk .i64)) _ _ _ g0
    have g1 : DataW.trod enc Try.prog w 0 (fun _ => true) true n 3 (([v0, v1, v2, v3, v4, v5, v6, v7, v8, v9, v10, v11, v12, v13, v14, v15, v16, v17, v18, v19, v20].drop 1).take (Try.prog.cellsOf 3)) = some y1 := hf 1 _ rfl
    rw [show Try.prog.cellsOf 3 = 1 from by kernel_rfl] at g1
    obtain ⟨z1, e1, o1⟩ := ((op_int Try.underlying3) : Opens enc Try.prog w 3 (fun n : Int => [Go.Value.int .i64 n]) (kOk .i64)) _ _ _ g1
    have g2 : DataW.trod enc Try.prog w 0 (fun _ => true) true n 25 (([v0, v1, v2, v3, v4, v5, v6, v7, v8, v9, v10, v11, v12, v13, v14, v15, v16, v17, v18, v19, v20].drop 2).take (Try.prog.cellsOf 25)) = some y2 := hf 2 _ rfl
    rw [show Try.prog.cellsOf 25 = 1 from by kernel_rfl] at g2
    obtain ⟨z2, e2, o2⟩ := ((op_sl Try.underlying25 (by kernel_rfl) (fun _ => rfl) S_api_AddrTerm.op) : Opens enc Try.prog w 25 (fun s : Sl S_api_AddrTerm => [s.v]) (SlOk 6 S_api_AddrTerm.vals S_api_AddrTerm.ok)) _ _ _ g2
    have g3 : DataW.trod enc Try.prog w 0 (fun _ => true) true n 25 (([v0, v1, v2, v3, v4, v5, v6, v7, v8, v9, v10, v11, v12, v13, v14, v15, v16, v17, v18, v19, v20].drop 3).take (Try.prog.cellsOf 25)) = some y3 := hf 3 _ rfl
    rw [show Try.prog.cellsOf 25 = 1 from by kernel_rfl] at g3
    obtain ⟨z3, e3, o3⟩ := ((op_sl Try.underlying25 (by kernel_rfl) (fun _ => rfl) S_api_AddrTerm.op) : Opens enc Try.prog w 25 (fun s : Sl S_api_AddrTerm => [s.v]) (SlOk 6 S_api_AddrTerm.vals S_api_AddrTerm.ok)) _ _ _ g3
    have g4 : DataW.trod enc Try.prog w 0 (fun _ => true) true n 26 (([v0, v1, v2, v3, v4, v5, v6, v7, v8, v9, v10, v11, v12, v13, v14, v15, v16, v17, v18, v19, v20].drop 4).take (Try.prog.cellsOf 26)) = some y4 := hf 4 _ rfl
    rw [show Try.prog.cellsOf 26 = 1 from by kernel_rfl] at g4
    obtain ⟨z4, e4, o4⟩ := ((op_sl Try.underlying26 (by kernel_rfl) (fun _ => rfl) S_api_PortTerm.op) : Opens enc Try.prog w 26 (fun s : Sl S_api_PortTerm => [s.v]) (SlOk 4 S_api_PortTerm.vals S_api_PortTerm.ok)) _ _ _ g4
    have g5 : DataW.trod enc Try.prog w 0 (fun _ => true) true n 26 (([v0, v1, v2, v3, v4, v5, v6, v7, v8, v9, v10, v11, v12, v13, v14, v15, v16, v17, v18, v19, v20].drop 5).take (Try.prog.cellsOf 26)) = some y5 := hf 5 _ rfl
    rw [show Try.prog.cellsOf 26 = 1 from by kernel_rfl] at g5
    obtain ⟨z5, e5, o5⟩ := ((op_sl Try.underlying26 (by kernel_rfl) (fun _ => rfl) S_api_PortTerm.op) : Opens enc Try.prog w 26 (fun s : Sl S_api_PortTerm => [s.v]) (SlOk 4 S_api_PortTerm.vals S_api_PortTerm.ok)) _ _ _ g5
    have g6 : DataW.trod enc Try.prog w 0 (fun _ => true) true n 4 (([v0, v1, v2, v3, v4, v5, v6, v7, v8, v9, v10, v11, v12, v13, v14, v15, v16, v17, v18, v19, v20].drop 6).take (Try.prog.cellsOf 4)) = some y6 := hf 6 _ rfl
    rw [show Try.prog.cellsOf 4 = 1 from by kernel_rfl] at g6
    obtain ⟨z6, e6, o6⟩ := ((op_bool Try.underlying4) : Opens enc Try.prog w 4 (fun n : Bool => [Go.Value.bool n]) bOk) _ _ _ g6
    have g7 : DataW.trod enc Try.prog w 0 (fun _ => true) true n 3 (([v0, v1, v2, v3, v4, v5, v6, v7, v8, v9, v10, v11, v12, v13, v14, v15, v16, v17, v18, v19, v20].drop 7).take (Try.prog.cellsOf 3)) = some y7 := hf 7 _ rfl
    rw [show Try.prog.cellsOf 3 = 1 from by kernel_rfl] at g7
    obtain ⟨z7, e7, o7⟩ := ((op_int Try.underlying3) : Opens enc Try.prog w 3 (fun n : Int => [Go.Value.int .i64 n]) (kOk .i64)) _ _ _ g7
    have g8 : DataW.trod enc Try.prog w 0 (fun _ => true) true n 3 (([v0, v1, v2, v3, v4, v5, v6, v7, v8, v9, v10, v11, v12, v13, v14, v15, v16, v17, v18, v19, v20].drop 8).take (Try.prog.cellsOf 3)) = some y8 := hf 8 _ rfl
    rw [show Try.prog.cellsOf 3 = 1 from by kernel_rfl] at g8
    obtain ⟨z8, e8, o8⟩ := ((op_int Try.underlying3) : Opens enc Try.prog w 3 (fun n : Int => [Go.Value.int .i64 n]) (kOk .i64)) _ _ _ g8
    have g9 : DataW.trod enc Try.prog w 0 (fun _ => true) true n 3 (([v0, v1, v2, v3, v4, v5, v6, v7, v8, v9, v10, v11, v12, v13, v14, v15, v16, v17, v18, v19, v20].drop 9).take (Try.prog.cellsOf 3)) = some y9 := hf 9 _ rfl
    rw [show Try.prog.cellsOf 3 = 1 from by kernel_rfl] at g9
    obtain ⟨z9, e9, o9⟩ := ((op_int Try.underlying3) : Opens enc Try.prog w 3 (fun n : Int => [Go.Value.int .i64 n]) (kOk .i64)) _ _ _ g9
    have g10 : DataW.trod enc Try.prog w 0 (fun _ => true) true n 9 (([v0, v1, v2, v3, v4, v5, v6, v7, v8, v9, v10, v11, v12, v13, v14, v15, v16, v17, v18, v19, v20].drop 10).take (Try.prog.cellsOf 9)) = some y10 := hf 10 _ rfl
    rw [show Try.prog.cellsOf 9 = 1 from by kernel_rfl] at g10
    obtain ⟨z10, e10, o10⟩ := ((op_str Try.underlying9) : Opens enc Try.prog w 9 (fun l : List UInt8 => [Go.Value.string (bs l)]) sOk) _ _ _ g10
    have g11 : DataW.trod enc Try.prog w 0 (fun _ => true) true n 3 (([v0, v1, v2, v3, v4, v5, v6, v7, v8, v9, v10, v11, v12, v13, v14, v15, v16, v17, v18, v19, v20].drop 11).take (Try.prog.cellsOf 3)) = some y11 := hf 11 _ rfl
    rw [show Try.prog.cellsOf 3 = 1 from by kernel_rfl] at g11
    obtain ⟨z11, e11, o11⟩ := ((op_int Try.underlying3) : Opens enc Try.prog w 3 (fun n : Int => [Go.Value.int .i64 n]) (kOk .i64)) _ _ _ g11
    have g12 : DataW.trod enc Try.prog w 0 (fun _ => true) true n 3 (([v0, v1, v2, v3, v4, v5, v6, v7, v8, v9, v10, v11, v12, v13, v14, v15, v16, v17, v18, v19, v20].drop 12).take (Try.prog.cellsOf 3)) = some y12 := hf 12 _ rfl
    rw [show Try.prog.cellsOf 3 = 1 from by kernel_rfl] at g12
    obtain ⟨z12, e12, o12⟩ := ((op_int Try.underlying3) : Opens enc Try.prog w 3 (fun n : Int => [Go.Value.int .i64 n]) (kOk .i64)) _ _ _ g12
    have g13 : DataW.trod enc Try.prog w 0 (fun _ => true) true n 27 (([v0, v1, v2, v3, v4, v5, v6, v7, v8, v9, v10, v11, v12, v13, v14, v15, v16, v17, v18, v19, v20].drop 13).take (Try.prog.cellsOf 27)) = some y13 := hf 13 _ rfl
    rw [show Try.prog.cellsOf 27 = 1 from by kernel_rfl] at g13
    obtain ⟨z13, e13, o13⟩ := ((op_sl Try.underlying27 (by kernel_rfl) (fun _ => rfl) (op_int Try.underlying3)) : Opens enc Try.prog w 27 (fun s : Sl Int => [s.v]) (SlOk 1 (fun n : Int => [Go.Value.int .i64 n]) (kOk .i64))) _ _ _ g13
    have g14 : DataW.trod enc Try.prog w 0 (fun _ => true) true n 28 (([v0, v1, v2, v3, v4, v5, v6, v7, v8, v9, v10, v11, v12, v13, v14, v15, v16, v17, v18, v19, v20].drop 14).take (Try.prog.cellsOf 28)) = some y14 := hf 14 _ rfl
    rw [show Try.prog.cellsOf 28 = 1 from by kernel_rfl] at g14
    obtain ⟨z14, e14, o14⟩ := ((op_sl Try.underlying28 (by kernel_rfl) (fun _ => rfl) S_api_Content.op) : Opens enc Try.prog w 28 (fun s : Sl S_api_Content => [s.v]) (SlOk 7 S_api_Content.vals S_api_Content.ok)) _ _ _ g14
    have g15 : DataW.trod enc Try.prog w 0 (fun _ => true) true n 29 (([v0, v1, v2, v3, v4, v5, v6, v7, v8, v9, v10, v11, v12, v13, v14, v15, v16, v17, v18, v19, v20].drop 15).take (Try.prog.cellsOf 29)) = some y15 := hf 15 _ rfl
    rw [show Try.prog.cellsOf 29 = 1 from by kernel_rfl] at g15
    obtain ⟨z15, e15, o15⟩ := ((op_sl Try.underlying29 (by kernel_rfl) (fun _ => rfl) S_api_Test.op) : Opens enc Try.prog w 29 (fun s : Sl S_api_Test => [s.v]) (SlOk 7 S_api_Test.vals S_api_Test.ok)) _ _ _ g15
    have g16 : DataW.trod enc Try.prog w 0 (fun _ => true) true n 30 (([v0, v1, v2, v3, v4, v5, v6, v7, v8, v9, v10, v11, v12, v13, v14, v15, v16, v17, v18, v19, v20].drop 16).take (Try.prog.cellsOf 30)) = some y16 := hf 16 _ rfl
    rw [show Try.prog.cellsOf 30 = 1 from by kernel_rfl] at g16
    obtain ⟨z16, e16, o16⟩ := ((op_sl Try.underlying30 (by kernel_rfl) (fun _ => rfl) S_api_FlowOp.op) : Opens enc Try.prog w 30 (fun s : Sl S_api_FlowOp => [s.v]) (SlOk 2 S_api_FlowOp.vals S_api_FlowOp.ok)) _ _ _ g16
    have g17 : DataW.trod enc Try.prog w 0 (fun _ => true) true n 32 (([v0, v1, v2, v3, v4, v5, v6, v7, v8, v9, v10, v11, v12, v13, v14, v15, v16, v17, v18, v19, v20].drop 17).take (Try.prog.cellsOf 32)) = some y17 := hf 17 _ rfl
    rw [show Try.prog.cellsOf 32 = 4 from by kernel_rfl] at g17
    obtain ⟨z17, e17, o17⟩ := (S_api_Threshold.op : Opens enc Try.prog w 32 S_api_Threshold.vals S_api_Threshold.ok) _ _ _ g17
    obtain rfl := List.head_eq_of_cons_eq e0
    obtain rfl := List.head_eq_of_cons_eq e1
    obtain rfl := List.head_eq_of_cons_eq e2
    obtain rfl := List.head_eq_of_cons_eq e3
    obtain rfl := List.head_eq_of_cons_eq e4
    obtain rfl := List.head_eq_of_cons_eq e5
    obtain rfl := List.head_eq_of_cons_eq e6
    obtain rfl := List.head_eq_of_cons_eq e7
    obtain rfl := List.head_eq_of_cons_eq e8
    obtain rfl := List.head_eq_of_cons_eq e9
    obtain rfl := List.head_eq_of_cons_eq e10
    obtain rfl := List.head_eq_of_cons_eq e11
    obtain rfl := List.head_eq_of_cons_eq e12
    obtain rfl := List.head_eq_of_cons_eq e13
    obtain rfl := List.head_eq_of_cons_eq e14
    obtain rfl := List.head_eq_of_cons_eq e15
    obtain rfl := List.head_eq_of_cons_eq e16
    have e17 : [v17, v18, v19, v20] = S_api_Threshold.vals z17 := e17
    simp only [S_api_Threshold.vals, List.cons.injEq, and_true] at e17
    obtain ⟨rfl, rfl, rfl, rfl⟩ := e17
    exact ⟨⟨z0, z1, z2, z3, z4, z5, z6, z7, z8, z9, z10, z11, z12, z13, z14, z15, z16, z17⟩, rfl, ⟨o0, o1, o2, o3, o4, o5, o6, o7, o8, o9, o10, o11, o12, o13, o14, o15, o16, o17⟩⟩
end
structure S_api_Pattern where
  Text : List UInt8
  Nocase : Bool
def S_api_Pattern.vals (r : S_api_Pattern) : List Go.Value := [.string (bs r.Text), .bool r.Nocase]
structure S_api_Pattern.ok (h : Heap) (r : S_api_Pattern) : Prop where
  k0 : sOk h r.Text
  k1 : bOk h r.Nocase
theorem S_api_Pattern.ok_fr (h h' : Heap) (r : S_api_Pattern) (f : Fr (fun _ => False) h h') (o : S_api_Pattern.ok h r) : S_api_Pattern.ok h' r :=
  ⟨o.k0, o.k1⟩
section
open Go.ChangeShapes Go.WideShapes Go.ChangeAt Go.RowKit
variable {H : Type} {enc : TypeId × Go.Value → H} {w : World}
set_option maxRecDepth 100000 in
theorem S_api_Pattern.op : Opens enc Try.prog w T_api_Pattern S_api_Pattern.vals S_api_Pattern.ok := fun fuel cs x h => by
  obtain ⟨xs, n, rfl, hx, hl, hxl, hf⟩ := DataW.trod_struct Try.underlying37 h
  rw [show Try.prog.cellsOf 37 = 2 from by kernel_rfl] at hl
  match xs, hxl, cs, hl with
  | [y0, y1], _, [v0, v1], _ =>
    have g0 : DataW.trod enc Try.prog w 0 (fun _ => true) true n 9 (([v0, v1].drop 0).take (Try.prog.cellsOf 9)) = some y0 := hf 0 _ rfl
    rw [show Try.prog.cellsOf 9 = 1 from by kernel_rfl] at g0
    obtain ⟨z0, e0, o0⟩ := ((op_str Try.underlying9) : Opens enc Try.prog w 9 (fun l : List UInt8 => [Go.Value.string (bs l)]) sOk) _ _ _ g0
    have g1 : DataW.trod enc Try.prog w 0 (fun _ => true) true n 4 (([v0, v1].drop 1).take (Try.prog.cellsOf 4)) = some y1 := hf 1 _ rfl
    rw [show Try.prog.cellsOf 4 = 1 from by kernel_rfl] at g1
    obtain ⟨z1, e1, o1⟩ := ((op_bool Try.underlying4) : Opens enc Try.prog w 4 (fun n : Bool => [Go.Value.bool n]) bOk) _ _ _ g1
    obtain rfl := List.head_eq_of_cons_eq e0
    obtain rfl := List.head_eq_of_cons_eq e1
    exact ⟨⟨z0, z1⟩, rfl, ⟨o0, o1⟩⟩
end
structure S_api_Group where
  Kind : Int
  Transforms : Sl Int
  Patterns : Sl S_api_Pattern
  Rules : Sl (Sl Int)
  Always : Sl Int
def S_api_Group.vals (r : S_api_Group) : List Go.Value := [.int .i64 r.Kind, .slice r.Transforms.p r.Transforms.xs.length r.Transforms.cap, .slice r.Patterns.p r.Patterns.xs.length r.Patterns.cap, .slice r.Rules.p r.Rules.xs.length r.Rules.cap, .slice r.Always.p r.Always.xs.length r.Always.cap]
structure S_api_Group.ok (h : Heap) (r : S_api_Group) : Prop where
  k0 : (kOk .i64) h r.Kind
  k1 : (SlOk 1 (fun n : Int => [Go.Value.int .i64 n]) (kOk .i64)) h r.Transforms
  k2 : (SlOk 2 S_api_Pattern.vals S_api_Pattern.ok) h r.Patterns
  k3 : (SlOk 1 (fun s : Sl Int => [s.v]) (SlOk 1 (fun n : Int => [Go.Value.int .i64 n]) (kOk .i64))) h r.Rules
  k4 : (SlOk 1 (fun n : Int => [Go.Value.int .i64 n]) (kOk .i64)) h r.Always
theorem S_api_Group.ok_fr (h h' : Heap) (r : S_api_Group) (f : Fr (fun _ => False) h h') (o : S_api_Group.ok h r) : S_api_Group.ok h' r :=
  ⟨o.k0, (fr_sl fr_c) _ _ _ f o.k1, (fr_sl S_api_Pattern.ok_fr) _ _ _ f o.k2, (fr_sl (fr_sl fr_c)) _ _ _ f o.k3, (fr_sl fr_c) _ _ _ f o.k4⟩
section
open Go.ChangeShapes Go.WideShapes Go.ChangeAt Go.RowKit
variable {H : Type} {enc : TypeId × Go.Value → H} {w : World}
set_option maxRecDepth 100000 in
theorem S_api_Group.op : Opens enc Try.prog w T_api_Group S_api_Group.vals S_api_Group.ok := fun fuel cs x h => by
  obtain ⟨xs, n, rfl, hx, hl, hxl, hf⟩ := DataW.trod_struct Try.underlying49 h
  rw [show Try.prog.cellsOf 49 = 5 from by kernel_rfl] at hl
  match xs, hxl, cs, hl with
  | [y0, y1, y2, y3, y4], _, [v0, v1, v2, v3, v4], _ =>
    have g0 : DataW.trod enc Try.prog w 0 (fun _ => true) true n 3 (([v0, v1, v2, v3, v4].drop 0).take (Try.prog.cellsOf 3)) = some y0 := hf 0 _ rfl
    rw [show Try.prog.cellsOf 3 = 1 from by kernel_rfl] at g0
    obtain ⟨z0, e0, o0⟩ := ((op_int Try.underlying3) : Opens enc Try.prog w 3 (fun n : Int => [Go.Value.int .i64 n]) (kOk .i64)) _ _ _ g0
    have g1 : DataW.trod enc Try.prog w 0 (fun _ => true) true n 27 (([v0, v1, v2, v3, v4].drop 1).take (Try.prog.cellsOf 27)) = some y1 := hf 1 _ rfl
    rw [show Try.prog.cellsOf 27 = 1 from by kernel_rfl] at g1
    obtain ⟨z1, e1, o1⟩ := ((op_sl Try.underlying27 (by kernel_rfl) (fun _ => rfl) (op_int Try.underlying3)) : Opens enc Try.prog w 27 (fun s : Sl Int => [s.v]) (SlOk 1 (fun n : Int => [Go.Value.int .i64 n]) (kOk .i64))) _ _ _ g1
    have g2 : DataW.trod enc Try.prog w 0 (fun _ => true) true n 46 (([v0, v1, v2, v3, v4].drop 2).take (Try.prog.cellsOf 46)) = some y2 := hf 2 _ rfl
    rw [show Try.prog.cellsOf 46 = 1 from by kernel_rfl] at g2
    obtain ⟨z2, e2, o2⟩ := ((op_sl Try.underlying46 (by kernel_rfl) (fun _ => rfl) S_api_Pattern.op) : Opens enc Try.prog w 46 (fun s : Sl S_api_Pattern => [s.v]) (SlOk 2 S_api_Pattern.vals S_api_Pattern.ok)) _ _ _ g2
    have g3 : DataW.trod enc Try.prog w 0 (fun _ => true) true n 47 (([v0, v1, v2, v3, v4].drop 3).take (Try.prog.cellsOf 47)) = some y3 := hf 3 _ rfl
    rw [show Try.prog.cellsOf 47 = 1 from by kernel_rfl] at g3
    obtain ⟨z3, e3, o3⟩ := ((op_sl Try.underlying47 (by kernel_rfl) (fun _ => rfl) (op_sl Try.underlying27 (by kernel_rfl) (fun _ => rfl) (op_int Try.underlying3))) : Opens enc Try.prog w 47 (fun s : Sl (Sl Int) => [s.v]) (SlOk 1 (fun s : Sl Int => [s.v]) (SlOk 1 (fun n : Int => [Go.Value.int .i64 n]) (kOk .i64)))) _ _ _ g3
    have g4 : DataW.trod enc Try.prog w 0 (fun _ => true) true n 27 (([v0, v1, v2, v3, v4].drop 4).take (Try.prog.cellsOf 27)) = some y4 := hf 4 _ rfl
    rw [show Try.prog.cellsOf 27 = 1 from by kernel_rfl] at g4
    obtain ⟨z4, e4, o4⟩ := ((op_sl Try.underlying27 (by kernel_rfl) (fun _ => rfl) (op_int Try.underlying3)) : Opens enc Try.prog w 27 (fun s : Sl Int => [s.v]) (SlOk 1 (fun n : Int => [Go.Value.int .i64 n]) (kOk .i64))) _ _ _ g4
    obtain rfl := List.head_eq_of_cons_eq e0
    obtain rfl := List.head_eq_of_cons_eq e1
    obtain rfl := List.head_eq_of_cons_eq e2
    obtain rfl := List.head_eq_of_cons_eq e3
    obtain rfl := List.head_eq_of_cons_eq e4
    exact ⟨⟨z0, z1, z2, z3, z4⟩, rfl, ⟨o0, o1, o2, o3, o4⟩⟩
end
end Go.Proofs.Ytjelnknmjhceiaa
