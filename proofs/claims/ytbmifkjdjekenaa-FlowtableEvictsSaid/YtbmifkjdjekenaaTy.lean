/-
  Printed by wip/tool/types.py: records of the struct types that laws take; what their cells are, and that every argument reads as one.
-/
import Derived.Test.YtbmifkjdjekenaaArgs
import Derived.Test.YtbmifkjdjekenaaG1
namespace Go.Proofs.Ytbmifkjdjekenaa
set_option linter.unusedSimpArgs false
set_option linter.unusedVariables false
set_option maxRecDepth 20000
open Go
structure S_api_Addr where
  V6 : Bool
  Hi : Int
  Lo : Int
def S_api_Addr.vals (r : S_api_Addr) : List Go.Value := [.bool r.V6, .int .u64 r.Hi, .int .u64 r.Lo]
structure S_api_Addr.ok (h : Heap) (r : S_api_Addr) : Prop where
  k0 : bOk h r.V6
  k1 : (kOk .u64) h r.Hi
  k2 : (kOk .u64) h r.Lo
theorem S_api_Addr.ok_fr (h h' : Heap) (r : S_api_Addr) (f : Fr (fun _ => False) h h') (o : S_api_Addr.ok h r) : S_api_Addr.ok h' r :=
  ⟨o.k0, o.k1, o.k2⟩
section
open Go.ChangeShapes Go.WideShapes Go.ChangeAt Go.RowKit
variable {H : Type} {enc : TypeId × Go.Value → H} {w : World}
set_option maxRecDepth 100000 in
theorem S_api_Addr.op : Opens enc Try.prog w T_api_Addr S_api_Addr.vals S_api_Addr.ok := fun fuel cs x h => by
  obtain ⟨xs, n, rfl, hx, hl, hxl, hf⟩ := DataW.trod_struct Try.underlying34 h
  rw [show Try.prog.cellsOf 34 = 3 from by kernel_rfl] at hl
  match xs, hxl, cs, hl with
  | [y0, y1, y2], _, [v0, v1, v2], _ =>
    have g0 : DataW.trod enc Try.prog w 0 (fun _ => true) true n 4 (([v0, v1, v2].drop 0).take (Try.prog.cellsOf 4)) = some y0 := hf 0 _ rfl
    rw [show Try.prog.cellsOf 4 = 1 from by kernel_rfl] at g0
    obtain ⟨z0, e0, o0⟩ := ((op_bool Try.underlying4) : Opens enc Try.prog w 4 (fun n : Bool => [Go.Value.bool n]) bOk) _ _ _ g0
    have g1 : DataW.trod enc Try.prog w 0 (fun _ => true) true n 32 (([v0, v1, v2].drop 1).take (Try.prog.cellsOf 32)) = some y1 := hf 1 _ rfl
    rw [show Try.prog.cellsOf 32 = 1 from by kernel_rfl] at g1
    obtain ⟨z1, e1, o1⟩ := ((op_int Try.underlying32) : Opens enc Try.prog w 32 (fun n : Int => [Go.Value.int .u64 n]) (kOk .u64)) _ _ _ g1
    have g2 : DataW.trod enc Try.prog w 0 (fun _ => true) true n 32 (([v0, v1, v2].drop 2).take (Try.prog.cellsOf 32)) = some y2 := hf 2 _ rfl
    rw [show Try.prog.cellsOf 32 = 1 from by kernel_rfl] at g2
    obtain ⟨z2, e2, o2⟩ := ((op_int Try.underlying32) : Opens enc Try.prog w 32 (fun n : Int => [Go.Value.int .u64 n]) (kOk .u64)) _ _ _ g2
    obtain rfl := List.head_eq_of_cons_eq e0
    obtain rfl := List.head_eq_of_cons_eq e1
    obtain rfl := List.head_eq_of_cons_eq e2
    exact ⟨⟨z0, z1, z2⟩, rfl, ⟨o0, o1, o2⟩⟩
end
structure S_api_Flow where
  Proto : Int
  Src : S_api_Addr
  Dst : S_api_Addr
  Sport : Int
  Dport : Int
def S_api_Flow.vals (r : S_api_Flow) : List Go.Value := [.int .i64 r.Proto, .bool r.Src.V6, .int .u64 r.Src.Hi, .int .u64 r.Src.Lo, .bool r.Dst.V6, .int .u64 r.Dst.Hi, .int .u64 r.Dst.Lo, .int .i64 r.Sport, .int .i64 r.Dport]
structure S_api_Flow.ok (h : Heap) (r : S_api_Flow) : Prop where
  k0 : (kOk .i64) h r.Proto
  k1 : S_api_Addr.ok h r.Src
  k2 : S_api_Addr.ok h r.Dst
  k3 : (kOk .i64) h r.Sport
  k4 : (kOk .i64) h r.Dport
theorem S_api_Flow.ok_fr (h h' : Heap) (r : S_api_Flow) (f : Fr (fun _ => False) h h') (o : S_api_Flow.ok h r) : S_api_Flow.ok h' r :=
  ⟨o.k0, S_api_Addr.ok_fr _ _ _ f o.k1, S_api_Addr.ok_fr _ _ _ f o.k2, o.k3, o.k4⟩
section
open Go.ChangeShapes Go.WideShapes Go.ChangeAt Go.RowKit
variable {H : Type} {enc : TypeId × Go.Value → H} {w : World}
set_option maxRecDepth 100000 in
theorem S_api_Flow.op : Opens enc Try.prog w T_api_Flow S_api_Flow.vals S_api_Flow.ok := fun fuel cs x h => by
  obtain ⟨xs, n, rfl, hx, hl, hxl, hf⟩ := DataW.trod_struct Try.underlying36 h
  rw [show Try.prog.cellsOf 36 = 9 from by kernel_rfl] at hl
  match xs, hxl, cs, hl with
  | [y0, y1, y2, y3, y4], _, [v0, v1, v2, v3, v4, v5, v6, v7, v8], _ =>
    have g0 : DataW.trod enc Try.prog w 0 (fun _ => true) true n 3 (([v0, v1, v2, v3, v4, v5, v6, v7, v8].drop 0).take (Try.prog.cellsOf 3)) = some y0 := hf 0 _ rfl
    rw [show Try.prog.cellsOf 3 = 1 from by kernel_rfl] at g0
    obtain ⟨z0, e0, o0⟩ := ((op_int Try.underlying3) : Opens enc Try.prog w 3 (fun n : Int => [Go.Value.int .i64 n]) (kOk .i64)) _ _ _ g0
    have g1 : DataW.trod enc Try.prog w 0 (fun _ => true) true n 34 (([v0, v1, v2, v3, v4, v5, v6, v7, v8].drop 1).take (Try.prog.cellsOf 34)) = some y1 := hf 1 _ rfl
    rw [show Try.prog.cellsOf 34 = 3 from by kernel_rfl] at g1
    obtain ⟨z1, e1, o1⟩ := (S_api_Addr.op : Opens enc Try.prog w 34 S_api_Addr.vals S_api_Addr.ok) _ _ _ g1
    have g2 : DataW.trod enc Try.prog w 0 (fun _ => true) true n 34 (([v0, v1, v2, v3, v4, v5, v6, v7, v8].drop 4).take (Try.prog.cellsOf 34)) = some y2 := hf 2 _ rfl
    rw [show Try.prog.cellsOf 34 = 3 from by kernel_rfl] at g2
    obtain ⟨z2, e2, o2⟩ := (S_api_Addr.op : Opens enc Try.prog w 34 S_api_Addr.vals S_api_Addr.ok) _ _ _ g2
    have g3 : DataW.trod enc Try.prog w 0 (fun _ => true) true n 3 (([v0, v1, v2, v3, v4, v5, v6, v7, v8].drop 7).take (Try.prog.cellsOf 3)) = some y3 := hf 3 _ rfl
    rw [show Try.prog.cellsOf 3 = 1 from by kernel_rfl] at g3
    obtain ⟨z3, e3, o3⟩ := ((op_int Try.underlying3) : Opens enc Try.prog w 3 (fun n : Int => [Go.Value.int .i64 n]) (kOk .i64)) _ _ _ g3
    have g4 : DataW.trod enc Try.prog w 0 (fun _ => true) true n 3 (([v0, v1, v2, v3, v4, v5, v6, v7, v8].drop 8).take (Try.prog.cellsOf 3)) = some y4 := hf 4 _ rfl
    rw [show Try.prog.cellsOf 3 = 1 from by kernel_rfl] at g4
    obtain ⟨z4, e4, o4⟩ := ((op_int Try.underlying3) : Opens enc Try.prog w 3 (fun n : Int => [Go.Value.int .i64 n]) (kOk .i64)) _ _ _ g4
    obtain rfl := List.head_eq_of_cons_eq e0
    have e1 : [v1, v2, v3] = S_api_Addr.vals z1 := e1
    simp only [S_api_Addr.vals, List.cons.injEq, and_true] at e1
    obtain ⟨rfl, rfl, rfl⟩ := e1
    have e2 : [v4, v5, v6] = S_api_Addr.vals z2 := e2
    simp only [S_api_Addr.vals, List.cons.injEq, and_true] at e2
    obtain ⟨rfl, rfl, rfl⟩ := e2
    obtain rfl := List.head_eq_of_cons_eq e3
    obtain rfl := List.head_eq_of_cons_eq e4
    exact ⟨⟨z0, z1, z2, z3, z4⟩, rfl, ⟨o0, o1, o2, o3, o4⟩⟩
end
structure S_intrusionlaw22_Call where
  Kind : Int
  At : Int
  Id : Int
  Value : Int
  F : S_api_Flow
def S_intrusionlaw22_Call.vals (r : S_intrusionlaw22_Call) : List Go.Value := [.int .i64 r.Kind, .int .i64 r.At, .int .i64 r.Id, .int .i64 r.Value, .int .i64 r.F.Proto, .bool r.F.Src.V6, .int .u64 r.F.Src.Hi, .int .u64 r.F.Src.Lo, .bool r.F.Dst.V6, .int .u64 r.F.Dst.Hi, .int .u64 r.F.Dst.Lo, .int .i64 r.F.Sport, .int .i64 r.F.Dport]
structure S_intrusionlaw22_Call.ok (h : Heap) (r : S_intrusionlaw22_Call) : Prop where
  k0 : (kOk .i64) h r.Kind
  k1 : (kOk .i64) h r.At
  k2 : (kOk .i64) h r.Id
  k3 : (kOk .i64) h r.Value
  k4 : S_api_Flow.ok h r.F
theorem S_intrusionlaw22_Call.ok_fr (h h' : Heap) (r : S_intrusionlaw22_Call) (f : Fr (fun _ => False) h h') (o : S_intrusionlaw22_Call.ok h r) : S_intrusionlaw22_Call.ok h' r :=
  ⟨o.k0, o.k1, o.k2, o.k3, S_api_Flow.ok_fr _ _ _ f o.k4⟩
section
open Go.ChangeShapes Go.WideShapes Go.ChangeAt Go.RowKit
variable {H : Type} {enc : TypeId × Go.Value → H} {w : World}
set_option maxRecDepth 100000 in
theorem S_intrusionlaw22_Call.op : Opens enc Try.prog w T_intrusionlaw22_Call S_intrusionlaw22_Call.vals S_intrusionlaw22_Call.ok := fun fuel cs x h => by
  obtain ⟨xs, n, rfl, hx, hl, hxl, hf⟩ := DataW.trod_struct Try.underlying49 h
  rw [show Try.prog.cellsOf 49 = 13 from by kernel_rfl] at hl
  match xs, hxl, cs, hl with
  | [y0, y1, y2, y3, y4], _, [v0, v1, v2, v3, v4, v5, v6, v7, v8, v9, v10, v11, v12], _ =>
    have g0 : DataW.trod enc Try.prog w 0 (fun _ => true) true n 3 (([v0, v1, v2, v3, v4, v5, v6, v7, v8, v9, v10, v11, v12].drop 0).take (Try.prog.cellsOf 3)) = some y0 := hf 0 _ rfl
    rw [show Try.prog.cellsOf 3 = 1 from by kernel_rfl] at g0
    obtain ⟨z0, e0, o0⟩ := ((op_int Try.underlying3) : Opens enc Try.prog w 3 (fun n : Int => [Go.Value.int .i64 n]) (kOk .i64)) _ _ _ g0
    have g1 : DataW.trod enc Try.prog w 0 (fun _ => true) true n 3 (([v0, v1, v2, v3, v4, v5, v6, v7, v8, v9, v10, v11, v12].drop 1).take (Try.prog.cellsOf 3)) = some y1 := hf 1 _ rfl
    rw [show Try.prog.cellsOf 3 = 1 from by kernel_rfl] at g1
    obtain ⟨z1, e1, o1⟩ := ((op_int Try.underlying3) : Opens enc Try.prog w 3 (fun n : Int => [Go.Value.int .i64 n]) (kOk .i64)) _ _ _ g1
    have g2 : DataW.trod enc Try.prog w 0 (fun _ => true) true n 3 (([v0, v1, v2, v3, v4, v5, v6, v7, v8, v9, v10, v11, v12].drop 2).take (Try.prog.cellsOf 3)) = some y2 := hf 2 _ rfl
    rw [show Try.prog.cellsOf 3 = 1 from by kernel_rfl] at g2
    obtain ⟨z2, e2, o2⟩ := ((op_int Try.underlying3) : Opens enc Try.prog w 3 (fun n : Int => [Go.Value.int .i64 n]) (kOk .i64)) _ _ _ g2
    have g3 : DataW.trod enc Try.prog w 0 (fun _ => true) true n 3 (([v0, v1, v2, v3, v4, v5, v6, v7, v8, v9, v10, v11, v12].drop 3).take (Try.prog.cellsOf 3)) = some y3 := hf 3 _ rfl
    rw [show Try.prog.cellsOf 3 = 1 from by kernel_rfl] at g3
    obtain ⟨z3, e3, o3⟩ := ((op_int Try.underlying3) : Opens enc Try.prog w 3 (fun n : Int => [Go.Value.int .i64 n]) (kOk .i64)) _ _ _ g3
    have g4 : DataW.trod enc Try.prog w 0 (fun _ => true) true n 36 (([v0, v1, v2, v3, v4, v5, v6, v7, v8, v9, v10, v11, v12].drop 4).take (Try.prog.cellsOf 36)) = some y4 := hf 4 _ rfl
    rw [show Try.prog.cellsOf 36 = 9 from by kernel_rfl] at g4
    obtain ⟨z4, e4, o4⟩ := (S_api_Flow.op : Opens enc Try.prog w 36 S_api_Flow.vals S_api_Flow.ok) _ _ _ g4
    obtain rfl := List.head_eq_of_cons_eq e0
    obtain rfl := List.head_eq_of_cons_eq e1
    obtain rfl := List.head_eq_of_cons_eq e2
    obtain rfl := List.head_eq_of_cons_eq e3
    have e4 : [v4, v5, v6, v7, v8, v9, v10, v11, v12] = S_api_Flow.vals z4 := e4
    simp only [S_api_Flow.vals, List.cons.injEq, and_true] at e4
    obtain ⟨rfl, rfl, rfl, rfl, rfl, rfl, rfl, rfl, rfl⟩ := e4
    exact ⟨⟨z0, z1, z2, z3, z4⟩, rfl, ⟨o0, o1, o2, o3, o4⟩⟩
end
end Go.Proofs.Ytbmifkjdjekenaa
