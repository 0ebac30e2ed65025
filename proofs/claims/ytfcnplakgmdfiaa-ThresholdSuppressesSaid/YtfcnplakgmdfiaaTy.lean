/-
  Printed by wip/tool/types.py: records of the struct types that laws take; what their cells are, and that every argument reads as one.
-/
import Derived.Test.YtfcnplakgmdfiaaArgs
import Derived.Test.YtfcnplakgmdfiaaG1
namespace Go.Proofs.Ytfcnplakgmdfiaa
set_option linter.unusedSimpArgs false
set_option linter.unusedVariables false
set_option maxRecDepth 20000
open Go
structure S_api_Threshold where
  Kind : Int
  By : Int
  Count : Int
  Seconds : Int
def S_api_Threshold.vals (r : S_api_Threshold) : List Go.Value := [.int .i64 r.Kind, .int .i64 r.By, .int .i64 r.Count, .int .i64 r.Seconds]
structure S_api_Threshold.ok (h : Heap) (r : S_api_Threshold) : Prop where
  k0 : (kOk .i64) h r.Kind
  k1 : (kOk .i64) h r.By
  k2 : (kOk .i64) h r.Count
  k3 : (kOk .i64) h r.Seconds
theorem S_api_Threshold.ok_fr (h h' : Heap) (r : S_api_Threshold) (f : Fr (fun _ => False) h h') (o : S_api_Threshold.ok h r) : S_api_Threshold.ok h' r :=
  ⟨o.k0, o.k1, o.k2, o.k3⟩
section
open Go.ChangeShapes Go.WideShapes Go.ChangeAt Go.RowKit
variable {H : Type} {enc : TypeId × Go.Value → H} {w : World}
set_option maxRecDepth 100000 in
theorem S_api_Threshold.op : Opens enc Try.prog w T_api_Threshold S_api_Threshold.vals S_api_Threshold.ok := fun fuel cs x h => by
  obtain ⟨xs, n, rfl, hx, hl, hxl, hf⟩ := DataW.trod_struct Try.underlying25 h
  rw [show Try.prog.cellsOf 25 = 4 from by kernel_rfl] at hl
  match xs, hxl, cs, hl with
  | [y0, y1, y2, y3], _, [v0, v1, v2, v3], _ =>
    have g0 : DataW.trod enc Try.prog w 0 (fun _ => true) true n 3 (([v0, v1, v2, v3].drop 0).take (Try.prog.cellsOf 3)) = some y0 := hf 0 _ rfl
    rw [show Try.prog.cellsOf 3 = 1 from by kernel_rfl] at g0
    obtain ⟨z0, e0, o0⟩ := ((op_int Try.underlying3) : Opens enc Try.prog w 3 (fun n : Int => [Go.Value.int .i64 n]) (kOk .i64)) _ _ _ g0
    have g1 : DataW.trod enc Try.prog w 0 (fun _ => true) true n 3 (([v0, v1, v2, v3].drop 1).take (Try.prog.cellsOf 3)) = some y1 := hf 1 _ rfl
    rw [show Try.prog.cellsOf 3 = 1 from by kernel_rfl] at g1
    obtain ⟨z1, e1, o1⟩ := ((op_int Try.underlying3) : Opens enc Try.prog w 3 (fun n : Int => [Go.Value.int .i64 n]) (kOk .i64)) _ _ _ g1
    have g2 : DataW.trod enc Try.prog w 0 (fun _ => true) true n 3 (([v0, v1, v2, v3].drop 2).take (Try.prog.cellsOf 3)) = some y2 := hf 2 _ rfl
    rw [show Try.prog.cellsOf 3 = 1 from by kernel_rfl] at g2
    obtain ⟨z2, e2, o2⟩ := ((op_int Try.underlying3) : Opens enc Try.prog w 3 (fun n : Int => [Go.Value.int .i64 n]) (kOk .i64)) _ _ _ g2
    have g3 : DataW.trod enc Try.prog w 0 (fun _ => true) true n 3 (([v0, v1, v2, v3].drop 3).take (Try.prog.cellsOf 3)) = some y3 := hf 3 _ rfl
    rw [show Try.prog.cellsOf 3 = 1 from by kernel_rfl] at g3
    obtain ⟨z3, e3, o3⟩ := ((op_int Try.underlying3) : Opens enc Try.prog w 3 (fun n : Int => [Go.Value.int .i64 n]) (kOk .i64)) _ _ _ g3
    obtain rfl := List.head_eq_of_cons_eq e0
    obtain rfl := List.head_eq_of_cons_eq e1
    obtain rfl := List.head_eq_of_cons_eq e2
    obtain rfl := List.head_eq_of_cons_eq e3
    exact ⟨⟨z0, z1, z2, z3⟩, rfl, ⟨o0, o1, o2, o3⟩⟩
end
structure S_api_Addr where
  V6 : Bool
  Hi : Int
  Lo : Int
def S_api_Addr.vals (r : S_api_Addr) : List Go.Value := [.bool r.V6, .int .u64 r.Hi, .int .u64 r.Lo]
structure S_api_Addr.ok (h : Heap) (r : S_api_Addr) : Prop where
  k0 : bOk h r.V6
  k1 : (kOk .u64) h r.Hi
  k2 : (kOk .u64) h r.Lo
theorem S_api_Addr.ok_fr (h h' : Heap) (r : S_api_Addr) (f : Fr (fun _ => False) h h') (o : S_api_Addr.ok h r) : S_api_Addr.ok h' r :=
  ⟨o.k0, o.k1, o.k2⟩
section
open Go.ChangeShapes Go.WideShapes Go.ChangeAt Go.RowKit
variable {H : Type} {enc : TypeId × Go.Value → H} {w : World}
set_option maxRecDepth 100000 in
theorem S_api_Addr.op : Opens enc Try.prog w T_api_Addr S_api_Addr.vals S_api_Addr.ok := fun fuel cs x h => by
  obtain ⟨xs, n, rfl, hx, hl, hxl, hf⟩ := DataW.trod_struct Try.underlying34 h
  rw [show Try.prog.cellsOf 34 = 3 from by kernel_rfl] at hl
  match xs, hxl, cs, hl with
  | [y0, y1, y2], _, [v0, v1, v2], _ =>
    have g0 : DataW.trod enc Try.prog w 0 (fun _ => true) true n 4 (([v0, v1, v2].drop 0).take (Try.prog.cellsOf 4)) = some y0 := hf 0 _ rfl
    rw [show Try.prog.cellsOf 4 = 1 from by kernel_rfl] at g0
    obtain ⟨z0, e0, o0⟩ := ((op_bool Try.underlying4) : Opens enc Try.prog w 4 (fun n : Bool => [Go.Value.bool n]) bOk) _ _ _ g0
    have g1 : DataW.trod enc Try.prog w 0 (fun _ => true) true n 32 (([v0, v1, v2].drop 1).take (Try.prog.cellsOf 32)) = some y1 := hf 1 _ rfl
    rw [show Try.prog.cellsOf 32 = 1 from by kernel_rfl] at g1
    obtain ⟨z1, e1, o1⟩ := ((op_int Try.underlying32) : Opens enc Try.prog w 32 (fun n : Int => [Go.Value.int .u64 n]) (kOk .u64)) _ _ _ g1
    have g2 : DataW.trod enc Try.prog w 0 (fun _ => true) true n 32 (([v0, v1, v2].drop 2).take (Try.prog.cellsOf 32)) = some y2 := hf 2 _ rfl
    rw [show Try.prog.cellsOf 32 = 1 from by kernel_rfl] at g2
    obtain ⟨z2, e2, o2⟩ := ((op_int Try.underlying32) : Opens enc Try.prog w 32 (fun n : Int => [Go.Value.int .u64 n]) (kOk .u64)) _ _ _ g2
    obtain rfl := List.head_eq_of_cons_eq e0
    obtain rfl := List.head_eq_of_cons_eq e1
    obtain rfl := List.head_eq_of_cons_eq e2
    exact ⟨⟨z0, z1, z2⟩, rfl, ⟨o0, o1, o2⟩⟩
end
structure S_api_Flow where
  Proto : Int
  Src : S_api_Addr
  Dst : S_api_Addr
  Sport : Int
  Dport : Int
def S_api_Flow.vals (r : S_api_Flow) : List Go.Value := [.int .i64 r.Proto, .bool r.Src.V6, .int .u64 r.Src.Hi, .int .u64 r.Src.Lo, .bool r.Dst.V6, .int .u64 r.Dst.Hi, .int .u64 r.Dst.Lo, .int .i64 r.Sport, .int .i64 r.Dport]
structure S_api_Flow.ok (h : Heap) (r : S_api_Flow) : Prop where
  k0 : (kOk .i64) h r.Proto
  k1 : S_api_Addr.ok h r.Src
  k2 : S_api_Addr.ok h r.Dst
  k3 : (kOk .i64) h r.Sport
  k4 : (kOk .i64) h r.Dport
theorem S_api_Flow.ok_fr (h h' : Heap) (r : S_api_Flow) (f : Fr (fun _ => False) h h') (o : S_api_Flow.ok h r) : S_api_Flow.ok h' r :=
  ⟨o.k0, S_api_Addr.ok_fr _ _ _ f o.k1, S_api_Addr.ok_fr _ _ _ f o.k2, o.k3, o.k4⟩
section
open Go.ChangeShapes Go.WideShapes Go.ChangeAt Go.RowKit
variable {H : Type} {enc : TypeId × Go.Value → H} {w : World}
set_option maxRecDepth 100000 in
theorem S_api_Flow.op : Opens enc Try.prog w T_api_Flow S_api_Flow.vals S_api_Flow.ok := fun fuel cs x h => by
  obtain ⟨xs, n, rfl, hx, hl, hxl, hf⟩ := DataW.trod_struct Try.underlying36 h
  rw [show Try.prog.cellsOf 36 = 9 from by kernel_rfl] at hl
  match xs, hxl, cs, hl with
  | [y0, y1, y2, y3, y4], _, [v0, v1, v2, v3, v4, v5, v6, v7, v8], _ =>
    have g0 : DataW.trod enc Try.prog w 0 (fun _ => true) true n 3 (([v0, v1, v2, v3, v4, v5, v6, v7, v8].drop 0).take (Try.prog.cellsOf 3)) = some y0 := hf 0 _ rfl
    rw [show Try.prog.cellsOf 3 = 1 from by kernel_rfl] at g0
    obtain ⟨z0, e0, o0⟩ := ((op_int Try.underlying3) : Opens enc Try.prog w 3 (fun n : Int => [Go.Value.int .i64 n]) (kOk .i64)) _ _ _ g0
    have g1 : DataW.trod enc Try.prog w 0 (fun _ => true) true n 34 (([v0, v1, v2, v3, v4, v5, v6, v7, v8].drop 1).take (Try.prog.cellsOf 34)) = some y1 := hf 1 _ rfl
    rw [show Try.prog.cellsOf 34 = 3 from by kernel_rfl] at g1
    obtain ⟨z1, e1, o1⟩ := (S_api_Addr.op : Opens enc Try.prog w 34 S_api_Addr.vals S_api_Addr.ok) _ _ _ g1
    have g2 : DataW.trod enc Try.prog w 0 (fun _ => true) true n 34 (([v0, v1, v2, v3, v4, v5, v6, v7, v8].drop 4).take (Try.prog.cellsOf 34)) = some y2 := hf 2 _ rfl
    rw [show Try.prog.cellsOf 34 = 3 from by kernel_rfl] at g2
    obtain ⟨z2, e2, o2⟩ := (S_api_Addr.op : Opens enc Try.prog w 34 S_api_Addr.vals S_api_Addr.ok) _ _ _ g2
    have g3 : DataW.trod enc Try.prog w 0 (fun _ => true) true n 3 (([v0, v1, v2, v3, v4, v5, v6, v7, v8].drop 7).take (Try.prog.cellsOf 3)) = some y3 := hf 3 _ rfl
    rw [show Try.prog.cellsOf 3 = 1 from by kernel_rfl] at g3
    obtain ⟨z3, e3, o3⟩ := ((op_int Try.underlying3) : Opens enc Try.prog w 3 (fun n : Int => [Go.Value.int .i64 n]) (kOk .i64)) _ _ _ g3
    have g4 : DataW.trod enc Try.prog w 0 (fun _ => true) true n 3 (([v0, v1, v2, v3, v4, v5, v6, v7, v8].drop 8).take (Try.prog.cellsOf 3)) = some y4 := hf 4 _ rfl
    rw [show Try.prog.cellsOf 3 = 1 from by kernel_rfl] at g4
    obtain ⟨z4, e4, o4⟩ := ((op_int Try.underlying3) : Opens enc Try.prog w 3 (fun n : Int => [Go.Value.int .i64 n]) (kOk .i64)) _ _ _ g4
    obtain rfl := List.head_eq_of_cons_eq e0
    have e1 : [v1, v2, v3] = S_api_Addr.vals z1 := e1
    simp only [S_api_Addr.vals, List.cons.injEq, and_true] at e1
    obtain ⟨rfl, rfl, rfl⟩ := e1
    have e2 : [v4, v5, v6] = S_api_Addr.vals z2 := e2
    simp only [S_api_Addr.vals, List.cons.injEq, and_true] at e2
    obtain ⟨rfl, rfl, rfl⟩ := e2
    obtain rfl := List.head_eq_of_cons_eq e3
    obtain rfl := List.head_eq_of_cons_eq e4
    exact ⟨⟨z0, z1, z2, z3, z4⟩, rfl, ⟨o0, o1, o2, o3, o4⟩⟩
end
structure S_intrusionlaw51_Call where
  Kind : Int
  At : Int
  Sid : Int
  H : S_api_Threshold
  F : S_api_Flow
  Sids : Sl Int
def S_intrusionlaw51_Call.vals (r : S_intrusionlaw51_Call) : List Go.Value := [.int .i64 r.Kind, .int .i64 r.At, .int .i64 r.Sid, .int .i64 r.H.Kind, .int .i64 r.H.By, .int .i64 r.H.Count, .int .i64 r.H.Seconds, .int .i64 r.F.Proto, .bool r.F.Src.V6, .int .u64 r.F.Src.Hi, .int .u64 r.F.Src.Lo, .bool r.F.Dst.V6, .int .u64 r.F.Dst.Hi, .int .u64 r.F.Dst.Lo, .int .i64 r.F.Sport, .int .i64 r.F.Dport, .slice r.Sids.p r.Sids.xs.length r.Sids.cap]
structure S_intrusionlaw51_Call.ok (h : Heap) (r : S_intrusionlaw51_Call) : Prop where
  k0 : (kOk .i64) h r.Kind
  k1 : (kOk .i64) h r.At
  k2 : (kOk .i64) h r.Sid
  k3 : S_api_Threshold.ok h r.H
  k4 : S_api_Flow.ok h r.F
  k5 : (SlOk 1 (fun n : Int => [Go.Value.int .i64 n]) (kOk .i64)) h r.Sids
theorem S_intrusionlaw51_Call.ok_fr (h h' : Heap) (r : S_intrusionlaw51_Call) (f : Fr (fun _ => False) h h') (o : S_intrusionlaw51_Call.ok h r) : S_intrusionlaw51_Call.ok h' r :=
  ⟨o.k0, o.k1, o.k2, S_api_Threshold.ok_fr _ _ _ f o.k3, S_api_Flow.ok_fr _ _ _ f o.k4, (fr_sl fr_c) _ _ _ f o.k5⟩
section
open Go.ChangeShapes Go.WideShapes Go.ChangeAt Go.RowKit
variable {H : Type} {enc : TypeId × Go.Value → H} {w : World}
set_option maxRecDepth 100000 in
theorem S_intrusionlaw51_Call.op : Opens enc Try.prog w T_intrusionlaw51_Call S_intrusionlaw51_Call.vals S_intrusionlaw51_Call.ok := fun fuel cs x h => by
  obtain ⟨xs, n, rfl, hx, hl, hxl, hf⟩ := DataW.trod_struct Try.underlying45 h
  rw [show Try.prog.cellsOf 45 = 17 from by kernel_rfl] at hl
  match xs, hxl, cs, hl with
  | [y0, y1, y2, y3, y4, y5], _, [v0, v1, v2, v3, v4, v5, v6, v7, v8, v9, v10, v11, v12, v13, v14, v15, v16], _ =>
    have g0 : DataW.trod enc Try.prog w 0 (fun _ => true) true n 3 (([v0, v1, v2, v3, v4, v5, v6, v7, v8, v9, v10, v11, v12, v13, v14, v15, v16].drop 0).take (Try.prog.cellsOf 3)) = some y0 := hf 0 _ rfl
    rw [show Try.prog.cellsOf 3 = 1 from by kernel_rfl] at g0
    obtain ⟨z0, e0, o0⟩ := ((op_int Try.underlying3) : Opens enc Try.prog w 3 (fun n : Int => [Go.Value.int .i64 n]) (kOk .i64)) _ _ _ g0
    have g1 : DataW.trod enc Try.prog w 0 (fun _ => true) true n 3 (([v0, v1, v2, v3, v4, v5, v6, v7, v8, v9, v10, v11, v12, v13, v14, v15, v16].drop 1).take (Try.prog.cellsOf 3)) = some y1 := hf 1 _ rfl
    rw [show Try.prog.cellsOf 3 = 1 from by kernel_rfl] at g1
    obtain ⟨z1, e1, o1⟩ := ((op_int Try.underlying3) : Opens enc Try.prog w 3 (fun n : Int => [Go.Value.int .i64 n]) (kOk .i64)) _ _ _ g1
    have g2 : DataW.trod enc Try.prog w 0 (fun _ => true) true n 3 (([v0, v1, v2, v3, v4, v5, v6, v7, v8, v9, v10, v11, v12, v13, v14, v15, v16].drop 2).take (Try.prog.cellsOf 3)) = some y2 := hf 2 _ rfl
    rw [show Try.prog.cellsOf 3 = 1 from by kernel_rfl] at g2
    obtain ⟨z2, e2, o2⟩ := ((op_int Try.underlying3) : Opens enc Try.prog w 3 (fun n : Int => [Go.Value.int .i64 n]) (kOk .i64)) _ _ _ g2
    have g3 : DataW.trod enc Try.prog w 0 (fun _ => true) true n 25 (([v0, v1, v2, v3, v4, v5, v6, v7, v8, v9, v10, v11, v12, v13, v14, v15, v16].drop 3).take (Try.prog.cellsOf 25)) = some y3 := hf 3 _ rfl
    rw [show Try.prog.cellsOf 25 = 4 from by kernel_rfl] at g3
    obtain ⟨z3, e3, o3⟩ := (S_api_Threshold.op : Opens enc Try.prog w 25 S_api_Threshold.vals S_api_Threshold.ok) _ _ _ g3
    have g4 : DataW.trod enc Try.prog w 0 (fun _ => true) true n 36 (([v0, v1, v2, v3, v4, v5, v6, v7, v8, v9, v10, v11, v12, v13, v14, v15, v16].drop 7).take (Try.prog.cellsOf 36)) = some y4 := hf 4 _ rfl
    rw [show Try.prog.cellsOf 36 = 9 from by kernel_rfl] at g4
    obtain ⟨z4, e4, o4⟩ := (S_api_Flow.op : Opens enc Try.prog w 36 S_api_Flow.vals S_api_Flow.ok) _ _ _ g4
    have g5 : DataW.trod enc Try.prog w 0 (fun _ => true) true n 43 (([v0, v1, v2, v3, v4, v5, v6, v7, v8, v9, v10, v11, v12, v13, v14, v15, v16].drop 16).take (Try.prog.cellsOf 43)) = some y5 := hf 5 _ rfl
    rw [show Try.prog.cellsOf 43 = 1 from by kernel_rfl] at g5
    obtain ⟨z5, e5, o5⟩ := ((op_sl Try.underlying43 (by kernel_rfl) (fun _ => rfl) (op_int Try.underlying3)) : Opens enc Try.prog w 43 (fun s : Sl Int => [s.v]) (SlOk 1 (fun n : Int => [Go.Value.int .i64 n]) (kOk .i64))) _ _ _ g5
    obtain rfl := List.head_eq_of_cons_eq e0
    obtain rfl := List.head_eq_of_cons_eq e1
    obtain rfl := List.head_eq_of_cons_eq e2
    have e3 : [v3, v4, v5, v6] = S_api_Threshold.vals z3 := e3
    simp only [S_api_Threshold.vals, List.cons.injEq, and_true] at e3
    obtain ⟨rfl, rfl, rfl, rfl⟩ := e3
    have e4 : [v7, v8, v9, v10, v11, v12, v13, v14, v15] = S_api_Flow.vals z4 := e4
    simp only [S_api_Flow.vals, List.cons.injEq, and_true] at e4
    obtain ⟨rfl, rfl, rfl, rfl, rfl, rfl, rfl, rfl, rfl⟩ := e4
    obtain rfl := List.head_eq_of_cons_eq e5
    exact ⟨⟨z0, z1, z2, z3, z4, z5⟩, rfl, ⟨o0, o1, o2, o3, o4, o5⟩⟩
end
structure S_api_Prefix where
  Addr : S_api_Addr
  Bits : Int
def S_api_Prefix.vals (r : S_api_Prefix) : List Go.Value := [.bool r.Addr.V6, .int .u64 r.Addr.Hi, .int .u64 r.Addr.Lo, .int .i64 r.Bits]
structure S_api_Prefix.ok (h : Heap) (r : S_api_Prefix) : Prop where
  k0 : S_api_Addr.ok h r.Addr
  k1 : (kOk .i64) h r.Bits
theorem S_api_Prefix.ok_fr (h h' : Heap) (r : S_api_Prefix) (f : Fr (fun _ => False) h h') (o : S_api_Prefix.ok h r) : S_api_Prefix.ok h' r :=
  ⟨S_api_Addr.ok_fr _ _ _ f o.k0, o.k1⟩
section
open Go.ChangeShapes Go.WideShapes Go.ChangeAt Go.RowKit
variable {H : Type} {enc : TypeId × Go.Value → H} {w : World}
set_option maxRecDepth 100000 in
theorem S_api_Prefix.op : Opens enc Try.prog w T_api_Prefix S_api_Prefix.vals S_api_Prefix.ok := fun fuel cs x h => by
  obtain ⟨xs, n, rfl, hx, hl, hxl, hf⟩ := DataW.trod_struct Try.underlying82 h
  rw [show Try.prog.cellsOf 82 = 4 from by kernel_rfl] at hl
  match xs, hxl, cs, hl with
  | [y0, y1], _, [v0, v1, v2, v3], _ =>
    have g0 : DataW.trod enc Try.prog w 0 (fun _ => true) true n 34 (([v0, v1, v2, v3].drop 0).take (Try.prog.cellsOf 34)) = some y0 := hf 0 _ rfl
    rw [show Try.prog.cellsOf 34 = 3 from by kernel_rfl] at g0
    obtain ⟨z0, e0, o0⟩ := (S_api_Addr.op : Opens enc Try.prog w 34 S_api_Addr.vals S_api_Addr.ok) _ _ _ g0
    have g1 : DataW.trod enc Try.prog w 0 (fun _ => true) true n 3 (([v0, v1, v2, v3].drop 3).take (Try.prog.cellsOf 3)) = some y1 := hf 1 _ rfl
    rw [show Try.prog.cellsOf 3 = 1 from by kernel_rfl] at g1
    obtain ⟨z1, e1, o1⟩ := ((op_int Try.underlying3) : Opens enc Try.prog w 3 (fun n : Int => [Go.Value.int .i64 n]) (kOk .i64)) _ _ _ g1
    have e0 : [v0, v1, v2] = S_api_Addr.vals z0 := e0
    simp only [S_api_Addr.vals, List.cons.injEq, and_true] at e0
    obtain ⟨rfl, rfl, rfl⟩ := e0
    obtain rfl := List.head_eq_of_cons_eq e1
    exact ⟨⟨z0, z1⟩, rfl, ⟨o0, o1⟩⟩
end
structure S_api_Suppress where
  Sid : Int
  By : Int
  Prefix : S_api_Prefix
def S_api_Suppress.vals (r : S_api_Suppress) : List Go.Value := [.int .i64 r.Sid, .int .i64 r.By, .bool r.Prefix.Addr.V6, .int .u64 r.Prefix.Addr.Hi, .int .u64 r.Prefix.Addr.Lo, .int .i64 r.Prefix.Bits]
structure S_api_Suppress.ok (h : Heap) (r : S_api_Suppress) : Prop where
  k0 : (kOk .i64) h r.Sid
  k1 : (kOk .i64) h r.By
  k2 : S_api_Prefix.ok h r.Prefix
theorem S_api_Suppress.ok_fr (h h' : Heap) (r : S_api_Suppress) (f : Fr (fun _ => False) h h') (o : S_api_Suppress.ok h r) : S_api_Suppress.ok h' r :=
  ⟨o.k0, o.k1, S_api_Prefix.ok_fr _ _ _ f o.k2⟩
section
open Go.ChangeShapes Go.WideShapes Go.ChangeAt Go.RowKit
variable {H : Type} {enc : TypeId × Go.Value → H} {w : World}
set_option maxRecDepth 100000 in
theorem S_api_Suppress.op : Opens enc Try.prog w T_api_Suppress S_api_Suppress.vals S_api_Suppress.ok := fun fuel cs x h => by
  obtain ⟨xs, n, rfl, hx, hl, hxl, hf⟩ := DataW.trod_struct Try.underlying84 h
  rw [show Try.prog.cellsOf 84 = 6 from by kernel_rfl] at hl
  match xs, hxl, cs, hl with
  | [y0, y1, y2], _, [v0, v1, v2, v3, v4, v5], _ =>
    have g0 : DataW.trod enc Try.prog w 0 (fun _ => true) true n 3 (([v0, v1, v2, v3, v4, v5].drop 0).take (Try.prog.cellsOf 3)) = some y0 := hf 0 _ rfl
    rw [show Try.prog.cellsOf 3 = 1 from by kernel_rfl] at g0
    obtain ⟨z0, e0, o0⟩ := ((op_int Try.underlying3) : Opens enc Try.prog w 3 (fun n : Int => [Go.Value.int .i64 n]) (kOk .i64)) _ _ _ g0
    have g1 : DataW.trod enc Try.prog w 0 (fun _ => true) true n 3 (([v0, v1, v2, v3, v4, v5].drop 1).take (Try.prog.cellsOf 3)) = some y1 := hf 1 _ rfl
    rw [show Try.prog.cellsOf 3 = 1 from by kernel_rfl] at g1
    obtain ⟨z1, e1, o1⟩ := ((op_int Try.underlying3) : Opens enc Try.prog w 3 (fun n : Int => [Go.Value.int .i64 n]) (kOk .i64)) _ _ _ g1
    have g2 : DataW.trod enc Try.prog w 0 (fun _ => true) true n 82 (([v0, v1, v2, v3, v4, v5].drop 2).take (Try.prog.cellsOf 82)) = some y2 := hf 2 _ rfl
    rw [show Try.prog.cellsOf 82 = 4 from by kernel_rfl] at g2
    obtain ⟨z2, e2, o2⟩ := (S_api_Prefix.op : Opens enc Try.prog w 82 S_api_Prefix.vals S_api_Prefix.ok) _ _ _ g2
    obtain rfl := List.head_eq_of_cons_eq e0
    obtain rfl := List.head_eq_of_cons_eq e1
    have e2 : [v2, v3, v4, v5] = S_api_Prefix.vals z2 := e2
    simp only [S_api_Prefix.vals, List.cons.injEq, and_true] at e2
    obtain ⟨rfl, rfl, rfl, rfl⟩ := e2
    exact ⟨⟨z0, z1, z2⟩, rfl, ⟨o0, o1, o2⟩⟩
end
end Go.Proofs.Ytfcnplakgmdfiaa
