/-
  Printed by wip/tool/types.py: records of the struct types that laws take; what their cells are, and that every argument reads as one.
-/
import Derived.Test.YtmjbcnbjedipdaaDoorArgs
import Derived.Test.YtmjbcnbjedipdaaDoorG1
namespace Go.Proofs.YtmjbcnbjedipdaaDoor
set_option linter.unusedSimpArgs false
set_option linter.unusedVariables false
set_option maxRecDepth 20000
open Go
structure S_api_DnsQuestion where
  Name : List UInt8
  Type_ : Int
def S_api_DnsQuestion.vals (r : S_api_DnsQuestion) : List Go.Value := [.string (bs r.Name), .int .i64 r.Type_]
structure S_api_DnsQuestion.ok (h : Heap) (r : S_api_DnsQuestion) : Prop where
  k0 : sOk h r.Name
  k1 : (kOk .i64) h r.Type_
theorem S_api_DnsQuestion.ok_fr (h h' : Heap) (r : S_api_DnsQuestion) (f : Fr (fun _ => False) h h') (o : S_api_DnsQuestion.ok h r) : S_api_DnsQuestion.ok h' r :=
  ⟨o.k0, o.k1⟩
section
open Go.ChangeShapes Go.WideShapes Go.ChangeAt Go.RowKit
variable {H : Type} {enc : TypeId × Go.Value → H} {w : World}
set_option maxRecDepth 100000 in
theorem S_api_DnsQuestion.op : Opens enc Tryd.prog w T_api_DnsQuestion S_api_DnsQuestion.vals S_api_DnsQuestion.ok := fun fuel cs x h => by
  obtain ⟨xs, n, rfl, hx, hl, hxl, hf⟩ := DataW.trod_struct Tryd.underlying47 h
  rw [show Tryd.prog.cellsOf 47 = 2 from by kernel_rfl] at hl
  match xs, hxl, cs, hl with
  | [y0, y1], _, [v0, v1], _ =>
    have g0 : DataW.trod enc Tryd.prog w 0 (fun _ => true) true n 9 (([v0, v1].drop 0).take (Tryd.prog.cellsOf 9)) = some y0 := hf 0 _ rfl
    rw [show Tryd.prog.cellsOf 9 = 1 from by kernel_rfl] at g0
    obtain ⟨z0, e0, o0⟩ := ((op_str Tryd.underlying9) : Opens enc Tryd.prog w 9 (fun l : List UInt8 => [Go.Value.string (bs l)]) sOk) _ _ _ g0
    have g1 : DataW.trod enc Tryd.prog w 0 (fun _ => true) true n 3 (([v0, v1].drop 1).take (Tryd.prog.cellsOf 3)) = some y1 := hf 1 _ rfl
    rw [show Tryd.prog.cellsOf 3 = 1 from by kernel_rfl] at g1
    obtain ⟨z1, e1, o1⟩ := ((op_int Tryd.underlying3) : Opens enc Tryd.prog w 3 (fun n : Int => [Go.Value.int .i64 n]) (kOk .i64)) _ _ _ g1
    obtain rfl := List.head_eq_of_cons_eq e0
    obtain rfl := List.head_eq_of_cons_eq e1
    exact ⟨⟨z0, z1⟩, rfl, ⟨o0, o1⟩⟩
end
structure S_api_DnsRecord where
  Name : List UInt8
  Type_ : Int
  Ttl : Int
  Data : List UInt8
def S_api_DnsRecord.vals (r : S_api_DnsRecord) : List Go.Value := [.string (bs r.Name), .int .i64 r.Type_, .int .i64 r.Ttl, .string (bs r.Data)]
structure S_api_DnsRecord.ok (h : Heap) (r : S_api_DnsRecord) : Prop where
  k0 : sOk h r.Name
  k1 : (kOk .i64) h r.Type_
  k2 : (kOk .i64) h r.Ttl
  k3 : sOk h r.Data
theorem S_api_DnsRecord.ok_fr (h h' : Heap) (r : S_api_DnsRecord) (f : Fr (fun _ => False) h h') (o : S_api_DnsRecord.ok h r) : S_api_DnsRecord.ok h' r :=
  ⟨o.k0, o.k1, o.k2, o.k3⟩
section
open Go.ChangeShapes Go.WideShapes Go.ChangeAt Go.RowKit
variable {H : Type} {enc : TypeId × Go.Value → H} {w : World}
set_option maxRecDepth 100000 in
theorem S_api_DnsRecord.op : Opens enc Tryd.prog w T_api_DnsRecord S_api_DnsRecord.vals S_api_DnsRecord.ok := fun fuel cs x h => by
  obtain ⟨xs, n, rfl, hx, hl, hxl, hf⟩ := DataW.trod_struct Tryd.underlying49 h
  rw [show Tryd.prog.cellsOf 49 = 4 from by kernel_rfl] at hl
  match xs, hxl, cs, hl with
  | [y0, y1, y2, y3], _, [v0, v1, v2, v3], _ =>
    have g0 : DataW.trod enc Tryd.prog w 0 (fun _ => true) true n 9 (([v0, v1, v2, v3].drop 0).take (Tryd.prog.cellsOf 9)) = some y0 := hf 0 _ rfl
    rw [show Tryd.prog.cellsOf 9 = 1 from by kernel_rfl] at g0
    obtain ⟨z0, e0, o0⟩ := ((op_str Tryd.underlying9) : Opens enc Tryd.prog w 9 (fun l : List UInt8 => [Go.Value.string (bs l)]) sOk) _ _ _ g0
    have g1 : DataW.trod enc Tryd.prog w 0 (fun _ => true) true n 3 (([v0, v1, v2, v3].drop 1).take (Tryd.prog.cellsOf 3)) = some y1 := hf 1 _ rfl
    rw [show Tryd.prog.cellsOf 3 = 1 from by kernel_rfl] at g1
    obtain ⟨z1, e1, o1⟩ := ((op_int Tryd.underlying3) : Opens enc Tryd.prog w 3 (fun n : Int => [Go.Value.int .i64 n]) (kOk .i64)) _ _ _ g1
    have g2 : DataW.trod enc Tryd.prog w 0 (fun _ => true) true n 3 (([v0, v1, v2, v3].drop 2).take (Tryd.prog.cellsOf 3)) = some y2 := hf 2 _ rfl
    rw [show Tryd.prog.cellsOf 3 = 1 from by kernel_rfl] at g2
    obtain ⟨z2, e2, o2⟩ := ((op_int Tryd.underlying3) : Opens enc Tryd.prog w 3 (fun n : Int => [Go.Value.int .i64 n]) (kOk .i64)) _ _ _ g2
    have g3 : DataW.trod enc Tryd.prog w 0 (fun _ => true) true n 9 (([v0, v1, v2, v3].drop 3).take (Tryd.prog.cellsOf 9)) = some y3 := hf 3 _ rfl
    rw [show Tryd.prog.cellsOf 9 = 1 from by kernel_rfl] at g3
    obtain ⟨z3, e3, o3⟩ := ((op_str Tryd.underlying9) : Opens enc Tryd.prog w 9 (fun l : List UInt8 => [Go.Value.string (bs l)]) sOk) _ _ _ g3
    obtain rfl := List.head_eq_of_cons_eq e0
    obtain rfl := List.head_eq_of_cons_eq e1
    obtain rfl := List.head_eq_of_cons_eq e2
    obtain rfl := List.head_eq_of_cons_eq e3
    exact ⟨⟨z0, z1, z2, z3⟩, rfl, ⟨o0, o1, o2, o3⟩⟩
end
structure S_api_Dns where
  Id : Int
  Flags : Int
  Questions : Sl S_api_DnsQuestion
  Answers : Sl S_api_DnsRecord
def S_api_Dns.vals (r : S_api_Dns) : List Go.Value := [.int .i64 r.Id, .int .i64 r.Flags, .slice r.Questions.p r.Questions.xs.length r.Questions.cap, .slice r.Answers.p r.Answers.xs.length r.Answers.cap]
structure S_api_Dns.ok (h : Heap) (r : S_api_Dns) : Prop where
  k0 : (kOk .i64) h r.Id
  k1 : (kOk .i64) h r.Flags
  k2 : (SlOk 2 S_api_DnsQuestion.vals S_api_DnsQuestion.ok) h r.Questions
  k3 : (SlOk 4 S_api_DnsRecord.vals S_api_DnsRecord.ok) h r.Answers
theorem S_api_Dns.ok_fr (h h' : Heap) (r : S_api_Dns) (f : Fr (fun _ => False) h h') (o : S_api_Dns.ok h r) : S_api_Dns.ok h' r :=
  ⟨o.k0, o.k1, (fr_sl S_api_DnsQuestion.ok_fr) _ _ _ f o.k2, (fr_sl S_api_DnsRecord.ok_fr) _ _ _ f o.k3⟩
section
open Go.ChangeShapes Go.WideShapes Go.ChangeAt Go.RowKit
variable {H : Type} {enc : TypeId × Go.Value → H} {w : World}
set_option maxRecDepth 100000 in
theorem S_api_Dns.op : Opens enc Tryd.prog w T_api_Dns S_api_Dns.vals S_api_Dns.ok := fun fuel cs x h => by
  obtain ⟨xs, n, rfl, hx, hl, hxl, hf⟩ := DataW.trod_struct Tryd.underlying27 h
  rw [show Tryd.prog.cellsOf 27 = 4 from by kernel_rfl] at hl
  match xs, hxl, cs, hl with
  | [y0, y1, y2, y3], _, [v0, v1, v2, v3], _ =>
    have g0 : DataW.trod enc Tryd.prog w 0 (fun _ => true) true n 3 (([v0, v1, v2, v3].drop 0).take (Tryd.prog.cellsOf 3)) = some y0 := hf 0 _ rfl
    rw [show Tryd.prog.cellsOf 3 = 1 from by kernel_rfl] at g0
    obtain ⟨z0, e0, o0⟩ := ((op_int Tryd.underlying3) : Opens enc Tryd.prog w 3 (fun n : Int => [Go.Value.int .i64 n]) (kOk .i64)) _ _ _ g0
    have g1 : DataW.trod enc Tryd.prog w 0 (fun _ => true) true n 3 (([v0, v1, v2, v3].drop 1).take (Tryd.prog.cellsOf 3)) = some y1 := hf 1 _ rfl
    rw [show Tryd.prog.cellsOf 3 = 1 from by kernel_rfl] at g1
    obtain ⟨z1, e1, o1⟩ := ((op_int Tryd.underlying3) : Opens enc Tryd.prog w 3 (fun n : Int => [Go.Value.int .i64 n]) (kOk .i64)) _ _ _ g1
    have g2 : DataW.trod enc Tryd.prog w 0 (fun _ => true) true n 24 (([v0, v1, v2, v3].drop 2).take (Tryd.prog.cellsOf 24)) = some y2 := hf 2 _ rfl
    rw [show Tryd.prog.cellsOf 24 = 1 from by kernel_rfl] at g2
    obtain ⟨z2, e2, o2⟩ := ((op_sl Tryd.underlying24 (by kernel_rfl) (fun _ => rfl) S_api_DnsQuestion.op) : Opens enc Tryd.prog w 24 (fun s : Sl S_api_DnsQuestion => [s.v]) (SlOk 2 S_api_DnsQuestion.vals S_api_DnsQuestion.ok)) _ _ _ g2
    have g3 : DataW.trod enc Tryd.prog w 0 (fun _ => true) true n 25 (([v0, v1, v2, v3].drop 3).take (Tryd.prog.cellsOf 25)) = some y3 := hf 3 _ rfl
    rw [show Tryd.prog.cellsOf 25 = 1 from by kernel_rfl] at g3
    obtain ⟨z3, e3, o3⟩ := ((op_sl Tryd.underlying25 (by kernel_rfl) (fun _ => rfl) S_api_DnsRecord.op) : Opens enc Tryd.prog w 25 (fun s : Sl S_api_DnsRecord => [s.v]) (SlOk 4 S_api_DnsRecord.vals S_api_DnsRecord.ok)) _ _ _ g3
    obtain rfl := List.head_eq_of_cons_eq e0
    obtain rfl := List.head_eq_of_cons_eq e1
    obtain rfl := List.head_eq_of_cons_eq e2
    obtain rfl := List.head_eq_of_cons_eq e3
    exact ⟨⟨z0, z1, z2, z3⟩, rfl, ⟨o0, o1, o2, o3⟩⟩
end
end Go.Proofs.YtmjbcnbjedipdaaDoor
