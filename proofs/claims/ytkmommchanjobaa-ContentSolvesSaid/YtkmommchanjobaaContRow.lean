/-
  What arguments that are contents or tests read as.
-/
import Derived.Test.YtkmommchanjobaaContJ
import Derived.WalkKit
import Derived.ProofKit
import Derived.OpenShut
import Derived.ShutString
import Derived.ChangeOld
import Derived.Below
import Derived.Carry
import Derived.SizedLaws
namespace Go.Proofs.Ytkmommchanjobaa
set_option linter.unusedSimpArgs false
set_option linter.unusedVariables false
open Go Go.ChangeShapes Go.WideShapes Go.ChangeAt Go.RowKit
theorem own : ownKnob Try.prog.godebug = none := by kernel_rfl
theorem laidOut : laidOutB Try.prog = true := by kernel_rfl
section
variable {H : Type} {enc : TypeId × Value → H} {w : World} {base : Nat} {spare : Nat → Bool} {held : Bool} {fuel : Nat} {cs : List Value} {x : DataW H × List MemPlace}
theorem cells3 : Try.prog.cellsOf 3 = 1 := by kernel_rfl
theorem cells4 : Try.prog.cellsOf 4 = 1 := by kernel_rfl
theorem cells9 : Try.prog.cellsOf 9 = 1 := by kernel_rfl
theorem cells34 : Try.prog.cellsOf 34 = 7 := by kernel_rfl
theorem cells23 : Try.prog.cellsOf 23 = 7 := by kernel_rfl
theorem openTs (h : DataW.trod enc Try.prog w base spare held fuel 34 cs = some x) : ∃ t : Ts, cs = tsV t := by
  obtain ⟨xs, n, rfl, hx, hl, hxl, hf⟩ := DataW.trod_struct Try.underlying34 h
  rw [cells34] at hl
  match xs, hxl, cs, hl with
  | [y0, y1, y2, y3, y4, y5, y6], _, [v0, v1, v2, v3, v4, v5, v6], _ =>
    have g0 : DataW.trod enc Try.prog w base spare held n 3 (([v0, v1, v2, v3, v4, v5, v6].drop 0).take (Try.prog.cellsOf 3)) = some y0 := hf 0 _ rfl
    rw [cells3] at g0
    have g1 : DataW.trod enc Try.prog w base spare held n 3 (([v0, v1, v2, v3, v4, v5, v6].drop 1).take (Try.prog.cellsOf 3)) = some y1 := hf 1 _ rfl
    rw [cells3] at g1
    have g2 : DataW.trod enc Try.prog w base spare held n 3 (([v0, v1, v2, v3, v4, v5, v6].drop 2).take (Try.prog.cellsOf 3)) = some y2 := hf 2 _ rfl
    rw [cells3] at g2
    have g3 : DataW.trod enc Try.prog w base spare held n 3 (([v0, v1, v2, v3, v4, v5, v6].drop 3).take (Try.prog.cellsOf 3)) = some y3 := hf 3 _ rfl
    rw [cells3] at g3
    have g4 : DataW.trod enc Try.prog w base spare held n 4 (([v0, v1, v2, v3, v4, v5, v6].drop 4).take (Try.prog.cellsOf 4)) = some y4 := hf 4 _ rfl
    rw [cells4] at g4
    have g5 : DataW.trod enc Try.prog w base spare held n 4 (([v0, v1, v2, v3, v4, v5, v6].drop 5).take (Try.prog.cellsOf 4)) = some y5 := hf 5 _ rfl
    rw [cells4] at g5
    have g6 : DataW.trod enc Try.prog w base spare held n 4 (([v0, v1, v2, v3, v4, v5, v6].drop 6).take (Try.prog.cellsOf 4)) = some y6 := hf 6 _ rfl
    rw [cells4] at g6
    obtain ⟨n0, e0, _⟩ := DataW.trod_int Try.underlying3 g0
    obtain ⟨n1, e1, _⟩ := DataW.trod_int Try.underlying3 g1
    obtain ⟨n2, e2, _⟩ := DataW.trod_int Try.underlying3 g2
    obtain ⟨n3, e3, _⟩ := DataW.trod_int Try.underlying3 g3
    obtain ⟨n4, e4, _⟩ := DataW.trod_bool Try.underlying4 g4
    obtain ⟨n5, e5, _⟩ := DataW.trod_bool Try.underlying4 g5
    obtain ⟨n6, e6, _⟩ := DataW.trod_bool Try.underlying4 g6
    have u0 : v0 = .int .i64 n0 := List.head_eq_of_cons_eq e0
    have u1 : v1 = .int .i64 n1 := List.head_eq_of_cons_eq e1
    have u2 : v2 = .int .i64 n2 := List.head_eq_of_cons_eq e2
    have u3 : v3 = .int .i64 n3 := List.head_eq_of_cons_eq e3
    have u4 : v4 = .bool n4 := List.head_eq_of_cons_eq e4
    have u5 : v5 = .bool n5 := List.head_eq_of_cons_eq e5
    have u6 : v6 = .bool n6 := List.head_eq_of_cons_eq e6
    rw [u0, u1, u2, u3, u4, u5, u6]
    exact ⟨⟨n0, n1, n2, n3, n4, n5, n6⟩, rfl⟩
theorem openCn (h : DataW.trod enc Try.prog w base spare held fuel 23 cs = some x) : ∃ c : Cn, cs = cnV c := by
  obtain ⟨xs, n, rfl, hx, hl, hxl, hf⟩ := DataW.trod_struct Try.underlying23 h
  rw [cells23] at hl
  match xs, hxl, cs, hl with
  | [y0, y1, y2, y3, y4, y5, y6], _, [v0, v1, v2, v3, v4, v5, v6], _ =>
    have g0 : DataW.trod enc Try.prog w base spare held n 9 (([v0, v1, v2, v3, v4, v5, v6].drop 0).take (Try.prog.cellsOf 9)) = some y0 := hf 0 _ rfl
    rw [cells9] at g0
    have g1 : DataW.trod enc Try.prog w base spare held n 4 (([v0, v1, v2, v3, v4, v5, v6].drop 1).take (Try.prog.cellsOf 4)) = some y1 := hf 1 _ rfl
    rw [cells4] at g1
    have g2 : DataW.trod enc Try.prog w base spare held n 4 (([v0, v1, v2, v3, v4, v5, v6].drop 2).take (Try.prog.cellsOf 4)) = some y2 := hf 2 _ rfl
    rw [cells4] at g2
    have g3 : DataW.trod enc Try.prog w base spare held n 4 (([v0, v1, v2, v3, v4, v5, v6].drop 3).take (Try.prog.cellsOf 4)) = some y3 := hf 3 _ rfl
    rw [cells4] at g3
    have g4 : DataW.trod enc Try.prog w base spare held n 3 (([v0, v1, v2, v3, v4, v5, v6].drop 4).take (Try.prog.cellsOf 3)) = some y4 := hf 4 _ rfl
    rw [cells3] at g4
    have g5 : DataW.trod enc Try.prog w base spare held n 3 (([v0, v1, v2, v3, v4, v5, v6].drop 5).take (Try.prog.cellsOf 3)) = some y5 := hf 5 _ rfl
    rw [cells3] at g5
    have g6 : DataW.trod enc Try.prog w base spare held n 4 (([v0, v1, v2, v3, v4, v5, v6].drop 6).take (Try.prog.cellsOf 4)) = some y6 := hf 6 _ rfl
    rw [cells4] at g6
    obtain ⟨n0, e0, _⟩ := DataW.trod_string Try.underlying9 g0
    obtain ⟨n1, e1, _⟩ := DataW.trod_bool Try.underlying4 g1
    obtain ⟨n2, e2, _⟩ := DataW.trod_bool Try.underlying4 g2
    obtain ⟨n3, e3, _⟩ := DataW.trod_bool Try.underlying4 g3
    obtain ⟨n4, e4, _⟩ := DataW.trod_int Try.underlying3 g4
    obtain ⟨n5, e5, _⟩ := DataW.trod_int Try.underlying3 g5
    obtain ⟨n6, e6, _⟩ := DataW.trod_bool Try.underlying4 g6
    have u0 : v0 = .string n0 := List.head_eq_of_cons_eq e0
    have u1 : v1 = .bool n1 := List.head_eq_of_cons_eq e1
    have u2 : v2 = .bool n2 := List.head_eq_of_cons_eq e2
    have u3 : v3 = .bool n3 := List.head_eq_of_cons_eq e3
    have u4 : v4 = .int .i64 n4 := List.head_eq_of_cons_eq e4
    have u5 : v5 = .int .i64 n5 := List.head_eq_of_cons_eq e5
    have u6 : v6 = .bool n6 := List.head_eq_of_cons_eq e6
    rw [u0, u1, u2, u3, u4, u5, u6]
    exact ⟨⟨n0.data.toList, n1, n2, n3, n4, n5, n6⟩, by simp [cnV, bs]⟩
end
end Go.Proofs.Ytkmommchanjobaa
