/-
  What nil objects answer; the number of states.
-/
import Derived.Test.YthnheldoklgceaaDoorAutL
namespace Go.Proofs.YthnheldoklgceaaDoor
set_option linter.unusedSimpArgs false
set_option linter.unusedVariables false
set_option maxRecDepth 20000
open Go
open Go.IntKind (wrap)
theorem States_c [Gh] {o : Tag} {k : Nat} {h : Heap} {a : Addr} {sg : List St} {pq : Option Addr} {pn pc : Nat} (A : AutF o k h a sg pq pn pc) {Q : Value → Heap → Prop} (hk : Q (.int .i64 sg.length) h) : CallT Tryd.prog fn_automaton_Automaton_States #[.pointer (some a)] h Q := by
  apply automaton_Automaton_States_s
  unfold automaton_Automaton_States_v
  obtain ⟨q, c, hc, _⟩ := A.cell
  rw [if_neg (by simp)]
  exact nn_mk (ldL_mk hc hk)
theorem States_nil [Gh] {h : Heap} {Q : Value → Heap → Prop} (hk : Q (.int .i64 0) h) : CallT Tryd.prog fn_automaton_Automaton_States #[.pointer none] h Q := by
  apply automaton_Automaton_States_s
  unfold automaton_Automaton_States_v
  rw [if_pos (by rfl)]; exact hk
theorem Begin_nil [Gh] {h : Heap} {Q : Value → Heap → Prop} (hk : Q (.pointer none) h) : CallT Tryd.prog fn_automaton_Automaton_Begin #[.pointer none] h Q := by
  apply automaton_Automaton_Begin_s
  unfold automaton_Automaton_Begin_v
  rw [if_pos (by rfl)]; exact hk
theorem Scan_nil [Gh] (s : ByteArray) {h : Heap} {Q : Value → Heap → Prop} (hk : Q (.slice none 0 0) h) : CallT Tryd.prog fn_automaton_Cursor_Scan #[.pointer none, .string s] h Q := by
  apply automaton_Cursor_Scan_s
  unfold automaton_Cursor_Scan_v
  rw [if_pos (by rfl)]; exact hk
theorem All_nil [Gh] (s : ByteArray) {h : Heap} {Q : Value → Heap → Prop} (hk : Q (.slice none 0 0) h) : CallT Tryd.prog fn_automaton_Automaton_All #[.pointer none, .string s] h Q := by
  apply automaton_Automaton_All_s
  unfold automaton_Automaton_All_v
  exact Begin_nil ⟨_, rfl, Scan_nil s ⟨_, _, _, rfl, hk⟩⟩
end Go.Proofs.YthnheldoklgceaaDoor
