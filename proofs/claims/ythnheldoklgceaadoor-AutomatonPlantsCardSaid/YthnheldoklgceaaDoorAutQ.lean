/-
  The program's Build; what stays of it.
-/
import Derived.Test.YthnheldoklgceaaDoorAutP
namespace Go.Proofs.YthnheldoklgceaaDoor
set_option linter.unusedSimpArgs false
set_option linter.unusedVariables false
set_option maxRecDepth 20000
open Go
open Go.IntKind (wrap)
/-- An automaton that can be read. -/
structure AutX (h : Heap) (a : Addr) (sg : List St) (L : List Pt) : Prop where
  blk : ∃ q cq pq pc, Cells h a [.slice q sg.length cq, .slice pq L.length pc] ∧ (∀ i (hi : i < sg.length), ∃ ad, q = some ad ∧ Cells h (ad.add (i * 259)) (stV sg[i])) ∧ PtOk h pq L
  ends : ∀ i (hi : i < sg.length), Row 1 inV h sg[i].eq sg[i].ec sg[i].en
/-- It can be read as long as nothing below N is written. -/
def AutS (N : Nat) (h : Heap) (a : Addr) (sg : List St) (L : List Pt) : Prop := N ≤ h.size ∧ ∀ h', Fr (fun x => N ≤ x) h h' → AutX h' a sg L
theorem AutS.fr {S : Nat → Prop} {N : Nat} {h h' : Heap} {a : Addr} {sg : List St} {L : List Pt} (A : AutS N h a sg L) (f : Fr S h h') (hs : ∀ x, x < h.size → S x → N ≤ x) : AutS N h' a sg L :=
  ⟨Nat.le_trans A.1 f.size, fun h2 f2 => A.2 h2 ((f.mono' hs).trans f2)⟩
theorem AutS.fr0 {N : Nat} {h h' : Heap} {a : Addr} {sg : List St} {L : List Pt} (A : AutS N h a sg L) (f : Fr (fun _ => False) h h') : AutS N h' a sg L := A.fr f fun _ _ h => h.elim
theorem AutS.now {N : Nat} {h : Heap} {a : Addr} {sg : List St} {L : List Pt} (A : AutS N h a sg L) : AutX h a sg L := A.2 h (Fr.refl _ _)
theorem fr_ge {N : Nat} {h h' : Heap} (f : Fr (fun x => N ≤ x) h h') (hN : h.size ≤ N) : Fr (fun _ => False) h h' := f.mono' fun x hx hn => by omega
theorem AutF.stays {o : Tag} {k : Nat} {h : Heap} {a : Addr} {sg : List St} {pq : Option Addr} {pc : Nat} {L : List Pt} (A : AutF o k h a sg pq L.length pc) (R : Row 2 ptV h pq pc L) : AutS h.size h a sg L := by
  refine ⟨Nat.le_refl _, fun h' f => ?_⟩
  have f0 := fr_ge f (Nat.le_refl _)
  have A := A.fr0 f0
  have R := R.fr0 f0
  obtain ⟨q, c, ow, Q, _⟩ := A.ex
  exact ⟨⟨q, c, pq, pc, ow.cells, fun i hi => Q.cellsAt stV_len (by omega) i hi, fun i hi => R.cellsAt ptV_len (by omega) i hi⟩, fun i hi => (A.ends i hi).1⟩
/-- The automaton of a list. -/
structure Auto (N : Nat) (h : Heap) (a : Addr) (sg : List St) (ws : List Nm) (L : List Pt) : Prop where
  s : AutS N h a sg L
  d : Done sg ws (endsL L L.length)
  w : ∀ w, w ∈ ws ↔ isPre L L.length w
  n : ws.length ≤ 40000
  m : L.length ≤ 512
  ok : errL L = 0
theorem Auto.fr {S : Nat → Prop} {N : Nat} {h h' : Heap} {a : Addr} {sg : List St} {ws : List Nm} {L : List Pt} (A : Auto N h a sg ws L) (f : Fr S h h') (hs : ∀ x, x < h.size → S x → N ≤ x) : Auto N h' a sg ws L := { A with s := A.s.fr f hs }
theorem Auto.fr0 {N : Nat} {h h' : Heap} {a : Addr} {sg : List St} {ws : List Nm} {L : List Pt} (f : Fr (fun _ => False) h h') (A : Auto N h a sg ws L) : Auto N h' a sg ws L := A.fr f fun _ _ h => h.elim
def errB (L : List Pt) : Int := if L.length > 512 then 3 else errL L
theorem Build_c [Gh] (s : Sl Pt) {ok : Heap → Pt → Prop} {h : Heap} (os : SlOk 2 ptV ok h s) (okf : ∀ h h' x, Fr (fun _ => False) h h' → ok h x → ok h' x) (hl : s.xs.length ≤ 2 ^ 20) {Q : Value → Heap → Prop}
    (hbad : ∀ h', Fr (fun _ => False) h h' → errB s.xs ≠ 0 → Q (.tuple #[.pointer none, .int .i64 (errB s.xs)]) h')
    (hk : ∀ a h' sg ws, Fr (fun _ => False) h h' → Auto h'.size h' a sg ws s.xs → errB s.xs = 0 → Q (.tuple #[.pointer (some a), .int .i64 (errB s.xs)]) h') :
    CallT Tryd.prog fn_automaton_Build #[.slice s.p s.xs.length s.cap] h Q := by
  refine build_pre s os okf hl (fun x => 0) 0 (fun _ _ => Nat.le_refl _) (fun h' f hn => ?_) (fun h' f hn he => ?_) fun a o' h' sg ws pq pc hO hr f A R hpq T hw hN hm he => ?_
  · have := hbad h' f
    unfold errB at this
    rw [if_pos hn] at this
    exact this (by decide)
  · have := hbad h' f
    unfold errB at this
    rw [if_neg (by omega)] at this
    exact this he
  · unfold automaton_Build_b4
    refine link_c A T hN fun o2 h2 sg2 hO2 hr2 f2 A2 D => ⟨rfl, ?_⟩
    have eb : errB s.xs = 0 := by unfold errB; rw [if_neg (by omega)]; exact he
    have := hk a h2 sg2 ws (f.tr f2 fun x hx hh => by have := hO x hx; simp only at this; omega) ⟨A2.stays (R.fr f2 fun x hx hh => by have := (hpq x hx).2; omega), D, hw, hN, hm, he⟩ eb
    rw [eb] at this; exact this
end Go.Proofs.YthnheldoklgceaaDoor
