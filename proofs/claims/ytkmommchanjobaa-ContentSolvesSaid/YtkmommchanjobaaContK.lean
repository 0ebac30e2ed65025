/-
  The law ContentPlaces.
-/
import Derived.Test.YtkmommchanjobaaContRow
namespace Go.Proofs.Ytkmommchanjobaa
set_option linter.unusedSimpArgs false
set_option linter.unusedVariables false
open Go
theorem ContentPlaces_c [Gh] (c : Cn) (d : List UInt8) (n0 n1 n2 : Int) {h : Heap} {Q : Value → Heap → Prop} (hk : ∀ h', Fr (fun _ => False) h h' → Q (.bool true) h') :
    CallT Try.prog fn_law44_ContentPlaces #[.agg (cnV c).toArray, .string (bs d), .agg #[.int .i64 n0, .int .i64 n1, .int .i64 n2]] h Q := by
  obtain ⟨pat, nc, neg, rel, off, dep, fast⟩ := c
  refine law44_ContentPlaces_s (bs pat) nc neg rel off dep fast (bs d) n0 n1 n2 ?_
  simp only [law44_ContentPlaces_b3, law44_ContentPlaces_b6, law44_ContentPlaces_b5, law44_ContentPlaces_b4, law44_ContentPlaces_b2, law44_ContentPlaces_b1, law44_ContentPlaces_v]
  refine alV_mk (o := .cells (cnV ⟨pat, nc, neg, rel, off, dep, fast⟩).toArray 23) ?_
  refine alV_mk ?_
  have fp := (Fr.push (fun _ => False) h (.cells (cnV ⟨pat, nc, neg, rel, off, dep, fast⟩).toArray 23 (0, 0))).trans (Fr.push (fun _ => False) _ (.cells #[Value.int .i64 n0, Value.int .i64 n1, Value.int .i64 n2] 24 (0, 0)))
  have r0 : CnAt (h.push (.cells (cnV ⟨pat, nc, neg, rel, off, dep, fast⟩).toArray 23 (0, 0))) ⟨h.size, 0, none⟩ ⟨pat, nc, neg, rel, off, dep, fast⟩ := by
    constructor <;> (try rw [add_mk]) <;> rw [hcell_blk get_push_self] <;> rfl
  have r := r0.fr (Fr.push (fun _ => False) _ (.cells #[Value.int .i64 n0, Value.int .i64 n1, Value.int .i64 n2] 24 (0, 0))) id
  have eN : ((h.push (.cells (cnV ⟨pat, nc, neg, rel, off, dep, fast⟩).toArray 23 (0, 0))).push (.cells #[Value.int .i64 n0, Value.int .i64 n1, Value.int .i64 n2] 24 (0, 0)))[(h.push (.cells (cnV ⟨pat, nc, neg, rel, off, dep, fast⟩).toArray 23 (0, 0))).size]? = some (.cells #[Value.int .i64 n0, Value.int .i64 n1, Value.int .i64 n2] 24 (0, 0)) := get_push_self
  generalize ((h.push (.cells (cnV ⟨pat, nc, neg, rel, off, dep, fast⟩).toArray 23 (0, 0))).push (.cells #[Value.int .i64 n0, Value.int .i64 n1, Value.int .i64 n2] 24 (0, 0))) = h1 at *
  generalize (h.push (.cells (cnV ⟨pat, nc, neg, rel, off, dep, fast⟩).toArray 23 (0, 0))).size = nb at *
  clear r0
  generalize Addr.mk h.size 0 none = b at *
  refine ldS_mk r.c0 (ldB_mk r.c1 (ldB_mk r.c2 (ldB_mk r.c3 (ldI_mk r.c4 (ldI_mk r.c5 (ldB_mk r.c6 ?_))))))
  refine alV_mk (o := .cells (cnV ⟨pat, nc, neg, rel, off, dep, fast⟩).toArray 23) ?_
  have f2 := Fr.push (fun _ => False) h1 (.cells (cnV ⟨pat, nc, neg, rel, off, dep, fast⟩).toArray 23 (0, 0))
  have rc : RdC (fun _ => False) (h1.push (.cells (cnV ⟨pat, nc, neg, rel, off, dep, fast⟩).toArray 23 (0, 0))) (some ⟨h1.size, 0, none⟩) [⟨pat, nc, neg, rel, off, dep, fast⟩] := by
    refine rdC_blk (t := 23) ?_ id
    rw [get_push_self]; simp
  have r2 := r.fr f2 id
  have eN2 := f2.get eN id
  generalize h1.push (.cells (cnV ⟨pat, nc, neg, rel, off, dep, fast⟩).toArray 23 (0, 0)) = h2 at *
  have wake : ∀ h', Fr (fun _ => False) h2 h' → CallT Try.prog fn_law44_awake #[] h' fun v h2 => ∃ t : Bool, v = Value.bool t ∧ Q (Value.bool t) h2 :=
    fun h' f => awake_c fun h3 f3 => ⟨_, rfl, hk _ (((fp.trans f2).trans f).trans f3)⟩
  have g0 : ∀ h', Fr (fun _ => False) h2 h' → hcell h' (Addr.add ⟨nb, 0, none⟩ (((0 : Int)).toNat * 1)) = some (.int .i64 n0) := fun h' f => by rw [add_mk, hcell_blk (f.get eN2 id)]; rfl
  have g1 : ∀ h', Fr (fun _ => False) h2 h' → hcell h' (Addr.add ⟨nb, 0, none⟩ (((1 : Int)).toNat * 1)) = some (.int .i64 n1) := fun h' f => by rw [add_mk, hcell_blk (f.get eN2 id)]; rfl
  have g2 : ∀ h', Fr (fun _ => False) h2 h' → hcell h' (Addr.add ⟨nb, 0, none⟩ (((2 : Int)).toNat * 1)) = some (.int .i64 n2) := fun h' f => by rw [add_mk, hcell_blk (f.get eN2 id)]; rfl
  have fr0 := Fr.refl (fun _ => False) h2
  refine sound_c (ts := []) (Ta := none) rc rdT_nil fun res hres => ⟨_, rfl, ?_⟩
  cases res with
  | false => rw [if_pos (by rfl)]; exact wake _ (Fr.refl _ _)
  | true =>
    rw [if_neg (by simp)]
    have S := hres rfl
    have hd := S.d
    have hoc : OkC ⟨pat, nc, neg, rel, off, dep, fast⟩ := S.okc _ (by simp)
    have hpl : pat.length < 2 ^ 40 := by have := hoc.1; simp only at this; omega
    refine ⟨by decide, by decide, ldI_mk (g1 _ fr0) ?_⟩
    refine within_c _ ⟨_, rfl, ?_⟩
    by_cases q1 : ¬ (-1073741824 ≤ n1 ∧ n1 ≤ 1073741824)
    · rw [if_pos (by rw [Bool.not_eq_true', decide_eq_false_iff_not]; exact q1)]; exact wake _ (Fr.refl _ _)
    have q1 := Classical.not_not.1 q1
    rw [if_neg (by simpa using q1)]
    refine ⟨by decide, by decide, ldI_mk (g2 _ fr0) ?_⟩
    refine within_c _ ⟨_, rfl, ?_⟩
    by_cases q2 : ¬ (-1073741824 ≤ n2 ∧ n2 ≤ 1073741824)
    · rw [if_pos (by rw [Bool.not_eq_true', decide_eq_false_iff_not]; exact q2)]; exact wake _ (Fr.refl _ _)
    have q2 := Classical.not_not.1 q2
    rw [if_neg (by simpa using q2)]
    refine ⟨by decide, by decide, ldI_mk (g1 _ fr0) ?_⟩
    by_cases q3 : n1 < 0
    · rw [if_pos (by simpa using q3)]; exact wake _ (Fr.refl _ _)
    rw [if_neg (by simpa using q3)]
    refine ⟨by decide, by decide, ldI_mk (g2 _ fr0) ?_⟩
    by_cases q4 : n2 < 0
    · rw [if_pos (by simpa using q4)]; exact wake _ (Fr.refl _ _)
    rw [if_neg (by simpa using q4)]
    refine ldS_mk r2.c0 (ldB_mk r2.c1 (ldB_mk r2.c2 (ldB_mk r2.c3 (ldI_mk r2.c4 (ldI_mk r2.c5 (ldB_mk r2.c6 ?_))))))
    refine ⟨by decide, by decide, ldI_mk (g1 _ fr0) ⟨by decide, by decide, ldI_mk (g2 _ fr0) ?_⟩⟩
    refine Bounds_c ⟨pat, nc, neg, rel, off, dep, fast⟩ n1 n2 hoc ⟨by omega, by omega⟩ ⟨by omega, by omega⟩ fun h3 f3 => ⟨_, _, rfl, ?_⟩
    have r3 := r2.fr f3 id
    refine ldS_mk r3.c0 (ldB_mk r3.c1 (ldB_mk r3.c2 (ldB_mk r3.c3 (ldI_mk r3.c4 (ldI_mk r3.c5 (ldB_mk r3.c6 ?_))))))
    refine ⟨by decide, by decide, ldI_mk (g1 _ f3) ⟨by decide, by decide, ldI_mk (g2 _ f3) ?_⟩⟩
    refine rBounds_c ⟨pat, nc, neg, rel, off, dep, fast⟩ n1 n2 hoc ⟨by omega, by omega⟩ ⟨by omega, by omega⟩ fun h4 f4 => ⟨_, _, rfl, ?_⟩
    have f04 := f3.trans f4
    have r4 := r3.fr f4 id
    refine ldS_mk r4.c0 (ldB_mk r4.c1 (ldB_mk r4.c2 (ldB_mk r4.c3 (ldI_mk r4.c4 (ldI_mk r4.c5 (ldB_mk r4.c6 ?_))))))
    refine ⟨by decide, by decide, ldI_mk (g0 _ f04) ?_⟩
    refine ldS_mk r4.c0 (ldB_mk r4.c1 (ldB_mk r4.c2 (ldB_mk r4.c3 (ldI_mk r4.c4 (ldI_mk r4.c5 (ldB_mk r4.c6 ?_))))))
    refine ⟨by decide, by decide, ldI_mk (g0 _ f04) ?_⟩
    refine At_c ⟨pat, nc, neg, rel, off, dep, fast⟩ d n0 hpl (by omega) fun h5 f5 => ⟨_, rfl, ?_⟩
    have f05 := f04.trans f5
    have r5 := r4.fr f5 id
    refine ⟨ldS_mk r5.c0 (ldB_mk r5.c1 (ldB_mk r5.c2 (ldB_mk r5.c3 (ldI_mk r5.c4 (ldI_mk r5.c5 (ldB_mk r5.c6 rfl)))))), ldI_mk (g0 _ f05) rfl, ?_⟩
    refine rAt_c ⟨pat, nc, neg, rel, off, dep, fast⟩ d n0 hpl (by omega) fun h6 f6 => ⟨_, rfl, ?_⟩
    rw [if_pos (by simp), if_pos (by simp), if_pos (by simp)]
    exact wake _ (f05.trans f6)
section
open Go.ChangeShapes Go.WideShapes Go.ChangeAt Go.RowKit
variable {H : Type} {enc : TypeId × Value → H} {w : World} {base : Nat} {spare : Nat → Bool} {held : Bool} {fuel : Nat} {cs : List Value} {x : DataW H × List MemPlace}
theorem cells24 : Try.prog.cellsOf 24 = 3 := by kernel_rfl
theorem openThree (h : DataW.trod enc Try.prog w base spare held fuel 24 cs = some x) : ∃ n0 n1 n2 : Int, cs = [.int .i64 n0, .int .i64 n1, .int .i64 n2] := by
  obtain ⟨xs, n, rfl, hx, hl, hxl, hf⟩ := DataW.trod_array Try.underlying24 h
  rw [cells24] at hl
  match xs, hxl, cs, hl with
  | [y0, y1, y2], _, [v0, v1, v2], _ =>
    have g0 : DataW.trod enc Try.prog w base spare held n 3 (([v0, v1, v2].drop (0 * Try.prog.cellsOf 3)).take (Try.prog.cellsOf 3)) = some y0 := hf 0 (by omega)
    have g1 : DataW.trod enc Try.prog w base spare held n 3 (([v0, v1, v2].drop (1 * Try.prog.cellsOf 3)).take (Try.prog.cellsOf 3)) = some y1 := hf 1 (by omega)
    have g2 : DataW.trod enc Try.prog w base spare held n 3 (([v0, v1, v2].drop (2 * Try.prog.cellsOf 3)).take (Try.prog.cellsOf 3)) = some y2 := hf 2 (by omega)
    rw [cells3] at g0 g1 g2
    obtain ⟨n0, e0, _⟩ := DataW.trod_int Try.underlying3 g0
    obtain ⟨n1, e1, _⟩ := DataW.trod_int Try.underlying3 g1
    obtain ⟨n2, e2, _⟩ := DataW.trod_int Try.underlying3 g2
    have u0 : v0 = .int .i64 n0 := List.head_eq_of_cons_eq e0
    have u1 : v1 = .int .i64 n1 := List.head_eq_of_cons_eq e1
    have u2 : v2 = .int .i64 n2 := List.head_eq_of_cons_eq e2
    rw [u0, u1, u2]
    exact ⟨n0, n1, n2, rfl⟩
end
end Go.Proofs.Ytkmommchanjobaa
