/-
  The reference's Filter.
-/
import Derived.Test.YtfcnplakgmdfiaaThrI
namespace Go.Proofs.Ytfcnplakgmdfiaa
set_option linter.unusedSimpArgs false
set_option linter.unusedVariables false
set_option maxRecDepth 20000
open Go
open Go.IntKind (wrap)
def triV (e : Tri) : List Value := [.int .i64 e.1.sid, .int .i64 e.1.th.kind, .int .i64 e.1.th.by_, .int .i64 e.1.th.count, .int .i64 e.1.th.secs, .bool e.1.a.v6, .int .u64 e.1.a.hi, .int .u64 e.1.a.lo, .bool e.1.b.v6, .int .u64 e.1.b.hi, .int .u64 e.1.b.lo, .int .i64 e.2.1, .int .i64 e.2.2]
theorem triV_len (e : Tri) : (triV e).length = 13 := rfl
theorem flat13 (L : List Tri) : (L.flatMap triV).length = L.length * 13 := by
  induction L with
  | nil => rfl
  | cons e L ih => rw [List.flatMap_cons, List.length_append, ih, triV_len]; simp only [List.length_cons]; omega
theorem triV_cell : ∀ (L : List Tri), ∀ v ∈ L.flatMap triV, cellV v = true := fun L v hv => by
  obtain ⟨e, _, hv⟩ := List.mem_flatMap.1 hv
  exact List.all_eq_true.1 (show (triV e).all cellV = true from rfl) v hv
theorem el_cnt : ElemT Try.prog T_sl_intrusionref51_Counter T_intrusionref51_Counter Try.t77 (.agg #[.int .i64 0, .int .i64 0, .int .i64 0, .int .i64 0, .int .i64 0, .bool false, .int .u64 0, .int .u64 0, .bool false, .int .u64 0, .int .u64 0, .int .i64 0, .int .i64 0]) :=
  ⟨Try.underlying62, by kernel_rfl, by kernel_rfl, by kernel_rfl, by decide⟩
/-- A slice of counters that a call has laid. -/
structure RowT (h : Heap) (p : Option Addr) (cap : Nat) (L : List Tri) : Prop where
  own : OwnC h p cap 13 (L.flatMap triV)
  le : L.length ≤ cap
theorem RowT.fr {S : Nat → Prop} {h h' : Heap} {p : Option Addr} {cap : Nat} {L : List Tri} (R : RowT h p cap L) (f : Fr S h h') (hs : ∀ b, InA p b → ¬ S b) : RowT h' p cap L := ⟨R.own.fr f hs, R.le⟩
/-- A counter of a row. -/
theorem RowT.idx {h : Heap} {p : Option Addr} {cap : Nat} {L : List Tri} (R : RowT h p cap L) {n : Int} (i : Nat) (hn : n = i) (hi : i < L.length) {K : Addr → Prop} (hk : ∀ ad, Cells h (ad.add (i * 13)) (triV L[i]) → K ad) : idxA n L.length (nn p fun a => K a) := by
  refine idxA_mk i hn hi ?_
  cases p with
  | none => have := R.own.1; rw [List.flatMap_eq_nil_iff] at this; exact absurd (this _ (List.getElem_mem hi)) (by simp [triV])
  | some ad =>
    refine nn_mk (hk ad fun j hj => ?_)
    have e : (ad.add (i * 13)).add j = ad.add (i * 13 + j) := by
      have h1 := R.own.1
      have h2 := R.own.2.1
      obtain ⟨b, o, s⟩ := ad
      simp only at h1 h2
      subst h1 h2
      rw [add_mk, add_mk, add_mk, Nat.add_assoc]
    rw [e]
    refine R.own.cells.at ?_
    rw [flat_get triV_len L i j hi (by rw [triV_len] at hj; exact hj), List.getElem?_eq_getElem hj]
/-- One counter is appended. -/
theorem RowT.app [Gh] {h : Heap} {p : Option Addr} {cap : Nat} {L : List Tri} (R : RowT h p cap L) {e : Tri} {b : Addr} (ob : Own h b (triV e) T_intrusionref51_Counter) (hl : L.length ≤ 2 ^ 20) {K : Value → Heap → Prop}
    (hk : ∀ p' cap' h', RowT h' p' cap' (L ++ [e]) → Fr (InA p) h h' → (∀ b, InA p' b → InA p b ∨ h.size ≤ b) → K (.slice p' (L ++ [e]).length cap') h') :
    bltV Try.prog .append #[T_sl_intrusionref51_Counter, T_sl_intrusionref51_Counter] T_sl_intrusionref51_Counter #[false, false] #[.slice p L.length cap, .slice (some b) 1 1] h K := by
  have es : (Try.t77).size = 13 := by kernel_rfl
  have eb : (Try.t77).bytes ≤ 200 := by decide +kernel
  refine append_own el_cnt Try.underlying62 (by intro k e; cases e) (m := 1) (xs := triV e) (by rw [es]; exact R.own) (by rw [flat13, es]) R.le (by rw [es]; exact .sl _ _ _ _ rfl ob.cells) (fun v hv => triV_cell [e] v (by simpa using hv)) ?_ ?_
  · have : (8 * (L.length + 1) + 4000) * (Try.t77).bytes ≤ (8 * (L.length + 1) + 4000) * 200 := Nat.mul_le_mul_left _ eb
    omega
  · intro p' c' h' o' hc' f hn
    have el : L.length + 1 = (L ++ [e]).length := by simp
    rw [el] at hc' ⊢
    rw [es] at o'
    refine hk p' c' h' ⟨?_, hc'⟩ f hn
    rw [List.flatMap_append]; simpa using o'
end Go.Proofs.Ytfcnplakgmdfiaa
