/-
  ContentPlaces: whatever the content, the data and the numbers, the law returns true and leaves its arguments as they were.
-/
import Derived.Test.YtkmommchanjobaaRows
import Derived.Test.YtkmommchanjobaaContK
namespace Go.Proofs.Ytkmommchanjobaa.contentPlaces
set_option linter.unusedSimpArgs false
set_option linter.unusedVariables false
open Go Go.ChangeShapes Go.WideShapes Go.ChangeAt Go.RowKit
open Go.ChangeMaps (open_string shut_string)
set_option maxRecDepth 100000 in
theorem lifted (os : Os) (started : os.Started) (H : Type) (enc : TypeId × Value → H) :
    ReturnsInHanded {} Try.checked os 3 .any (Rows.contentPlacesSpec.pre6 enc Try.prog Try.f3 Rows.contentPlacesRow.domain false) (Rows.contentPlacesSpec.post enc Try.prog Try.f3 false true false false) := by
  refine returnsInHanded_of_change_sized (C := Try.checked) own started (by kernel_rfl) Try.func3
    (ChangeSpec.witness6 (enc := enc) (C := Try.checked) false ⟨#[], #[.agg #[.string ByteArray.empty, .bool false, .bool false, .bool false, .int .i64 0, .int .i64 0, .bool false], .string ByteArray.empty, .agg #[.int .i64 0, .int .i64 0, .int .i64 0]], []⟩ 8 (by kernel_rfl) (by kernel_rfl) (by kernel_rfl) (by kernel_rfl)) ?_
  intro W base args ds gs before hval0 hW hcnd hsz0 _
  have hval : ∀ (j : Nat) t v, Try.f3.params[j]? = some t → args[j]? = some v → Value.okWide Try.prog W .any base t v := hval0
  have hW' := hW
  obtain ⟨p, q, hA0, hV, rfl, hfz, hnd⟩ := hW
  have hA : DataW.TrodAll enc Try.prog W 0 (fun _ => true) true Try.f3.params.toList args.toList ds p := hA0
  rw [Try.params3] at hA hval
  obtain ⟨v0, vs0, d0, ds0, p0, q0, hargs, rfl, rfl, h0, r0⟩ := trodAll_cons hA
  obtain ⟨v1, vs1, d1, ds1, p1, q1, rfl, rfl, rfl, h1, r1⟩ := trodAll_cons r0
  obtain ⟨v2, vs2, d2, ds2, p2, q2, rfl, rfl, rfl, h2, r2⟩ := trodAll_cons r1
  obtain ⟨rfl, rfl, rfl⟩ := trodAll_nil r2
  obtain rfl : args = #[v0, v1, v2] := by cases args; simp_all
  obtain ⟨rfl, rfl⟩ := trodVars_none hV
  obtain ⟨a1, rfl, rfl, rfl, y1⟩ := open_string Try.underlying9 (hval 1 9 v1 rfl rfl) h1
  obtain ⟨c0, rfl, _⟩ := okWide_struct Try.underlying23 (hval 0 23 v0 rfl rfl)
  have k0 := h0
  have lt0 : ∀ x ∈ p0, x.block < W.heap.size := by obtain ⟨m, hm⟩ := k0; exact DataW.trod_lt m _ _ _ hm
  obtain ⟨t, ht⟩ : ∃ t : Cn, c0 = (cnV t).toArray := by
    obtain ⟨fuel, hf⟩ := h0
    obtain ⟨t, ht⟩ := openCn hf
    exact ⟨t, by rw [← ht]; simp [Value.cells]⟩
  subst ht
  have k2 := h2
  have lt2 : ∀ x ∈ p2, x.block < W.heap.size := by obtain ⟨m, hm⟩ := k2; exact DataW.trod_lt m _ _ _ hm
  obtain ⟨c2, rfl⟩ : ∃ c2, v2 = .agg c2 := by
    have := hval 2 24 v2 rfl rfl
    simp only [Value.okWide, Try.underlying24] at this
    obtain ⟨c2, h1, _⟩ := this
    exact ⟨c2, h1⟩
  obtain ⟨n0, n1, n2, hn⟩ : ∃ n0 n1 n2 : Int, c2 = #[.int .i64 n0, .int .i64 n1, .int .i64 n2] := by
    obtain ⟨fuel, hf⟩ := h2
    obtain ⟨n0, n1, n2, hn⟩ := openThree hf
    refine ⟨n0, n1, n2, ?_⟩
    have : c2.toList = [.int .i64 n0, .int .i64 n1, .int .i64 n2] := by rw [← hn]; simp [Value.cells]
    rw [← Array.toArray_toList (xs := c2), this]
  subst hn
  clear hA0 hval0 hsz0
  obtain ⟨l, rfl⟩ := bs_surj a1
  refine (law_calls (Try.call3 _) (fun Q hk => ContentPlaces_c t l n0 n1 n2 hk)).mono fun e W' ⟨he, bel⟩ => ?_
  subst he
  exact ⟨_, rfl, _, _, _, [], _, [], hW', trodAll_mk1 (shut_bool Try.underlying4 _), (trodAll_cons_mk (Below.trod laidOut (by kernel_rfl) (of_decide_eq_true (by kernel_rfl)) k0 bel lt0) (trodAll_cons_mk (shut_string Try.underlying9 y1) (trodAll_cons_mk (Below.trod laidOut (by kernel_rfl) (of_decide_eq_true (by kernel_rfl)) k2 bel lt2) trodAll_mk0))), rfl, bel.frame _, fun h => by cases h⟩
theorem over : Rows.contentPlacesRow.holds Try.pinned (OpenSpec.ofChange Rows.contentPlacesSpec) :=
  OpenClaim.holds_of_wide 3 Try.f3 rfl rfl rfl rfl rfl rfl rfl ⟨rfl, rfl, rfl, rfl, rfl⟩ rfl rfl rfl rfl rfl (by kernel_rfl) Try.func3 (by kernel_rfl)
    (of_decide_eq_true (by kernel_rfl)) (by unfold Func.isWrapper; first | (rw [if_pos (by decide +kernel)]; kernel_rfl) | (rw [if_neg (by decide +kernel)]; exact ⟨rfl, rfl⟩))
    (fun os started H enc _ => lifted os started H enc)
theorem proved : Rows.ContentPlacesSaid := over
end Go.Proofs.Ytkmommchanjobaa.contentPlaces
namespace Go.Proofs.Ytkmommchanjobaa
/-- The row, under a short name, for the claim. -/
theorem contentPlaces_holds : Rows.ContentPlacesSaid := contentPlaces.proved
#print axioms contentPlaces_holds
end Go.Proofs.Ytkmommchanjobaa
