/-
  The law that no other content has a greater score.
-/
import Derived.Test.YtjelnknmjhceiaaFastL
namespace Go.Proofs.Ytjelnknmjhceiaa
set_option linter.unusedSimpArgs false
set_option linter.unusedVariables false
set_option maxRecDepth 20000
open Go
theorem outC_false {c : Cn} (h1 : c.Not = false) (h2 : c.Pattern ≠ []) : outC c = false := by
  unfold outC; rw [h1]; cases hp : c.Pattern with
  | nil => exact absurd hp h2
  | cons x l => rfl
theorem of_outC {c : Cn} (h : outC c = false) : c.Not = false ∧ c.Pattern ≠ [] := by
  unfold outC at h
  simp only [Bool.or_eq_false_iff] at h
  refine ⟨h.1, fun e => ?_⟩
  rw [e] at h; simp at h
theorem FastpatternBest_c [Gh] (r : Ru) {h : Heap} (ok : r.ok h) {Q : Value → Heap → Prop} (hk : ∀ h', Fr (fun _ => False) h h' → Q (.bool true) h') :
    CallT Try.prog fn_law46_FastpatternBest #[.agg r.vals.toArray] h Q := by
  apply law46_FastpatternBest_s
  unfold law46_FastpatternBest_v
  refine al_mk fun a h1 f1 ha o1 => ?_
  have ok1 := S_api_Rule.ok_fr _ _ _ f1 ok
  refine lives_c fun h2 f2 => ⟨_, rfl, ?_⟩
  refine ifN (fun hx => by cases hx) fun _ => ?_
  have o2 := Own.fr0 f2 o1
  refine (ldI_mk (o2.cells.at0 rfl) (ldI_mk (o2.cells.at rfl) (ldL_mk (o2.cells.at rfl) (ldL_mk (o2.cells.at rfl) (ldL_mk (o2.cells.at rfl) (ldL_mk (o2.cells.at rfl) (ldB_mk (o2.cells.at rfl) (ldI_mk (o2.cells.at rfl) (ldI_mk (o2.cells.at rfl) (ldI_mk (o2.cells.at rfl) (ldS_mk (o2.cells.at rfl) (ldI_mk (o2.cells.at rfl) (ldI_mk (o2.cells.at rfl) (ldL_mk (o2.cells.at rfl) (ldL_mk (o2.cells.at rfl) (ldL_mk (o2.cells.at rfl) (ldL_mk (o2.cells.at rfl) (ldI_mk (o2.cells.at rfl) (ldI_mk (o2.cells.at rfl) (ldI_mk (o2.cells.at rfl) (ldI_mk (o2.cells.at rfl) ?_)))))))))))))))))))))
  refine Short_c r (S_api_Rule.ok_fr _ _ _ f2 ok1) fun b h3 f3 hb => ⟨_, rfl, ?_⟩
  have f23 := f2.trans f3
  refine ifN (fun _ => hk _ (f1.trans f23)) fun hbt => ?_
  have sh := (hb hbt).c
  have o3 := Own.fr0 f3 o2
  refine (ldI_mk (o3.cells.at0 rfl) (ldI_mk (o3.cells.at rfl) (ldL_mk (o3.cells.at rfl) (ldL_mk (o3.cells.at rfl) (ldL_mk (o3.cells.at rfl) (ldL_mk (o3.cells.at rfl) (ldB_mk (o3.cells.at rfl) (ldI_mk (o3.cells.at rfl) (ldI_mk (o3.cells.at rfl) (ldI_mk (o3.cells.at rfl) (ldS_mk (o3.cells.at rfl) (ldI_mk (o3.cells.at rfl) (ldI_mk (o3.cells.at rfl) (ldL_mk (o3.cells.at rfl) (ldL_mk (o3.cells.at rfl) (ldL_mk (o3.cells.at rfl) (ldL_mk (o3.cells.at rfl) (ldI_mk (o3.cells.at rfl) (ldI_mk (o3.cells.at rfl) (ldI_mk (o3.cells.at rfl) (ldI_mk (o3.cells.at rfl) ?_)))))))))))))))))))))
  refine Choose_c r (S_api_Rule.ok_fr _ _ _ f23 ok1) sh fun h4 f4 => ⟨_, rfl, ?_⟩
  have B := best_choose r.Contents.xs
  have hlt := chooseL_lt r.Contents.xs
  have f14 := f23.trans f4
  refine ifD (fun hx => absurd B.lo (by omega)) fun _ => ?_
  have ld : ∀ h', Fr (fun _ => False) h1 h' → hcell h' (a.add 14) = some (.slice r.Contents.p r.Contents.xs.length r.Contents.cap) := fun h' f => (Own.fr0 f o1).cells.at rfl
  have oc : SlOk 7 S_api_Content.vals S_api_Content.ok h1 r.Contents := ok1.k14
  have hlen := sh.len
  clear ok ok1 o1 o2 o3
  generalize r.Contents = C at *
  refine ldL_mk (ld _ f14) (ifD (fun hx => by omega) fun _ => ?_)
  have loop : ∀ h', Fr (fun _ => False) h1 h' → LoopV (fun (s : Int) h Kn => law46_FastpatternBest_l1 a (chooseL C.xs) Q s h Kn) 0 h' := by
    intro h' f'
    refine LoopV.mk (fun i h' => ∃ k : Nat, i = k ∧ k ≤ C.xs.length ∧ Fr (fun _ => False) h1 h') (fun i _ => C.xs.length - i.toNat) ⟨0, rfl, by omega, f'⟩ ?_
    rintro i h5 ⟨k, rfl, hkl, f5⟩
    unfold law46_FastpatternBest_l1
    refine ldL_mk (ld _ f5) (ifD (fun hks => ?_) fun hge => hk _ (f1.trans f5))
    have hks : k < C.xs.length := by omega
    have next : ∀ h', Fr (fun _ => False) h1 h' → (∃ k' : Nat, IntKind.wrap .i64 ((k : Int) + 1) = k' ∧ k' ≤ C.xs.length ∧ Fr (fun _ => False) h1 h') ∧ C.xs.length - (IntKind.wrap .i64 ((k : Int) + 1)).toNat < C.xs.length - ((k : Int)).toNat := fun h' f => by
      rw [wr (by omega) (by omega)]; exact ⟨⟨k + 1, by omega, by omega, f⟩, by omega⟩
    refine ldL_mk (ld _ f5) ?_
    have oc5 := SlOk.fr0 S_api_Content.ok_fr f5 oc
    refine idx_sl oc5 k rfl hks fun ad cc okc => ?_
    have hpat := sh.pat _ (List.getElem_mem hks)
    rw [Int.toNat_natCast]
    refine (ldS_mk (cc.at0 rfl) (ldB_mk (cc.at rfl) (ldB_mk (cc.at rfl) (ldB_mk (cc.at rfl) (ldI_mk (cc.at rfl) (ldI_mk (cc.at rfl) (ldB_mk (cc.at rfl) ?_)))))))
    refine cp_mk rfl rfl fun t5 h6 f6 _ o5 => ?_
    have f16 := f5.trans f6
    refine ldB_mk (o5.cells.at rfl) (ifB (fun _ => next _ f16) fun hn => ?_)
    refine ldS_mk (o5.cells.at0 rfl) (ifS0 (fun _ => next _ f16) fun hp => ?_)
    obtain ⟨b, hb, e, hf, hs⟩ := B.all k hks (outC_false hn hp)
    rw [e]
    have hbpat := sh.pat _ (List.getElem_mem hb)
    refine ifD (fun hx => by omega) fun _ => ?_
    have oc6 := SlOk.fr0 S_api_Content.ok_fr f16 oc
    refine ldB_mk (o5.cells.at rfl) (ifB (fun hfk => ?_) fun hfk => ?_)
    · refine ldL_mk (ld _ f16) (idx_sl oc6 b rfl hb fun ad2 cb okb => ?_)
      rw [Int.toNat_natCast]
      refine ldB_mk (cb.at rfl) (ifN (fun hx => by rw [hf hfk] at hx; cases hx) fun hfb => ?_)
      refine ldL_mk (ld _ f16) (idx_sl oc6 b rfl hb fun ad3 cb3 okb3 => ?_)
      refine ldB_mk (cb3.at rfl) (ifN (fun hx => by rw [hfb] at hx; cases hx) fun _ => next _ f16)
    · refine ldL_mk (ld _ f16) (idx_sl oc6 b rfl hb fun ad2 cb okb => ?_)
      rw [Int.toNat_natCast]
      refine ldB_mk (cb.at rfl) (ifN (fun hfb => ?_) fun _ => next _ f16)
      refine ldS_mk (o5.cells.at0 rfl) (ldL_mk (ld _ f16) (idx_sl oc6 b rfl hb fun ad3 cb3 okb3 => ?_))
      refine ldS_mk (cb3.at0 rfl) ?_
      refine Score_c _ (by omega) fun h7 f7 => ⟨_, rfl, ?_⟩
      refine ⟨ldL_mk (ld _ (f16.trans f7)) rfl, ldS_mk ((Cells.fr0 f7 cb3).at0 rfl) rfl, ?_⟩
      refine Score_c _ (by omega) fun h8 f8 => ⟨_, rfl, ?_⟩
      refine ifD (fun hx => by have := hs hfb; omega) fun _ => next _ ((f16.trans f7).trans f8)
  refine ifD (fun hpos => ?_) fun _ => loop _ f14
  obtain ⟨b, hb, e, ho⟩ := B.hi hpos
  obtain ⟨hn, hp⟩ := of_outC ho
  have oc4 := SlOk.fr0 S_api_Content.ok_fr f14 oc
  rw [e] at loop ⊢
  refine ldL_mk (ld _ f14) (idx_sl oc4 b rfl hb fun ad cb okb => ?_)
  rw [Int.toNat_natCast]
  refine ldB_mk (cb.at rfl) (ifB (fun hx => by rw [hn] at hx; cases hx) fun _ => ?_)
  refine ldL_mk (ld _ f14) (idx_sl oc4 b rfl hb fun ad2 cb2 okb2 => ?_)
  refine ldS_mk (cb2.at0 rfl) (ifS0 (fun hx => absurd hx hp) fun _ => loop _ f14)
end Go.Proofs.Ytjelnknmjhceiaa
