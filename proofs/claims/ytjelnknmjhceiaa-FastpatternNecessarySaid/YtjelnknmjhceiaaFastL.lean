/-
  The laws of the score and of the choice.
-/
import Derived.Test.YtjelnknmjhceiaaFastK
namespace Go.Proofs.Ytjelnknmjhceiaa
set_option linter.unusedSimpArgs false
set_option linter.unusedVariables false
set_option maxRecDepth 20000
open Go
theorem Short_c [Gh] (r : Ru) {h : Heap} (ok : r.ok h) {Q : Value → Heap → Prop} (hk : ∀ (b : Bool) h', Fr (fun _ => False) h h' → (b = true → ShortR r) → Q (.bool b) h') :
    CallT Try.prog fn_ref43_Short #[.agg r.vals.toArray] h Q := by
  apply ref43_Short_s
  unfold ref43_Short_v
  refine al_mk fun a h1 f1 ha o1 => ?_
  have no := hk false h1 f1 (fun h => by cases h)
  refine ldL_mk (o1.cells.at rfl) (ifD (fun _ => no) fun _ => ?_)
  refine ldL_mk (o1.cells.at rfl) (ifD (fun _ => no) fun _ => ?_)
  refine ldL_mk (o1.cells.at rfl) (ifD (fun _ => no) fun _ => ?_)
  refine ldL_mk (o1.cells.at rfl) (ifD (fun _ => no) fun _ => ?_)
  refine ldL_mk (o1.cells.at rfl) (ifD (fun _ => no) fun ht => ?_)
  refine ldL_mk (o1.cells.at rfl) (ifD (fun _ => no) fun hc => ?_)
  refine ldL_mk (o1.cells.at rfl) (ifD (fun _ => no) fun _ => ?_)
  refine ldL_mk (o1.cells.at rfl) (ifD (fun _ => no) fun _ => ?_)
  refine ldS_mk (o1.cells.at rfl) (ifD (fun _ => no) fun _ => ?_)
  have oc := SlOk.fr0 S_api_Content.ok_fr f1 ok.k14
  refine LoopV.mk (fun i h' => h' = h1 ∧ ∃ k : Nat, i = k ∧ k ≤ r.Contents.xs.length ∧ ∀ j (hj : j < r.Contents.xs.length), j < k → r.Contents.xs[j].Pattern.length ≤ 200) (fun i _ => r.Contents.xs.length - i.toNat) ⟨rfl, 0, rfl, by omega, fun j _ hj => by omega⟩ ?_
  rintro i h' ⟨rfl, k, rfl, hkl, hpre⟩
  unfold ref43_Short_l1
  refine ldL_mk (o1.cells.at rfl) (ifD (fun hlt => ?_) fun hge => ?_)
  · have hks : k < r.Contents.xs.length := by omega
    refine ldL_mk (o1.cells.at rfl) ?_
    refine idx_sl oc k rfl hks fun ad cc okc => ?_
    rw [Int.toNat_natCast]
    refine ldS_mk (cc.at0 rfl) ?_
    rw [bs_size]
    refine ifD (fun _ => no) fun hle => ?_
    rw [wr (by omega) (by omega)]
    refine ⟨⟨rfl, k + 1, by omega, by omega, fun j hj hjk => ?_⟩, by omega⟩
    by_cases e : j = k
    · subst e; omega
    · exact hpre j hj (by omega)
  · refine hk true _ f1 fun _ => ⟨⟨by omega, fun c hcm => ?_⟩, by omega⟩
    obtain ⟨j, hj, rfl⟩ := List.mem_iff_getElem.1 hcm
    exact hpre j hj (by omega)
theorem FastpatternScores_c [Gh] (l : List UInt8) {h : Heap} (_ok : sOk h l) {Q : Value → Heap → Prop} (hk : ∀ h', Fr (fun _ => False) h h' → Q (.bool true) h') :
    CallT Try.prog fn_law46_FastpatternScores #[.string (bs l)] h Q := by
  apply law46_FastpatternScores_s
  unfold law46_FastpatternScores_v
  rw [bs_size]
  refine ifD (fun _ => lives_c fun h1 f1 => ⟨_, rfl, hk _ f1⟩) fun hl => ?_
  refine Score_c l (by omega) fun h1 f1 => ⟨_, rfl, rScore_c l (by omega) fun h2 f2 => ⟨_, rfl, ?_⟩⟩
  rw [if_pos (by simp)]
  exact lives_c fun h3 f3 => ⟨_, rfl, hk _ ((f1.trans f2).trans f3)⟩
theorem patV_some (cs : List Cn) : ∃ t n b, patV cs = .tuple #[.agg #[.string (bs t), .bool n], .bool b] := by
  unfold patV; split
  · exact ⟨_, _, _, rfl⟩
  · exact ⟨_, _, _, rfl⟩
theorem FastpatternChooses_c [Gh] (r : Ru) {h : Heap} (ok : r.ok h) {Q : Value → Heap → Prop} (hk : ∀ h', Fr (fun _ => False) h h' → Q (.bool true) h') :
    CallT Try.prog fn_law46_FastpatternChooses #[.agg r.vals.toArray] h Q := by
  apply law46_FastpatternChooses_s
  unfold law46_FastpatternChooses_v
  refine al_mk fun a h1 f1 ha o1 => ?_
  have ok1 := S_api_Rule.ok_fr _ _ _ f1 ok
  refine (ldI_mk (o1.cells.at0 rfl) (ldI_mk (o1.cells.at rfl) (ldL_mk (o1.cells.at rfl) (ldL_mk (o1.cells.at rfl) (ldL_mk (o1.cells.at rfl) (ldL_mk (o1.cells.at rfl) (ldB_mk (o1.cells.at rfl) (ldI_mk (o1.cells.at rfl) (ldI_mk (o1.cells.at rfl) (ldI_mk (o1.cells.at rfl) (ldS_mk (o1.cells.at rfl) (ldI_mk (o1.cells.at rfl) (ldI_mk (o1.cells.at rfl) (ldL_mk (o1.cells.at rfl) (ldL_mk (o1.cells.at rfl) (ldL_mk (o1.cells.at rfl) (ldL_mk (o1.cells.at rfl) (ldI_mk (o1.cells.at rfl) (ldI_mk (o1.cells.at rfl) (ldI_mk (o1.cells.at rfl) (ldI_mk (o1.cells.at rfl) ?_)))))))))))))))))))))
  refine Short_c r ok1 fun b h2 f2 hb => ⟨_, rfl, ?_⟩
  have f02 := f1.trans f2
  refine ifN (fun _ => lives_c fun h3 f3 => ⟨_, rfl, hk _ (f02.trans f3)⟩) fun hbt => ?_
  have sh := (hb hbt).c
  have o2 := Own.fr0 f2 o1
  have ok2 := S_api_Rule.ok_fr _ _ _ f2 ok1
  refine (ldI_mk (o2.cells.at0 rfl) (ldI_mk (o2.cells.at rfl) (ldL_mk (o2.cells.at rfl) (ldL_mk (o2.cells.at rfl) (ldL_mk (o2.cells.at rfl) (ldL_mk (o2.cells.at rfl) (ldB_mk (o2.cells.at rfl) (ldI_mk (o2.cells.at rfl) (ldI_mk (o2.cells.at rfl) (ldI_mk (o2.cells.at rfl) (ldS_mk (o2.cells.at rfl) (ldI_mk (o2.cells.at rfl) (ldI_mk (o2.cells.at rfl) (ldL_mk (o2.cells.at rfl) (ldL_mk (o2.cells.at rfl) (ldL_mk (o2.cells.at rfl) (ldL_mk (o2.cells.at rfl) (ldI_mk (o2.cells.at rfl) (ldI_mk (o2.cells.at rfl) (ldI_mk (o2.cells.at rfl) (ldI_mk (o2.cells.at rfl) ?_)))))))))))))))))))))
  obtain ⟨t, n, b, ep⟩ := patV_some r.Contents.xs
  refine Pattern_c r ok2 sh fun h4 f4 => ⟨_, _, _, ep, ?_⟩
  refine cp_mk rfl rfl fun t3 h6 f6 _ o3 => ?_
  have f26 := f4.trans f6
  have o6 := Own.fr0 f26 o2
  refine (ldI_mk (o6.cells.at0 rfl) (ldI_mk (o6.cells.at rfl) (ldL_mk (o6.cells.at rfl) (ldL_mk (o6.cells.at rfl) (ldL_mk (o6.cells.at rfl) (ldL_mk (o6.cells.at rfl) (ldB_mk (o6.cells.at rfl) (ldI_mk (o6.cells.at rfl) (ldI_mk (o6.cells.at rfl) (ldI_mk (o6.cells.at rfl) (ldS_mk (o6.cells.at rfl) (ldI_mk (o6.cells.at rfl) (ldI_mk (o6.cells.at rfl) (ldL_mk (o6.cells.at rfl) (ldL_mk (o6.cells.at rfl) (ldL_mk (o6.cells.at rfl) (ldL_mk (o6.cells.at rfl) (ldI_mk (o6.cells.at rfl) (ldI_mk (o6.cells.at rfl) (ldI_mk (o6.cells.at rfl) (ldI_mk (o6.cells.at rfl) ?_)))))))))))))))))))))
  refine rPattern_c r (S_api_Rule.ok_fr _ _ _ f26 ok2) sh fun h7 f7 => ⟨_, _, _, ep, ?_⟩
  refine cp_mk rfl rfl fun t5 h9 f9 _ o5 => ?_
  have f69 := f7.trans f9
  have o9 := Own.fr0 f69 o6
  refine (ldI_mk (o9.cells.at0 rfl) (ldI_mk (o9.cells.at rfl) (ldL_mk (o9.cells.at rfl) (ldL_mk (o9.cells.at rfl) (ldL_mk (o9.cells.at rfl) (ldL_mk (o9.cells.at rfl) (ldB_mk (o9.cells.at rfl) (ldI_mk (o9.cells.at rfl) (ldI_mk (o9.cells.at rfl) (ldI_mk (o9.cells.at rfl) (ldS_mk (o9.cells.at rfl) (ldI_mk (o9.cells.at rfl) (ldI_mk (o9.cells.at rfl) (ldL_mk (o9.cells.at rfl) (ldL_mk (o9.cells.at rfl) (ldL_mk (o9.cells.at rfl) (ldL_mk (o9.cells.at rfl) (ldI_mk (o9.cells.at rfl) (ldI_mk (o9.cells.at rfl) (ldI_mk (o9.cells.at rfl) (ldI_mk (o9.cells.at rfl) ?_)))))))))))))))))))))
  refine (ldI_mk (o9.cells.at0 rfl) (ldI_mk (o9.cells.at rfl) (ldL_mk (o9.cells.at rfl) (ldL_mk (o9.cells.at rfl) (ldL_mk (o9.cells.at rfl) (ldL_mk (o9.cells.at rfl) (ldB_mk (o9.cells.at rfl) (ldI_mk (o9.cells.at rfl) (ldI_mk (o9.cells.at rfl) (ldI_mk (o9.cells.at rfl) (ldS_mk (o9.cells.at rfl) (ldI_mk (o9.cells.at rfl) (ldI_mk (o9.cells.at rfl) (ldL_mk (o9.cells.at rfl) (ldL_mk (o9.cells.at rfl) (ldL_mk (o9.cells.at rfl) (ldL_mk (o9.cells.at rfl) (ldI_mk (o9.cells.at rfl) (ldI_mk (o9.cells.at rfl) (ldI_mk (o9.cells.at rfl) (ldI_mk (o9.cells.at rfl) ?_)))))))))))))))))))))
  have ok9 := S_api_Rule.ok_fr _ _ _ (f26.trans f69) ok2
  refine Choose_c r ok9 sh fun h10 f10 => ⟨_, rfl, ?_⟩
  have o10 := Own.fr0 f10 o9
  refine ⟨?_, ?_⟩
  · refine (ldI_mk (o10.cells.at0 rfl) (ldI_mk (o10.cells.at rfl) (ldL_mk (o10.cells.at rfl) (ldL_mk (o10.cells.at rfl) (ldL_mk (o10.cells.at rfl) (ldL_mk (o10.cells.at rfl) (ldB_mk (o10.cells.at rfl) (ldI_mk (o10.cells.at rfl) (ldI_mk (o10.cells.at rfl) (ldI_mk (o10.cells.at rfl) (ldS_mk (o10.cells.at rfl) (ldI_mk (o10.cells.at rfl) (ldI_mk (o10.cells.at rfl) (ldL_mk (o10.cells.at rfl) (ldL_mk (o10.cells.at rfl) (ldL_mk (o10.cells.at rfl) (ldL_mk (o10.cells.at rfl) (ldI_mk (o10.cells.at rfl) (ldI_mk (o10.cells.at rfl) (ldI_mk (o10.cells.at rfl) (ldI_mk (o10.cells.at rfl) ?_)))))))))))))))))))))
    rfl
  refine rChoose_c r (S_api_Rule.ok_fr _ _ _ f10 ok9) sh fun h11 f11 => ⟨_, rfl, ?_⟩
  rw [if_pos (by simp)]
  have f911 := f10.trans f11
  have o3' := Own.fr0 (f69.trans f911) o3
  have o5' := Own.fr0 f911 o5
  refine (ldS_mk (o3'.cells.at0 rfl) (ldB_mk (o3'.cells.at rfl) ?_))
  refine (ldS_mk (o5'.cells.at0 rfl) (ldB_mk (o5'.cells.at rfl) ?_))
  rw [if_pos (by rw [bs_beq]; simp), if_pos (by simp)]
  exact lives_c fun h12 f12 => ⟨_, rfl, hk _ (((f02.trans f26).trans (f69.trans f911)).trans f12)⟩
/-! ### What is chosen -/
structure Best (cs : List Cn) (i : Int) : Prop where
  lo : -1 ≤ i
  hi : 0 ≤ i → ∃ k : Nat, ∃ hk : k < cs.length, i = k ∧ outC cs[k] = false
  all : ∀ j (hj : j < cs.length), outC cs[j] = false → ∃ k : Nat, ∃ hk : k < cs.length, i = k ∧ (cs[j].Fast = true → cs[k].Fast = true) ∧ (cs[k].Fast = false → scoreL cs[j].Pattern ≤ scoreL cs[k].Pattern)
structure Pre (cs : List Cn) (k : Nat) (best : Int) : Prop where
  lo : -1 ≤ best
  hi : 0 ≤ best → ∃ b : Nat, ∃ hb : b < cs.length, best = b ∧ b < k ∧ outC cs[b] = false
  all : ∀ j (hj : j < cs.length), j < k → outC cs[j] = false → cs[j].Fast = false ∧ ∃ b : Nat, ∃ hb : b < cs.length, best = b ∧ scoreL cs[j].Pattern ≤ scoreL cs[b].Pattern
theorem best_go (cs : List Cn) : ∀ (n k : Nat) (best : Int), k + n = cs.length → Pre cs k best → Best cs (chooseGo cs (cs.drop k) k best)
  | 0, k, best, hn, p => by
    rw [List.drop_eq_nil_of_le (by omega), chooseGo]
    refine ⟨p.lo, fun h => ?_, fun j hj ho => ?_⟩
    · obtain ⟨b, hb, e, _, ho⟩ := p.hi h; exact ⟨b, hb, e, ho⟩
    · obtain ⟨hf, b, hb, e, hs⟩ := p.all j hj (by omega) ho
      exact ⟨b, hb, e, fun h => (by rw [hf] at h; cases h), fun _ => hs⟩
  | n + 1, k, best, hn, p => by
    have hks : k < cs.length := by omega
    rw [chooseGo_drop cs k hks]
    have step : ∀ (best' : Int), Pre cs (k + 1) best' → Best cs (chooseGo cs (cs.drop (k + 1)) (k + 1) best') := fun best' p' => best_go cs n (k + 1) best' (by omega) p'
    split
    · rename_i ho
      refine step best ⟨p.lo, fun h => ?_, fun j hj hjk hoj => ?_⟩
      · obtain ⟨b, hb, e, hk, hob⟩ := p.hi h; exact ⟨b, hb, e, by omega, hob⟩
      · by_cases e : j = k
        · subst e; rw [ho] at hoj; cases hoj
        · exact p.all j hj (by omega) hoj
    rename_i ho
    have ho : outC cs[k] = false := by simpa using ho
    split
    · rename_i hf
      exact ⟨by omega, fun _ => ⟨k, hks, rfl, ho⟩, fun j hj hoj => ⟨k, hks, rfl, fun _ => hf, fun h => (by rw [hf] at h; cases h)⟩⟩
    rename_i hf
    have hf : cs[k].Fast = false := by simpa using hf
    split
    · rename_i hneg
      refine step k ⟨by omega, fun _ => ⟨k, hks, rfl, by omega, ho⟩, fun j hj hjk hoj => ?_⟩
      by_cases e : j = k
      · subst e; exact ⟨hf, j, hj, rfl, Int.le_refl _⟩
      · obtain ⟨_, b, _, e2, _⟩ := p.all j hj (by omega) hoj; omega
    rename_i hpos
    obtain ⟨b, hb, rfl, hbk, hob⟩ := p.hi (by omega)
    have hgd : cs.getD ((b : Int)).toNat noC = cs[b] := by rw [Int.toNat_natCast, List.getD_eq_getElem?_getD, List.getElem?_eq_getElem hb]; rfl
    rw [hgd]
    split
    · rename_i hw
      have hsc : scoreL cs[b].Pattern ≤ scoreL cs[k].Pattern := by
        unfold beats at hw
        simp only [Bool.or_eq_true, Bool.and_eq_true, decide_eq_true_eq, beq_iff_eq] at hw
        omega
      refine step k ⟨by omega, fun _ => ⟨k, hks, rfl, by omega, ho⟩, fun j hj hjk hoj => ?_⟩
      by_cases e : j = k
      · subst e; exact ⟨hf, j, hj, rfl, Int.le_refl _⟩
      · obtain ⟨hfj, b', hb', e2, hs⟩ := p.all j hj (by omega) hoj
        have : b' = b := by omega
        subst this
        exact ⟨hfj, k, hks, rfl, by omega⟩
    · rename_i hw
      have hsc : scoreL cs[k].Pattern ≤ scoreL cs[b].Pattern := by
        unfold beats at hw
        simp only [Bool.or_eq_true, Bool.and_eq_true, decide_eq_true_eq, beq_iff_eq, not_or] at hw
        omega
      refine step b ⟨by omega, fun _ => ⟨b, hb, rfl, by omega, hob⟩, fun j hj hjk hoj => ?_⟩
      by_cases e : j = k
      · subst e; exact ⟨hf, b, hb, rfl, hsc⟩
      · exact p.all j hj (by omega) hoj
theorem best_choose (cs : List Cn) : Best cs (chooseL cs) := by
  have := best_go cs cs.length 0 (-1) (by omega) ⟨by omega, fun h => by omega, fun j _ hj => by omega⟩
  rw [List.drop_zero] at this; exact this
end Go.Proofs.Ytjelnknmjhceiaa
