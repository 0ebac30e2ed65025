/-
  The choice of a content.
-/
import Derived.Test.YtjelnknmjhceiaaFastB
import Derived.Test.YtjelnknmjhceiaaTy
namespace Go.Proofs.Ytjelnknmjhceiaa
set_option linter.unusedSimpArgs false
set_option linter.unusedVariables false
set_option maxRecDepth 20000
open Go
abbrev Cn := S_api_Content
def outC (c : Cn) : Bool := c.Not || c.Pattern.isEmpty
def beats (c b : Cn) : Bool := decide (scoreL c.Pattern > scoreL b.Pattern) || (scoreL c.Pattern == scoreL b.Pattern && decide (c.Pattern.length > b.Pattern.length))
def noC : Cn := ⟨[], false, false, false, 0, 0, false⟩
def chooseGo (all : List Cn) : List Cn → Nat → Int → Int
  | [], _, best => best
  | c :: r, k, best =>
    if outC c then chooseGo all r (k + 1) best
    else if c.Fast then k
    else if best < 0 then chooseGo all r (k + 1) k
    else if beats c (all.getD best.toNat noC) then chooseGo all r (k + 1) k
    else chooseGo all r (k + 1) best
def chooseL (all : List Cn) : Int := chooseGo all all 0 (-1)
theorem chooseGo_drop (all : List Cn) (k : Nat) (hk : k < all.length) (best : Int) : chooseGo all (all.drop k) k best =
    if outC all[k] then chooseGo all (all.drop (k + 1)) (k + 1) best
    else if all[k].Fast then k
    else if best < 0 then chooseGo all (all.drop (k + 1)) (k + 1) k
    else if beats all[k] (all.getD best.toNat noC) then chooseGo all (all.drop (k + 1)) (k + 1) k
    else chooseGo all (all.drop (k + 1)) (k + 1) best := by
  rw [List.drop_eq_getElem_cons hk, chooseGo]
/-- The contents of a rule that is short. -/
structure ShortC (cs : List Cn) : Prop where
  len : cs.length ≤ 70
  pat : ∀ c ∈ cs, c.Pattern.length ≤ 200
theorem strne (l : List UInt8) : (l = []) ↔ l.isEmpty = true := by cases l <;> simp
theorem Choose_c [Gh] (r : S_api_Rule) {h : Heap} (ok : r.ok h) (sh : ShortC r.Contents.xs) {Q : Value → Heap → Prop} (hk : ∀ h', Fr (fun _ => False) h h' → Q (.int .i64 (chooseL r.Contents.xs)) h') :
    CallT Try.prog fn_fastpattern_Choose #[.agg r.vals.toArray] h Q := by
  apply fastpattern_Choose_s
  unfold fastpattern_Choose_v
  refine al_mk fun a h1 f1 ha o1 => ?_
  refine ldL_mk (o1.cells.at rfl) ?_
  have oc : SlOk 7 S_api_Content.vals S_api_Content.ok h1 r.Contents := SlOk.fr0 S_api_Content.ok_fr f1 ok.k14
  generalize hcs : r.Contents = C at *
  clear ok
  have hlen := sh.len
  refine LoopV.mk (fun st h' => ∃ k : Nat, st.2 = k ∧ k ≤ C.xs.length ∧ Fr (fun _ => False) h1 h' ∧ chooseGo C.xs (C.xs.drop k) k st.1 = chooseL C.xs ∧ (st.1 = -1 ∨ ∃ b : Nat, st.1 = b ∧ b < C.xs.length)) (fun st _ => C.xs.length - st.2.toNat)
    ⟨0, rfl, by omega, Fr.refl _ _, rfl, .inl rfl⟩ ?_
  rintro ⟨best, i⟩ h2 ⟨k, hi, hkl, f2, hg, hb⟩
  simp only at hi hg hb
  subst hi
  unfold fastpattern_Choose_l1
  refine ifD (fun hlt => ?_) (fun hge => ?_)
  · have hks : k < C.xs.length := by omega
    have oc2 := SlOk.fr0 S_api_Content.ok_fr f2 oc
    rw [chooseGo_drop _ k hks] at hg
    have hpat := sh.pat _ (List.getElem_mem hks)
    refine idx_sl oc2 k rfl hks fun ad cc okc => ?_
    rw [Int.toNat_natCast]
    refine (ldS_mk (cc.at0 rfl) (ldB_mk (cc.at rfl) (ldB_mk (cc.at rfl) (ldB_mk (cc.at rfl) (ldI_mk (cc.at rfl) (ldI_mk (cc.at rfl) (ldB_mk (cc.at rfl) ?_)))))))
    refine cp_mk rfl rfl fun t5 h3 f3 ht5 o5 => ?_
    have f13 := f2.trans f3
    have next : ∀ (b' : Int) (h' : Heap), Fr (fun _ => False) h1 h' → chooseGo C.xs (C.xs.drop (k + 1)) (k + 1) b' = chooseL C.xs → (b' = -1 ∨ ∃ b : Nat, b' = b ∧ b < C.xs.length) →
        (∃ k' : Nat, (b', IntKind.wrap .i64 ((k : Int) + 1)).2 = k' ∧ k' ≤ C.xs.length ∧ Fr (fun _ => False) h1 h' ∧ chooseGo C.xs (C.xs.drop k') k' (b', IntKind.wrap .i64 ((k : Int) + 1)).1 = chooseL C.xs ∧ ((b', IntKind.wrap .i64 ((k : Int) + 1)).1 = -1 ∨ ∃ b : Nat, (b', IntKind.wrap .i64 ((k : Int) + 1)).1 = b ∧ b < C.xs.length)) ∧ C.xs.length - ((b', IntKind.wrap .i64 ((k : Int) + 1)).2).toNat < C.xs.length - k := by
      intro b' h' f' hg' hb'
      rw [wr (by omega) (by omega)]
      exact ⟨⟨k + 1, by simp, by omega, f', hg', hb'⟩, by simp only; omega⟩
    refine ldB_mk (o5.cells.at rfl) ?_
    refine ifB (fun hn => ?_) (fun hn => ?_)
    · rw [if_pos (by simp [outC, hn])] at hg
      exact next _ _ f13 hg hb
    refine ldS_mk (o5.cells.at0 rfl) ?_
    refine ifS0 (fun he => ?_) (fun he => ?_)
    · rw [if_pos (by simp [outC, he])] at hg
      exact next _ _ f13 hg hb
    rw [if_neg (by simp [outC, hn, he])] at hg
    refine ldB_mk (o5.cells.at rfl) ?_
    refine ifB (fun hf => ?_) (fun hf => ?_)
    · rw [if_pos hf] at hg
      have := hk _ (f1.trans f13)
      rw [← hg] at this; exact this
    rw [if_neg (by simp [hf])] at hg
    refine ifD (fun hneg => ?_) (fun hneg => ?_)
    · rw [if_pos hneg] at hg
      exact next _ _ f13 hg (.inr ⟨k, rfl, hks⟩)
    rw [if_neg hneg] at hg
    obtain ⟨b, rfl, hbl⟩ : ∃ b : Nat, best = b ∧ b < C.xs.length := by
      rcases hb with hb | hb
      · omega
      · exact hb
    have o1' : Own h3 a _ _ := Own.fr0 f13 o1
    refine ldL_mk (o1'.cells.at rfl) ?_
    have oc3 := SlOk.fr0 S_api_Content.ok_fr f13 oc
    have hbpat := sh.pat _ (List.getElem_mem hbl)
    have eC : r.Contents.p = C.p ∧ r.Contents.xs.length = C.xs.length := by rw [hcs]; exact ⟨rfl, rfl⟩
    refine idx_sl oc3 b rfl hbl fun ad2 cb okb => ?_
    rw [Int.toNat_natCast]
    refine (ldS_mk (cb.at0 rfl) (ldB_mk (cb.at rfl) (ldB_mk (cb.at rfl) (ldB_mk (cb.at rfl) (ldI_mk (cb.at rfl) (ldI_mk (cb.at rfl) (ldB_mk (cb.at rfl) ?_)))))))
    refine cp_mk rfl rfl fun t6 h5 f5 ht6 o6 => ?_
    have o5' := Own.fr0 f5 o5
    refine ldS_mk (o5'.cells.at0 rfl) (ldS_mk (o6.cells.at0 rfl) ?_)
    refine Score_c _ (by omega) fun h6 f6 => ⟨_, rfl, ?_⟩
    have o6' := Own.fr0 f6 o6
    refine ⟨ldS_mk (o6'.cells.at0 rfl) rfl, ?_⟩
    refine Score_c _ (by omega) fun h7 f7 => ⟨_, rfl, ?_⟩
    have f17 := ((f13.trans f5).trans f6).trans f7
    have hgd : C.xs.getD ((b : Int)).toNat noC = C.xs[b] := by
      rw [Int.toNat_natCast, List.getD_eq_getElem?_getD, List.getElem?_eq_getElem hbl]; rfl
    rw [hgd] at hg
    have win : beats C.xs[k] C.xs[b] = true → chooseGo C.xs (C.xs.drop (k + 1)) (k + 1) k = chooseL C.xs := fun hw => by rw [if_pos hw] at hg; exact hg
    have lose : beats C.xs[k] C.xs[b] = false → chooseGo C.xs (C.xs.drop (k + 1)) (k + 1) b = chooseL C.xs := fun hw => by rw [if_neg (by simp [hw])] at hg; exact hg
    refine ifD (fun hgt => ?_) (fun hgt => ?_)
    · exact next _ _ f17 (win (by simp [beats, hgt])) (.inr ⟨k, rfl, hks⟩)
    refine ifE (fun heq => ?_) (fun hne => ?_)
    · have o5'' := Own.fr0 f7 (Own.fr0 f6 o5')
      have o6'' := Own.fr0 f7 o6'
      refine ldS_mk (o5''.cells.at0 rfl) (ldS_mk (o6''.cells.at0 rfl) ?_)
      rw [bs_size, bs_size]
      refine ifD (fun hl => ?_) (fun hl => ?_)
      · exact next _ _ f17 (win (by unfold beats; rw [heq]; simp; omega)) (.inr ⟨k, rfl, hks⟩)
      · exact next _ _ f17 (lose (by unfold beats; rw [heq]; simp; omega)) (.inr ⟨b, rfl, hbl⟩)
    · exact next _ _ f17 (lose (by unfold beats; simp [hne]; omega)) (.inr ⟨b, rfl, hbl⟩)
  · have : k = C.xs.length := by omega
    subst this
    rw [List.drop_length] at hg
    have := hk _ (f1.trans f2)
    rw [← hg] at this; exact this
end Go.Proofs.Ytjelnknmjhceiaa
