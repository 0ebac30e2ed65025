/-
  The reference's choice; the fast pattern of a rule.
-/
import Derived.Test.YtjelnknmjhceiaaFastC
import Derived.Test.YtjelnknmjhceiaaKit3
namespace Go.Proofs.Ytjelnknmjhceiaa
set_option linter.unusedSimpArgs false
set_option linter.unusedVariables false
set_option maxRecDepth 20000
open Go
theorem counts_c [Gh] (c : Cn) {h : Heap} {Q : Value → Heap → Prop} (hk : ∀ h', Fr (fun _ => False) h h' → Q (.bool (!outC c)) h') :
    CallT Try.prog fn_ref46_counts #[.agg c.vals.toArray] h Q := by
  apply ref46_counts_s
  unfold ref46_counts_v
  refine al_mk fun a h1 f1 ha o1 => ?_
  refine ldB_mk (o1.cells.at rfl) ?_
  have hk := hk _ f1
  refine ifN (fun hn => ?_) (fun hn => ?_)
  · refine ldS_mk (o1.cells.at0 rfl) ?_
    rw [bs_toList]
    have : (!outC c) = !(c.Pattern == (⟨#[]⟩ : ByteArray).toList) := by
      have e : (⟨#[]⟩ : ByteArray).toList = [] := bs_toList []
      unfold outC; rw [hn, e, Bool.false_or]
      cases c.Pattern <;> rfl
    rw [this] at hk; exact hk
  · have : (!outC c) = false := by unfold outC; rw [hn]; rfl
    rw [this] at hk; exact hk
theorem rChoose_c [Gh] (r : S_api_Rule) {h : Heap} (ok : r.ok h) (sh : ShortC r.Contents.xs) {Q : Value → Heap → Prop} (hk : ∀ h', Fr (fun _ => False) h h' → Q (.int .i64 (chooseL r.Contents.xs)) h') :
    CallT Try.prog fn_ref46_Choose #[.agg r.vals.toArray] h Q := by
  apply ref46_Choose_s
  unfold ref46_Choose_v
  refine al_mk fun a h1 f1 ha o1 => ?_
  have oc : SlOk 7 S_api_Content.vals S_api_Content.ok h1 r.Contents := SlOk.fr0 S_api_Content.ok_fr f1 ok.k14
  have ld : ∀ h', Fr (fun _ => False) h1 h' → hcell h' (a.add 14) = some (.slice r.Contents.p r.Contents.xs.length r.Contents.cap) := fun h' f => (Own.fr0 f o1).cells.at rfl
  clear ok o1
  generalize r.Contents = C at *
  have hlen := sh.len
  refine LoopV.mk (fun st h' => ∃ k : Nat, st.2 = k ∧ k ≤ C.xs.length ∧ Fr (fun _ => False) h1 h' ∧ chooseGo C.xs (C.xs.drop k) k st.1 = chooseL C.xs ∧ (st.1 = -1 ∨ ∃ b : Nat, st.1 = b ∧ b < C.xs.length)) (fun st _ => C.xs.length - st.2.toNat)
    ⟨0, rfl, by omega, Fr.refl _ _, rfl, .inl rfl⟩ ?_
  rintro ⟨best, i⟩ h2 ⟨k, hi, hkl, f2, hg, hb⟩
  simp only at hi hg hb
  subst hi
  unfold ref46_Choose_l1
  refine ldL_mk (ld _ f2) ?_
  refine ifD (fun hlt => ?_) (fun hge => ?_)
  · have hks : k < C.xs.length := by omega
    have oc2 := SlOk.fr0 S_api_Content.ok_fr f2 oc
    rw [chooseGo_drop _ k hks] at hg
    have hpat := sh.pat _ (List.getElem_mem hks)
    refine ldL_mk (ld _ f2) ?_
    refine idx_sl oc2 k rfl hks fun ad cc okc => ?_
    rw [Int.toNat_natCast]
    refine (ldS_mk (cc.at0 rfl) (ldB_mk (cc.at rfl) (ldB_mk (cc.at rfl) (ldB_mk (cc.at rfl) (ldI_mk (cc.at rfl) (ldI_mk (cc.at rfl) (ldB_mk (cc.at rfl) ?_)))))))
    refine cp_mk rfl rfl fun t5 h3 f3 ht5 o5 => ?_
    have f13 := f2.trans f3
    have next : ∀ (b' : Int) (h' : Heap), Fr (fun _ => False) h1 h' → chooseGo C.xs (C.xs.drop (k + 1)) (k + 1) b' = chooseL C.xs → (b' = -1 ∨ ∃ b : Nat, b' = b ∧ b < C.xs.length) →
        (∃ k' : Nat, (b', IntKind.wrap .i64 ((k : Int) + 1)).2 = k' ∧ k' ≤ C.xs.length ∧ Fr (fun _ => False) h1 h' ∧ chooseGo C.xs (C.xs.drop k') k' (b', IntKind.wrap .i64 ((k : Int) + 1)).1 = chooseL C.xs ∧ ((b', IntKind.wrap .i64 ((k : Int) + 1)).1 = -1 ∨ ∃ b : Nat, (b', IntKind.wrap .i64 ((k : Int) + 1)).1 = b ∧ b < C.xs.length)) ∧ C.xs.length - ((b', IntKind.wrap .i64 ((k : Int) + 1)).2).toNat < C.xs.length - k := by
      intro b' h' f' hg' hb'
      rw [wr (by omega) (by omega)]
      exact ⟨⟨k + 1, by simp, by omega, f', hg', hb'⟩, by simp only; omega⟩
    refine (ldS_mk (o5.cells.at0 rfl) (ldB_mk (o5.cells.at rfl) (ldB_mk (o5.cells.at rfl) (ldB_mk (o5.cells.at rfl) (ldI_mk (o5.cells.at rfl) (ldI_mk (o5.cells.at rfl) (ldB_mk (o5.cells.at rfl) ?_)))))))
    refine counts_c _ fun h4 f4 => ⟨_, rfl, ?_⟩
    have f14 := f13.trans f4
    have o5' := Own.fr0 f4 o5
    refine ifN (fun hn => ?_) (fun hn => ?_)
    · rw [if_pos (by simpa using hn)] at hg
      exact next _ _ f14 hg hb
    rw [if_neg (by simpa using hn)] at hg
    refine ldB_mk (o5'.cells.at rfl) ?_
    refine ifB (fun hf => ?_) (fun hf => ?_)
    · rw [if_pos hf] at hg
      have := hk _ (f1.trans f14)
      rw [← hg] at this; exact this
    rw [if_neg (by simp [hf])] at hg
    refine ifD (fun hneg => ?_) (fun hneg => ?_)
    · rw [if_pos hneg] at hg
      exact next _ _ f14 hg (.inr ⟨k, rfl, hks⟩)
    rw [if_neg hneg] at hg
    obtain ⟨b, rfl, hbl⟩ : ∃ b : Nat, best = b ∧ b < C.xs.length := by
      rcases hb with hb | hb
      · omega
      · exact hb
    refine ldL_mk (ld _ f14) ?_
    have oc3 := SlOk.fr0 S_api_Content.ok_fr f14 oc
    have hbpat := sh.pat _ (List.getElem_mem hbl)
    refine idx_sl oc3 b rfl hbl fun ad2 cb okb => ?_
    rw [Int.toNat_natCast]
    refine ldS_mk (cb.at0 rfl) (ldS_mk (o5'.cells.at0 rfl) ?_)
    refine rScore_c _ (by omega) fun h5 f5 => ⟨_, rfl, ?_⟩
    refine rScore_c _ (by omega) fun h6 f6 => ⟨_, rfl, ?_⟩
    have o6 := Own.fr0 f6 (Own.fr0 f5 o5')
    have f16 := (f14.trans f5).trans f6
    have hgd : C.xs.getD ((b : Int)).toNat noC = C.xs[b] := by
      rw [Int.toNat_natCast, List.getD_eq_getElem?_getD, List.getElem?_eq_getElem hbl]; rfl
    rw [hgd] at hg
    have win : beats C.xs[k] C.xs[b] = true → chooseGo C.xs (C.xs.drop (k + 1)) (k + 1) k = chooseL C.xs := fun hw => by rw [if_pos hw] at hg; exact hg
    have lose : beats C.xs[k] C.xs[b] = false → chooseGo C.xs (C.xs.drop (k + 1)) (k + 1) b = chooseL C.xs := fun hw => by rw [if_neg (by simp [hw])] at hg; exact hg
    refine ifD (fun hgt => ?_) (fun hgt => ?_)
    · exact next _ _ f16 (win (by simp [beats, hgt])) (.inr ⟨k, rfl, hks⟩)
    refine ldS_mk (o6.cells.at0 rfl) ?_
    refine rScore_c _ (by omega) fun h7 f7 => ⟨_, rfl, ?_⟩
    refine rScore_c _ (by omega) fun h8 f8 => ⟨_, rfl, ?_⟩
    have o8 := Own.fr0 f8 (Own.fr0 f7 o6)
    have f18 := (f16.trans f7).trans f8
    refine ifE (fun heq => ?_) (fun hne => ?_)
    · refine ldS_mk (o8.cells.at0 rfl) ?_
      rw [bs_size, bs_size]
      refine ifD (fun hl => ?_) (fun hl => ?_)
      · exact next _ _ f18 (win (by unfold beats; rw [heq]; simp; omega)) (.inr ⟨k, rfl, hks⟩)
      · exact next _ _ f18 (lose (by unfold beats; rw [heq]; simp; omega)) (.inr ⟨b, rfl, hbl⟩)
    · exact next _ _ f18 (lose (by unfold beats; simp [hne]; omega)) (.inr ⟨b, rfl, hbl⟩)
  · have : k = C.xs.length := by omega
    subst this
    rw [List.drop_length] at hg
    have := hk _ (f1.trans f2)
    rw [← hg] at this; exact this
theorem el_u8 : ElemT Try.prog T_sl_uint8 T_uint8 Try.t5 (.int .u8 0) := ⟨Try.underlying87, by kernel_rfl, by kernel_rfl, by kernel_rfl, by decide⟩
theorem clone_c [Gh] (s : List UInt8) (hs : s.length < 2 ^ 40) {h : Heap} {Q : Value → Heap → Prop} (hk : ∀ h', Fr (fun _ => False) h h' → Q (.string (bs s)) h') :
    CallT Try.prog fn_strings_Clone #[.string (bs s)] h Q := by
  apply strings_Clone_s
  unfold strings_Clone_v
  have inner : CallT Try.prog fn_internal_stringslite_Clone #[.string (bs s)] h (fun v h' => v = .string (bs s) ∧ Fr (fun _ => False) h h') := by
    apply internal_stringslite_Clone_s
    unfold internal_stringslite_Clone_v
    rw [bs_size]
    refine ifE (fun h0 => ?_) (fun h0 => ?_)
    · have : s = [] := List.length_eq_zero_iff.1 (by omega)
      subst this; exact ⟨rfl, Fr.refl _ _⟩
    have eb : (Try.t5).bytes = 1 := by kernel_rfl
    refine mkSl_mk el_u8 s.length rfl (by rw [eb]; omega) fun a h1 f1 ha o1 => ⟨_, _, _, rfl, ?_⟩
    refine copyS_mk Try.underlying87 (by kernel_rfl) (by kernel_rfl) o1 s (by show (List.replicate s.length [Value.int .u8 0]).flatten.length = _; simp) fun h2 f2 o2 => ⟨_, rfl, ?_⟩
    have f02 : Fr (fun _ => False) h h2 := f1.tr f2 (fun x hx e => by subst e; rw [ha] at hx; exact absurd hx (Nat.lt_irrefl _))
    refine idxA_mk 0 rfl (by omega) (nn_mk ?_)
    refine unsafeStr_mk Try.underlying111 (by kernel_rfl) o2 (by omega) fun h3 f3 => ⟨_, rfl, rfl, ?_⟩
    exact f02.tr f3 (fun x hx e => by subst e; rw [ha] at hx; exact absurd hx (Nat.lt_irrefl _))
  refine inner.mono ?_
  rintro v h' ⟨rfl, f⟩
  exact ⟨_, rfl, hk _ f⟩
/-- The fast pattern: text and whether letters' case counts. -/
def patL (cs : List Cn) : Option (List UInt8 × Bool) :=
  if chooseL cs < 0 then none else
    let c := cs.getD (chooseL cs).toNat noC
    some (if c.Nocase then c.Pattern.map lowB else c.Pattern, c.Nocase)
def patV (cs : List Cn) : Value := match patL cs with
  | none => .tuple #[.agg #[.string (bs []), .bool false], .bool false]
  | some (t, n) => .tuple #[.agg #[.string (bs t), .bool n], .bool true]
theorem chooseGo_lt (all : List Cn) : ∀ (l : List Cn) (k : Nat) (best : Int), k + l.length = all.length → best < all.length → chooseGo all l k best < all.length
  | [], _, _, _, hb => hb
  | c :: r, k, best, hl, hb => by
    simp only [List.length_cons] at hl
    unfold chooseGo
    have i1 := chooseGo_lt all r (k + 1) best (by omega) hb
    have i2 := chooseGo_lt all r (k + 1) k (by omega) (by omega)
    split
    · exact i1
    split
    · omega
    split
    · exact i2
    split <;> assumption
theorem chooseL_lt (all : List Cn) : chooseL all < all.length := chooseGo_lt all all 0 (-1) (by simp) (by omega)
end Go.Proofs.Ytjelnknmjhceiaa
