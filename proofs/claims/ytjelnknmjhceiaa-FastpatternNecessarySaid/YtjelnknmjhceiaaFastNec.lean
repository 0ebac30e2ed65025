/-
  The law Necessary.
-/
import Derived.Test.YtjelnknmjhceiaaFastL
import Derived.Test.YtjelnknmjhceiaaCkB
namespace Go.Proofs.Ytjelnknmjhceiaa
set_option linter.unusedSimpArgs false
set_option linter.unusedVariables false
set_option maxRecDepth 20000
open Go
open Go.IntKind (wrap)
/-- The choice is -1, or a content that counts. -/
theorem choose_ok (all : List Cn) : chooseL all = -1 ∨ ∃ i : Nat, ∃ hi : i < all.length, chooseL all = i ∧ outC all[i] = false := by
  have key : ∀ (l : List Cn) (k : Nat) (best : Int), all.drop k = l → (best = -1 ∨ ∃ i : Nat, ∃ hi : i < all.length, best = i ∧ outC all[i] = false) → chooseGo all l k best = -1 ∨ ∃ i : Nat, ∃ hi : i < all.length, chooseGo all l k best = i ∧ outC all[i] = false := by
    intro l
    induction l with
    | nil => intro k best _ hb; exact hb
    | cons c l ih =>
      intro k best hd hb
      have hk : k < all.length := by
        rcases Nat.lt_or_ge k all.length with h | h
        · exact h
        · rw [List.drop_of_length_le h] at hd; cases hd
      rw [List.drop_eq_getElem_cons hk] at hd
      injection hd with h1 h2
      unfold chooseGo
      by_cases ho : outC c = true
      · rw [if_pos ho]; exact ih (k + 1) best h2 hb
      rw [if_neg ho]
      have hok : outC all[k] = false := by rw [h1]; simpa using ho
      have hnew : ((k : Nat) : Int) = -1 ∨ ∃ i : Nat, ∃ hi : i < all.length, ((k : Nat) : Int) = i ∧ outC all[i] = false := .inr ⟨k, hk, rfl, hok⟩
      by_cases hf : c.Fast = true
      · rw [if_pos hf]; exact hnew
      rw [if_neg hf]
      by_cases hb0 : best < 0
      · rw [if_pos hb0]; exact ih (k + 1) k h2 hnew
      rw [if_neg hb0]
      by_cases hbe : beats c (all.getD best.toNat noC) = true
      · rw [if_pos hbe]; exact ih (k + 1) k h2 hnew
      · rw [if_neg hbe]; exact ih (k + 1) best h2 hb
  exact key all 0 (-1) rfl (.inl rfl)
theorem low_same (c : UInt8) : lowB c = Au.lowB c := by
  unfold lowB Au.lowB
  have e : (65 ≤ c.toNat ∧ c.toNat ≤ 90) ↔ (65 ≤ c ∧ c ≤ 90) := by
    rw [UInt8.le_iff_toNat_le, UInt8.le_iff_toNat_le]; rfl
  by_cases h : 65 ≤ c ∧ c ≤ 90
  · rw [if_pos h, if_pos (e.2 h)]
  · rw [if_neg h, if_neg fun h' => h (e.1 h')]
theorem low_same' (l : List UInt8) : l.map lowB = Au.lowL l := by
  unfold Au.lowL
  exact List.map_congr_left fun c _ => low_same c
theorem low_idem (l : List UInt8) : Au.lowL (Au.lowL l) = Au.lowL l := by
  unfold Au.lowL
  rw [List.map_map]
  refine List.map_congr_left fun x _ => Au.byteI_inj ?_
  show Au.byteI (Au.lowB (Au.lowB x)) = _
  rw [Au.byteI_low, Au.byteI_low]
  unfold Au.smallI
  by_cases h : 65 ≤ Au.byteI x ∧ Au.byteI x ≤ 90
  · rw [if_pos h, if_neg (by omega)]
  · rw [if_neg h, if_neg h]
/-- Where a content stands, its pattern occurs. -/
theorem plain_pos (c : Cn) (d : List UInt8) (p : Int) (hp : c.Pattern ≠ []) (h : Au.atB c d p = true) : 0 < (Au.hAll [⟨if c.Nocase = true then c.Pattern.map lowB else c.Pattern, c.Nocase⟩] d 0 d.length).length := by
  unfold Au.atB at h
  rw [Bool.and_eq_true, decide_eq_true_iff] at h
  obtain ⟨⟨h1, h2⟩, h3⟩ := h
  obtain ⟨q, rfl⟩ : ∃ q : Nat, p = q := ⟨p.toNat, by omega⟩
  rw [Int.toNat_natCast] at h3
  have hlen := List.length_pos_iff.2 hp
  rw [low_same']
  have hocc : Au.occB ⟨if c.Nocase = true then Au.lowL c.Pattern else c.Pattern, c.Nocase⟩ d (q + c.Pattern.length) = true := by
    unfold Au.occB
    have hl : (if c.Nocase = true then Au.lowL c.Pattern else c.Pattern).length = c.Pattern.length := by
      split
      · exact Au.lowL_len _
      · rfl
    have he : Au.endL d c.Pattern.length (q + c.Pattern.length) = Au.partL d q c.Pattern.length := by
      unfold Au.endL Au.partL; rw [Nat.add_sub_cancel]
    dsimp only
    rw [hl, decide_eq_true (show (if c.Nocase = true then Au.lowL c.Pattern else c.Pattern) ≠ [] from fun e => by rw [e] at hl; simp at hl; omega), decide_eq_true (by omega), he, Bool.true_and, Bool.true_and]
    by_cases hn : c.Nocase = true
    · rw [if_pos hn, decide_eq_true_iff] at h3
      rw [if_pos hn, if_pos hn, h3, low_idem, decide_eq_true rfl]
    · rw [if_neg hn, decide_eq_true_iff] at h3
      rw [if_neg hn, if_neg hn, h3, decide_eq_true rfl]
  generalize (⟨if c.Nocase = true then Au.lowL c.Pattern else c.Pattern, c.Nocase⟩ : Au.Pt) = P at *
  refine List.length_pos_iff.2 (List.ne_nil_of_mem (a := ((0 : Nat), q + c.Pattern.length)) ?_)
  unfold Au.hAll
  refine List.mem_flatMap.2 ⟨q + c.Pattern.length - 1, List.mem_range.2 (by omega), ?_⟩
  rw [show 0 + 1 + (q + c.Pattern.length - 1) = q + c.Pattern.length by omega]
  unfold Au.hA
  refine List.mem_flatMap.2 ⟨0, List.mem_range.2 (by simp), ?_⟩
  rw [show [P].getD 0 ⟨[], false⟩ = P from rfl, if_pos hocc]
  exact List.mem_singleton.2 rfl
theorem FastpatternNecessary_c [Gh] (r : S_api_Rule) (d : List UInt8) {h : Heap} (ok : S_api_Rule.ok h r) (os : sOk h d) {Q : Value → Heap → Prop} (hk : ∀ h', Fr (fun _ => False) h h' → Q (.bool true) h') :
    CallT Try.prog fn_law46_FastpatternNecessary #[.agg r.vals.toArray, .string (bs d)] h Q := by
  apply law46_FastpatternNecessary_s
  unfold law46_FastpatternNecessary_v
  refine al_mk (vs := r.vals) fun t2 h1 f1 e1 o1 => ?_
  have c1 : Cells h1 t2 r.vals := o1.cells
  clear o1
  refine lives_c fun h2 f2 => ⟨_, rfl, ?_⟩
  rw [if_neg (by decide)]
  have f12 := f1.trans f2
  have c2 := c1.fr0 f2
  have k2 := S_api_Rule.ok_fr _ _ _ f12 ok
  refine (ldI_mk (c2.at0 rfl) (ldI_mk (c2.at rfl) (ldL_mk (c2.at rfl) (ldL_mk (c2.at rfl) (ldL_mk (c2.at rfl) (ldL_mk (c2.at rfl) (ldB_mk (c2.at rfl) (ldI_mk (c2.at rfl) (ldI_mk (c2.at rfl) (ldI_mk (c2.at rfl) (ldS_mk (c2.at rfl) (ldI_mk (c2.at rfl) (ldI_mk (c2.at rfl) (ldL_mk (c2.at rfl) (ldL_mk (c2.at rfl) (ldL_mk (c2.at rfl) (ldL_mk (c2.at rfl) (ldI_mk (c2.at rfl) (ldI_mk (c2.at rfl) (ldI_mk (c2.at rfl) (ldI_mk (c2.at rfl) ?_)))))))))))))))))))))
  refine Au.Check_c r k2 fun e h3 f3 hck => ⟨e, rfl, ?_⟩
  have f13 := f12.trans f3
  have c3 := c2.fr0 f3
  have k3 := S_api_Rule.ok_fr _ _ _ f3 k2
  refine ifNe (fun _ => hk h3 f13) fun he => ?_
  have K := hck he
  rw [bs_size]
  refine ifD (fun _ => hk h3 f13) fun hd => ?_
  refine (ldI_mk (c3.at0 rfl) (ldI_mk (c3.at rfl) (ldL_mk (c3.at rfl) (ldL_mk (c3.at rfl) (ldL_mk (c3.at rfl) (ldL_mk (c3.at rfl) (ldB_mk (c3.at rfl) (ldI_mk (c3.at rfl) (ldI_mk (c3.at rfl) (ldI_mk (c3.at rfl) (ldS_mk (c3.at rfl) (ldI_mk (c3.at rfl) (ldI_mk (c3.at rfl) (ldL_mk (c3.at rfl) (ldL_mk (c3.at rfl) (ldL_mk (c3.at rfl) (ldL_mk (c3.at rfl) (ldI_mk (c3.at rfl) (ldI_mk (c3.at rfl) (ldI_mk (c3.at rfl) (ldI_mk (c3.at rfl) ?_)))))))))))))))))))))
  have sh : ShortC r.Contents.xs := ⟨by have := K.conn; omega, fun c hc => by have := K.con c hc; omega⟩
  refine Pattern_c r k3 sh fun h4 f4 => ?_
  have f14 := f13.trans f4
  have c4 := c3.fr0 f4
  have k4 := S_api_Rule.ok_fr _ _ _ f4 k3
  rcases choose_ok r.Contents.xs with hch | ⟨i, hi, hch, hout⟩
  · have hp : patV r.Contents.xs = .tuple #[.agg #[.string (bs []), .bool false], .bool false] := by
      unfold patV patL
      rw [if_pos (by rw [hch]; decide)]
    rw [hp]
    refine ⟨_, _, _, rfl, ?_⟩
    refine al_mk (vs := [.string (bs []), .bool false]) fun t5 h5 f5 e5 o5 => ?_
    refine stN_own o5 (ws := [.string (bs []), .bool false]) (by rfl) (by rfl) fun h6 f6 s6 o6 => ?_
    have f46 : Fr (fun _ => False) h4 h6 := f5.tr f6 fun b hb hi => by omega
    rw [if_pos (by decide)]
    have c6 := c4.fr0 f46
    have k6 := S_api_Rule.ok_fr _ _ _ f46 k4
    refine (ldI_mk (c6.at0 rfl) (ldI_mk (c6.at rfl) (ldL_mk (c6.at rfl) (ldL_mk (c6.at rfl) (ldL_mk (c6.at rfl) (ldL_mk (c6.at rfl) (ldB_mk (c6.at rfl) (ldI_mk (c6.at rfl) (ldI_mk (c6.at rfl) (ldI_mk (c6.at rfl) (ldS_mk (c6.at rfl) (ldI_mk (c6.at rfl) (ldI_mk (c6.at rfl) (ldL_mk (c6.at rfl) (ldL_mk (c6.at rfl) (ldL_mk (c6.at rfl) (ldL_mk (c6.at rfl) (ldI_mk (c6.at rfl) (ldI_mk (c6.at rfl) (ldI_mk (c6.at rfl) (ldI_mk (c6.at rfl) ?_)))))))))))))))))))))
    refine Choose_c r k6 sh fun h7 f7 => ⟨_, rfl, ?_⟩
    rw [hch]
    exact hk h7 ((f14.trans f46).trans f7)
  · unfold outC at hout
    rw [Bool.or_eq_false_iff] at hout
    have hne : r.Contents.xs[i].Pattern ≠ [] := fun h => by
      have := hout.2
      rw [h] at this; cases this
    have hget : r.Contents.xs.getD (chooseL r.Contents.xs).toNat noC = r.Contents.xs[i] := by
      rw [hch, Int.toNat_natCast, List.getD_eq_getElem?_getD, List.getElem?_eq_getElem hi]; rfl
    have hp : patV r.Contents.xs = .tuple #[.agg #[.string (bs (if r.Contents.xs[i].Nocase = true then r.Contents.xs[i].Pattern.map lowB else r.Contents.xs[i].Pattern)), .bool r.Contents.xs[i].Nocase], .bool true] := by
      unfold patV patL
      rw [if_neg (by rw [hch]; omega), hget]
    rw [hp]
    refine ⟨_, _, _, rfl, ?_⟩
    have hpos := plain_pos r.Contents.xs[i] d
    have hptl : (if r.Contents.xs[i].Nocase = true then r.Contents.xs[i].Pattern.map lowB else r.Contents.xs[i].Pattern).length ≤ 64 := by
      have := (K.con _ (List.getElem_mem hi)).2.1
      split
      · rw [List.length_map]; exact this
      · exact this
    generalize (if r.Contents.xs[i].Nocase = true then r.Contents.xs[i].Pattern.map lowB else r.Contents.xs[i].Pattern) = pt at *
    refine al_mk (vs := [.string (bs []), .bool false]) fun t5 h5 f5 e5 o5 => ?_
    refine stN_own o5 (ws := [.string (bs pt), .bool r.Contents.xs[i].Nocase]) (by rfl) (by rfl) fun h6 f6 s6 o6 => ?_
    have f46 : Fr (fun _ => False) h4 h6 := f5.tr f6 fun b hb hi => by omega
    rw [if_neg (by decide)]
    have c6 := c4.fr0 f46
    have k6 := S_api_Rule.ok_fr _ _ _ f46 k4
    have f16 := f14.trans f46
    refine ldL_mk (c6.at (j := 14) rfl) (ldL_mk (c6.at (j := 15) rfl) ?_)
    refine Au.Match_c r.Contents r.Tests d 3000 k6.k14 k6.k15 (by decide) (by omega) K.okC K.okT fun h7 f7 => ?_
    unfold Au.matchV
    have f17 := f16.trans f7
    by_cases hov : (Au.solve d r.Tests.xs r.Contents.xs 0 (Int.toNat 3000)).2.2 = true
    · rw [if_pos hov]
      refine ⟨_, _, _, _, rfl, ?_⟩
      rw [if_pos (by decide)]
      exact hk h7 f17
    rw [if_neg hov]
    refine ⟨_, _, _, _, rfl, ?_⟩
    refine ifN (fun _ => hk h7 f17) fun hm => ?_
    obtain ⟨p, hat⟩ := Au.solve_some _ _ _ hm r.Contents.xs[i] (List.getElem_mem hi) hout.1
    have hpos := hpos p hne hat
    have c7 := o6.cells.fr0 f7
    refine ldS_mk (c7.at0 rfl) (ldB_mk (c7.at (j := 1) rfl) ?_)
    refine al_mk (vs := [.string (bs pt), .bool r.Contents.xs[i].Nocase]) fun t46 h8 f8 e8 o8 => ?_
    refine Au.Plain_c (q := some t46) (cap := 1) (L := [⟨pt, r.Contents.xs[i].Nocase⟩]) (by simp) (fun x hx => by rw [List.mem_singleton.1 hx]; show pt.length ≤ _; omega) d (by omega) (fun k hk => ?_) fun p9 c9 h9 f9 R9 hp9 => ⟨_, _, _, rfl, ?_⟩
    · have : k = 0 := by simpa using hk
      subst this
      exact ⟨t46, rfl, o8.cells⟩
    rw [decide_eq_true (by omega)]
    exact hk h9 ((f17.trans f8).trans f9)
end Go.Proofs.Ytjelnknmjhceiaa
