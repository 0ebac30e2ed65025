/-
  The fast pattern of a rule, by the program and by the reference.
-/
import Derived.Test.YtjelnknmjhceiaaFastD
namespace Go.Proofs.Ytjelnknmjhceiaa
set_option linter.unusedSimpArgs false
set_option linter.unusedVariables false
set_option maxRecDepth 20000
open Go
theorem pat_b1 [Gh] {h : Heap} {t2 p5 : Addr} {vs : List Value} {t : List UInt8} {n : Bool} (o2 : Own h t2 vs T_api_Pattern) (hl : vs.length = 2) (o5 : Own h p5 [.string (bs t), .bool n] T_api_Pattern) {Q : Value → Heap → Prop}
    (hk : ∀ h', Fr (fun b => b = t2.block ∨ b = p5.block) h h' → Q (.tuple #[.agg #[.string (bs t), .bool n], .bool true]) h') : fastpattern_Pattern_b1 t2 p5 Q h := by
  unfold fastpattern_Pattern_b1
  refine (ldS_mk (o5.cells.at0 rfl) (ldB_mk (o5.cells.at rfl) ?_))
  refine stN_own o2 (by rw [hl]; rfl) rfl fun h1 f1 _ o1 => ?_
  refine (ldS_mk (o1.cells.at0 rfl) (ldB_mk (o1.cells.at rfl) ?_))
  exact hk _ (f1.mono fun b hb => .inl hb)
theorem pat_b2 [Gh] {h : Heap} {t2 p5 : Addr} {vs : List Value} {t : List UInt8} {n : Bool} (ht : t.length < 2 ^ 40) (o2 : Own h t2 vs T_api_Pattern) (hl : vs.length = 2) (o5 : Own h p5 [.string (bs t), .bool n] T_api_Pattern) (ne : t2.block ≠ p5.block) {Q : Value → Heap → Prop}
    (hk : ∀ h', Fr (fun b => b = t2.block ∨ b = p5.block) h h' → Q (.tuple #[.agg #[.string (bs (if n then t.map lowB else t)), .bool n], .bool true]) h') : fastpattern_Pattern_b2 t2 p5 Q h := by
  unfold fastpattern_Pattern_b2
  refine ldB_mk (o5.cells.at rfl) ?_
  refine ifB (fun hn => ?_) (fun hn => ?_)
  · subst hn
    refine ldS_mk (o5.cells.at0 rfl) ?_
    refine small_c t ht fun h1 f1 => ⟨_, rfl, ?_⟩
    refine st1_own0 (Own.fr0 f1 o5) (by simp) rfl fun h2 f2 _ o2' => ?_
    have f12 : Fr (fun b => b = t2.block ∨ b = p5.block) h h2 := (f1.mono fun b hb => hb.elim).trans (f2.mono fun b hb => .inr hb)
    refine pat_b1 ((Own.fr0 f1 o2).fr f2 ne) hl o2' fun h3 f3 => hk _ ?_
    exact f12.trans f3
  · subst hn
    exact pat_b1 o2 hl o5 hk
theorem Pattern_c [Gh] (r : S_api_Rule) {h : Heap} (ok : r.ok h) (sh : ShortC r.Contents.xs) {Q : Value → Heap → Prop} (hk : ∀ h', Fr (fun _ => False) h h' → Q (patV r.Contents.xs) h') :
    CallT Try.prog fn_fastpattern_Pattern #[.agg r.vals.toArray] h Q := by
  apply fastpattern_Pattern_s
  unfold fastpattern_Pattern_v
  refine al_mk fun a h1 f1 ha o1 => al_mk fun b h2 f2 hb o2 => ?_
  have o1' := Own.fr0 f2 o1
  have f02 := f1.trans f2
  refine (ldI_mk (o1'.cells.at0 rfl) (ldI_mk (o1'.cells.at rfl) (ldL_mk (o1'.cells.at rfl) (ldL_mk (o1'.cells.at rfl) (ldL_mk (o1'.cells.at rfl) (ldL_mk (o1'.cells.at rfl) (ldB_mk (o1'.cells.at rfl) (ldI_mk (o1'.cells.at rfl) (ldI_mk (o1'.cells.at rfl) (ldI_mk (o1'.cells.at rfl) (ldS_mk (o1'.cells.at rfl) (ldI_mk (o1'.cells.at rfl) (ldI_mk (o1'.cells.at rfl) (ldL_mk (o1'.cells.at rfl) (ldL_mk (o1'.cells.at rfl) (ldL_mk (o1'.cells.at rfl) (ldL_mk (o1'.cells.at rfl) (ldI_mk (o1'.cells.at rfl) (ldI_mk (o1'.cells.at rfl) (ldI_mk (o1'.cells.at rfl) (ldI_mk (o1'.cells.at rfl) ?_)))))))))))))))))))))
  refine Choose_c r (S_api_Rule.ok_fr _ _ _ f02 ok) sh fun h3 f3 => ⟨_, rfl, ?_⟩
  have o1'' := Own.fr0 f3 o1'
  have o2'' := Own.fr0 f3 o2
  have f03 := f02.trans f3
  have hlt := chooseL_lt r.Contents.xs
  have fresh : ∀ {h'}, Fr (fun x => x = b.block) h3 h' → Fr (fun _ => False) h h' := fun f => f03.tr f (fun x hx e => by subst e; have := f1.size; omega)
  unfold patV patL at hk
  refine ifD (fun hneg => ?_) (fun hpos => ?_)
  · rw [if_pos hneg] at hk
    refine stN_own o2'' rfl rfl fun h4 f4 _ o4 => ?_
    refine (ldS_mk (o4.cells.at0 rfl) (ldB_mk (o4.cells.at rfl) ?_))
    exact hk _ (fresh f4)
  · rw [if_neg hpos] at hk
    simp only at hk
    obtain ⟨k, hk0⟩ : ∃ k : Nat, chooseL r.Contents.xs = k := ⟨(chooseL r.Contents.xs).toNat, by omega⟩
    rw [hk0] at hk ⊢
    rw [hk0] at hlt
    have hkl : k < r.Contents.xs.length := by omega
    have hpat := sh.pat _ (List.getElem_mem hkl)
    have hgd : r.Contents.xs.getD ((k : Int)).toNat noC = r.Contents.xs[k] := by
      rw [Int.toNat_natCast, List.getD_eq_getElem?_getD, List.getElem?_eq_getElem hkl]; rfl
    rw [hgd] at hk
    have oc := SlOk.fr0 S_api_Content.ok_fr f03 ok.k14
    refine ldL_mk (o1''.cells.at rfl) ?_
    refine idx_sl oc k rfl hkl fun ad cc okc => ?_
    rw [Int.toNat_natCast]
    refine ldS_mk (cc.at0 rfl) ?_
    refine ldL_mk (o1''.cells.at rfl) ?_
    refine idx_sl oc k rfl hkl fun ad2 cc2 okc2 => ?_
    refine ldB_mk (cc2.at rfl) ?_
    have hb2 : b.block < h3.size := o2''.lt
    have end_ : ∀ (c : Addr) (h' : Heap), Fr (fun _ => False) h3 h' → h3.size ≤ c.block → Own h' c [.string (bs r.Contents.xs[k].Pattern), .bool r.Contents.xs[k].Nocase] T_api_Pattern → fastpattern_Pattern_b2 b c Q h' := by
      intro c h' f hc oc
      refine pat_b2 (by omega) (Own.fr0 f o2'') rfl oc (by omega) fun h4 f4 => hk _ ?_
      refine f03.tr ((f.mono (S' := fun x => x = b.block) fun _ h => h.elim).tr f4 fun x hx hs => ?_) (fun x hx e => by subst e; have := f1.size; omega)
      rcases hs with hs | hs
      · exact hs
      · omega
    constructor
    · refine clone_c _ (by omega) fun h5 f5 => ⟨_, rfl, ?_⟩
      refine ⟨ldL_mk ((Own.fr0 f5 o1'').cells.at rfl) rfl, ldB_mk ((Cells.fr0 f5 cc2).at rfl) rfl, ?_⟩
      refine alV_mk ?_
      have f6 := f5.trans (Fr.push (fun _ => False) h5 (.cells #[Value.string ⟨#[]⟩, Value.bool false] T_api_Pattern (0, 0)))
      have o6 : Own (h5.push (.cells #[Value.string ⟨#[]⟩, Value.bool false] T_api_Pattern (0, 0))) ⟨h5.size, 0, none⟩ [Value.string ⟨#[]⟩, Value.bool false] T_api_Pattern := ⟨rfl, rfl, get_push_self⟩
      generalize h5.push (.cells #[Value.string ⟨#[]⟩, Value.bool false] T_api_Pattern (0, 0)) = h6 at *
      refine ⟨ldL_mk ((Own.fr0 f6 o1'').cells.at rfl) rfl, ldS_mk ((Cells.fr0 f6 cc).at0 rfl) rfl, ldL_mk ((Own.fr0 f6 o1'').cells.at rfl) rfl, ldB_mk ((Cells.fr0 f6 cc2).at rfl) rfl, ?_⟩
      refine stN_own o6 rfl rfl fun h7 f7 _ o7 => ?_
      exact end_ _ _ (f6.tr f7 fun x hx e => by subst e; have := f5.size; simp only at hx; omega) f5.size o7
    · refine alV_mk ?_
      have f6 := Fr.push (fun _ => False) h3 (.cells #[Value.string ⟨#[]⟩, Value.bool false] T_api_Pattern (0, 0))
      have o6 : Own (h3.push (.cells #[Value.string ⟨#[]⟩, Value.bool false] T_api_Pattern (0, 0))) ⟨h3.size, 0, none⟩ [Value.string ⟨#[]⟩, Value.bool false] T_api_Pattern := ⟨rfl, rfl, get_push_self⟩
      generalize h3.push (.cells #[Value.string ⟨#[]⟩, Value.bool false] T_api_Pattern (0, 0)) = h6 at *
      refine ⟨ldL_mk ((Own.fr0 f6 o1'').cells.at rfl) rfl, ldS_mk ((Cells.fr0 f6 cc).at0 rfl) rfl, ldL_mk ((Own.fr0 f6 o1'').cells.at rfl) rfl, ldB_mk ((Cells.fr0 f6 cc2).at rfl) rfl, ?_⟩
      refine clone_c _ (by omega) fun h5 f5 => ⟨_, rfl, ?_⟩
      have f65 := f6.trans f5
      refine ⟨ldL_mk ((Own.fr0 f65 o1'').cells.at rfl) rfl, ldB_mk ((Cells.fr0 f65 cc2).at rfl) rfl, ?_⟩
      refine stN_own (Own.fr0 f5 o6) rfl rfl fun h7 f7 _ o7 => ?_
      exact end_ _ _ (f65.tr f7 fun x hx e => by subst e; simp only at hx; omega) (Nat.le_refl _) o7
theorem rPattern_c [Gh] (r : S_api_Rule) {h : Heap} (ok : r.ok h) (sh : ShortC r.Contents.xs) {Q : Value → Heap → Prop} (hk : ∀ h', Fr (fun _ => False) h h' → Q (patV r.Contents.xs) h') :
    CallT Try.prog fn_ref46_Pattern #[.agg r.vals.toArray] h Q := by
  apply ref46_Pattern_s
  unfold ref46_Pattern_v
  refine al_mk fun a h1 f1 ha o1 => al_mk fun b h2 f2 hb o2 => ?_
  have o1' := Own.fr0 f2 o1
  have f02 := f1.trans f2
  refine (ldI_mk (o1'.cells.at0 rfl) (ldI_mk (o1'.cells.at rfl) (ldL_mk (o1'.cells.at rfl) (ldL_mk (o1'.cells.at rfl) (ldL_mk (o1'.cells.at rfl) (ldL_mk (o1'.cells.at rfl) (ldB_mk (o1'.cells.at rfl) (ldI_mk (o1'.cells.at rfl) (ldI_mk (o1'.cells.at rfl) (ldI_mk (o1'.cells.at rfl) (ldS_mk (o1'.cells.at rfl) (ldI_mk (o1'.cells.at rfl) (ldI_mk (o1'.cells.at rfl) (ldL_mk (o1'.cells.at rfl) (ldL_mk (o1'.cells.at rfl) (ldL_mk (o1'.cells.at rfl) (ldL_mk (o1'.cells.at rfl) (ldI_mk (o1'.cells.at rfl) (ldI_mk (o1'.cells.at rfl) (ldI_mk (o1'.cells.at rfl) (ldI_mk (o1'.cells.at rfl) ?_)))))))))))))))))))))
  refine rChoose_c r (S_api_Rule.ok_fr _ _ _ f02 ok) sh fun h3 f3 => ⟨_, rfl, ?_⟩
  have o1'' := Own.fr0 f3 o1'
  have o2'' := Own.fr0 f3 o2
  have f03 := f02.trans f3
  have hlt := chooseL_lt r.Contents.xs
  have fresh : ∀ {h3 h'}, Fr (fun _ => False) h h3 → Fr (fun x => x = b.block) h3 h' → Fr (fun _ => False) h h' := fun f03 f => f03.tr f (fun x hx e => by subst e; have := f1.size; omega)
  unfold patV patL at hk
  refine ifD (fun hneg => ?_) (fun hpos => ?_)
  · rw [if_pos hneg] at hk
    refine stN_own o2'' rfl rfl fun h4 f4 _ o4 => ?_
    refine (ldS_mk (o4.cells.at0 rfl) (ldB_mk (o4.cells.at rfl) ?_))
    exact hk _ (fresh f03 f4)
  · rw [if_neg hpos] at hk
    simp only at hk
    obtain ⟨k, hk0⟩ : ∃ k : Nat, chooseL r.Contents.xs = k := ⟨(chooseL r.Contents.xs).toNat, by omega⟩
    rw [hk0] at hk ⊢
    rw [hk0] at hlt
    have hkl : k < r.Contents.xs.length := by omega
    have hpat := sh.pat _ (List.getElem_mem hkl)
    have hgd : r.Contents.xs.getD ((k : Int)).toNat noC = r.Contents.xs[k] := by
      rw [Int.toNat_natCast, List.getD_eq_getElem?_getD, List.getElem?_eq_getElem hkl]; rfl
    rw [hgd] at hk
    have oc := SlOk.fr0 S_api_Content.ok_fr f03 ok.k14
    refine ldL_mk (o1''.cells.at rfl) ?_
    refine idx_sl oc k rfl hkl fun ad cc okc => ?_
    rw [Int.toNat_natCast]
    refine (ldS_mk (cc.at0 rfl) (ldB_mk (cc.at rfl) (ldB_mk (cc.at rfl) (ldB_mk (cc.at rfl) (ldI_mk (cc.at rfl) (ldI_mk (cc.at rfl) (ldB_mk (cc.at rfl) ?_)))))))
    refine cp_mk rfl rfl fun c h4 f4 hc o4 => ?_
    refine ldB_mk (o4.cells.at rfl) ?_
    have f04 := f03.trans f4
    refine ifB (fun hn => ?_) (fun hn => ?_)
    · rw [hn] at hk
      refine ldS_mk (o4.cells.at0 rfl) ?_
      refine rSmall_c _ (by omega) fun h5 f5 => ⟨_, rfl, ?_⟩
      refine stN_own (Own.fr0 f5 (Own.fr0 f4 o2'')) rfl rfl fun h6 f6 _ o6 => ?_
      refine (ldS_mk (o6.cells.at0 rfl) (ldB_mk (o6.cells.at rfl) ?_))
      exact hk _ (fresh (f04.trans f5) f6)
    · rw [hn] at hk
      refine ldS_mk (o4.cells.at0 rfl) ?_
      refine stN_own (Own.fr0 f4 o2'') rfl rfl fun h6 f6 _ o6 => ?_
      refine (ldS_mk (o6.cells.at0 rfl) (ldB_mk (o6.cells.at rfl) ?_))
      exact hk _ (fresh f04 f6)
end Go.Proofs.Ytjelnknmjhceiaa
