/-
  The reference's groups, whole; two lists of groups that are the same; the law of the groups.
-/
import Derived.Test.YtjelnknmjhceiaaFastN
import Derived.Test.YtjelnknmjhceiaaFastL
namespace Go.Proofs.Ytjelnknmjhceiaa
set_option linter.unusedSimpArgs false
set_option linter.unusedVariables false
set_option maxRecDepth 20000
open Go
section
variable {h : Heap} {gs : List Grp} {tr : Nat → Sl Int} {sl : Ix → Option Addr} {cap : Ix → Nat} {cs : Ix → List Value}
theorem rb2_c [Gh] {N : Nat} (G : GRel h gs tr sl cap cs) {i : Nat} (hi : i < gs.length) {m : Nat} (sm : ∀ g ∈ gs, g.pats.length ≤ m ∧ g.rules.length = g.pats.length ∧ g.always.length ≤ m ∧ ∀ l ∈ g.rules, l.length ≤ m) (hm : m ≤ 2 ^ 20) (s : Sl Ru) (oks : SlOk 21 S_api_Rule.vals S_api_Rule.ok h s) {k : Nat} (hks : k < s.xs.length)
    (sh : ShortC s.xs[k].Contents.xs) {Q : QT} {Kn : Option Addr × Nat × Nat × Int → Heap → Prop}
    (hk : ∀ h' sl' cap' cs', GRel h' (gs.modify i (addG k s.xs[k])) tr sl' cap' cs' → Turned N h h' sl sl' → sl' xO = sl xO → cap' xO = cap xO → Kn (sl xO, gs.length, cap xO, IntKind.wrap .i64 ((k : Int) + 1)) h') :
    ref46_Groups_b2 s.p s.xs.length s.cap (sl xO) gs.length (cap xO) k i Q Kn h := by
  unfold ref46_Groups_b2
  obtain ⟨ad, eo, hs, cc⟩ := G.out hi
  refine idxA_mk i rfl hi ?_
  generalize hoa : sl xO = oa at hk ⊢
  rw [hoa] at eo
  subst eo
  rw [Int.toNat_natCast]
  refine nn_mk ?_
  refine (ldI_mk (cc.at0 rfl) (ldL_mk (cc.at rfl) (ldL_mk (cc.at rfl) (ldL_mk (cc.at rfl) (ldL_mk (cc.at rfl) ?_)))))
  refine idx_sl oks k rfl hks fun rd rc okr => ?_
  rw [Int.toNat_natCast]
  refine (ldI_mk (rc.at0 rfl) (ldI_mk (rc.at rfl) (ldL_mk (rc.at rfl) (ldL_mk (rc.at rfl) (ldL_mk (rc.at rfl) (ldL_mk (rc.at rfl) (ldB_mk (rc.at rfl) (ldI_mk (rc.at rfl) (ldI_mk (rc.at rfl) (ldI_mk (rc.at rfl) (ldS_mk (rc.at rfl) (ldI_mk (rc.at rfl) (ldI_mk (rc.at rfl) (ldL_mk (rc.at rfl) (ldL_mk (rc.at rfl) (ldL_mk (rc.at rfl) (ldL_mk (rc.at rfl) (ldI_mk (rc.at rfl) (ldI_mk (rc.at rfl) (ldI_mk (rc.at rfl) (ldI_mk (rc.at rfl) ?_)))))))))))))))))))))
  refine radd_c (N := N) G hi (sm _ (List.getElem_mem hi)) hm k s.xs[k] okr sh fun h1 row ad1 => ?_
  obtain ⟨sl1, cap1, cs1, F1, t1, e1, e2, e3, ⟨k0, a1, n1, c1, a2, n2, c2, a3, n3, c3, a4, n4, c4, hrow⟩, hg⟩ := ad1
  subst hrow
  refine ⟨_, _, _, _, _, _, _, _, _, _, _, _, _, rfl, idxA_mk i rfl hi (nn_mk ?_)⟩
  have hx1 : sl1 xO = some ad := e1.trans hoa
  refine fam_stN xO hx1 (i * 5) _ 0 cs1 h1 F1 (by rw [e3, G.olen]; simp; omega) rfl fun h2 F2 f2 => ?_
  rw [Nat.add_zero, e3] at F2
  have t2 : Turned N h h2 sl sl1 := t1.trans (Turned.of_set f2)
  exact hk h2 sl1 cap1 _ (hg h2 F2 t2) t2 (by rw [e1, hoa]) e2
end
theorem rGroups_c [Gh] (s : Sl Ru) {h : Heap} (ok : SlOk 21 S_api_Rule.vals S_api_Rule.ok h s) (hl : s.xs.length ≤ 40) (sh : ∀ r ∈ s.xs, ShortR r) {Q : Value → Heap → Prop}
    (hk : ∀ (g : Sl S_api_Group) h', Fr (fun _ => False) h h' → GrpsOk h' g → g.xs.map grpOf = groupsL s.xs → Q (.slice g.p g.xs.length g.cap) h') :
    CallT Try.prog fn_ref46_Groups #[.slice s.p s.xs.length s.cap] h Q := by
  apply ref46_Groups_s
  unfold ref46_Groups_v
  refine LoopV.mk (fun st h' => ∃ (k : Nat) (gs : List Grp) (tr : Nat → Sl Int) (sl : Ix → Option Addr) (cap : Ix → Nat) (cs : Ix → List Value), st = (sl xO, gs.length, cap xO, (k : Int)) ∧ k ≤ s.xs.length ∧ Fr (fun _ => False) h h' ∧ GRel h' gs tr sl cap cs ∧ (∀ x b, InA (sl x) b → h.size ≤ b) ∧ Small k gs ∧ GoodG k gs ∧ groupsGo (s.xs.drop k) k gs = groupsL s.xs)
    (fun st _ => s.xs.length - st.2.2.2.toNat) ⟨0, [], _, _, _, _, rfl, by omega, Fr.refl _ _, GRel.nil h, fun x b hb => (inA_none hb).elim, ⟨Nat.le_refl _, fun g hg => by cases hg⟩, (fun g hg => by cases hg), rfl⟩ ?_
  rintro st h1 ⟨k, gs, tr, sl, cap, cs, rfl, hkl, f1, G, nw, sm, gd, hg⟩
  unfold ref46_Groups_l1
  refine ifD (fun hlt => ?_) (fun hge => ?_)
  · simp only at hlt
    have hks : k < s.xs.length := by omega
    have ok1 := SlOk.fr0 S_api_Rule.ok_fr f1 ok
    have shr := sh _ (List.getElem_mem hks)
    rw [groups_drop _ _ hks] at hg
    refine idx_sl ok1 k rfl hks fun ad cc okr => ?_
    simp only [Int.toNat_natCast]
    refine (ldI_mk (cc.at0 rfl) (ldI_mk (cc.at rfl) (ldL_mk (cc.at rfl) (ldL_mk (cc.at rfl) (ldL_mk (cc.at rfl) (ldL_mk (cc.at rfl) (ldB_mk (cc.at rfl) (ldI_mk (cc.at rfl) (ldI_mk (cc.at rfl) (ldI_mk (cc.at rfl) (ldS_mk (cc.at rfl) (ldI_mk (cc.at rfl) (ldI_mk (cc.at rfl) (ldL_mk (cc.at rfl) (ldL_mk (cc.at rfl) (ldL_mk (cc.at rfl) (ldL_mk (cc.at rfl) (ldI_mk (cc.at rfl) (ldI_mk (cc.at rfl) (ldI_mk (cc.at rfl) (ldI_mk (cc.at rfl) ?_)))))))))))))))))))))
    have hsl := sm.len
    refine rplace_c G s.xs[k] okr (by have := shr.t; omega) (by omega) fun h3 f3 => ⟨_, rfl, ?_⟩
    have G3 := G.fr f3
    have ok3 := SlOk.fr0 S_api_Rule.ok_fr f3 ok1
    have back : ∀ (h' : Heap) (gs' : List Grp) (tr' : Nat → Sl Int) (sl' : Ix → Option Addr) (cap' : Ix → Nat) (cs' : Ix → List Value), GRel h' gs' tr' sl' cap' cs' → gs' = addR k s.xs[k] gs → Turned h.size h1 h' sl sl' →
        (∃ (k' : Nat) (gs : List Grp) (tr : Nat → Sl Int) (sl : Ix → Option Addr) (cap : Ix → Nat) (cs : Ix → List Value), (sl' xO, gs'.length, cap' xO, IntKind.wrap .i64 ((k : Int) + 1)) = (sl xO, gs.length, cap xO, (k' : Int)) ∧ k' ≤ s.xs.length ∧ Fr (fun _ => False) h h' ∧ GRel h' gs tr sl cap cs ∧ (∀ x b, InA (sl x) b → h.size ≤ b) ∧ Small k' gs ∧ GoodG k' gs ∧ groupsGo (s.xs.drop k') k' gs = groupsL s.xs) ∧ s.xs.length - (IntKind.wrap .i64 ((k : Int) + 1)).toNat < s.xs.length - ((k : Int)).toNat := by
      intro h' gs' tr' sl' cap' cs' G' e' t'
      subst e'
      rw [wr (by omega) (by omega)]
      exact ⟨⟨k + 1, _, tr', sl', cap', cs', rfl, by omega, fr_turn f1 t' nw, G', nw_turn t' nw f1.size, sm.add _, gd.add _ shr.c, hg⟩, by omega⟩
    have hfl : gs.findIdx (fitsG s.xs[k]) ≤ gs.length := List.findIdx_le_length
    by_cases hq' : gs.findIdx (fitsG s.xs[k]) = gs.length
    · rw [if_pos hq']
      refine ifD (fun _ => ?_) (fun hx => absurd (show (-1 : Int) < 0 by omega) hx)
      refine idx_sl ok3 k rfl hks fun ad2 c2 okr2 => ?_
      refine ldI_mk (c2.at rfl) (idx_sl ok3 k rfl hks fun ad3 c3 okr3 => ldL_mk (c3.at rfl) ?_)
      refine al_mk fun b h5 f5 hb5 o5b => ?_
      have G5 := G3.fr f5
      have es : (Try.t49).size = 5 := by kernel_rfl
      have eb : (Try.t49).bytes = 104 := by kernel_rfl
      refine Fam.app el_grp Try.underlying44 (by intro k e; cases e) G5.fam xO (by rw [es]; rfl) (by rw [G.olen]; rfl) G.ocap (Src.one o5b (by rw [es]; rfl) 1) (by intro v hv; simp at hv; rcases hv with rfl | rfl | rfl | rfl | rfl <;> rfl) (by rw [eb]; omega) fun a' c' h6 F6 hc6 f6 hn6 => ⟨_, _, _, rfl, ?_⟩
      have f15 := f3.trans f5
      have t56 : Turned h.size h5 h6 sl (put sl xO a') := Turned.of_app f6 hn6
      have t6 : Turned h.size h1 h6 sl (put sl xO a') := (Turned.of_fr f15).trans t56
      have okT : IntsOk h s.xs[k].Transforms := by obtain ⟨_, _, _, o⟩ := ok.at_ k hks; exact o.k13
      have fh6 := fr_turn f1 t6 nw
      have hTok : IntsOk h6 s.xs[k].Transforms := SlOk.fr0 fr_c fh6 okT
      have nw6 := nw_turn t6 nw f1.size
      have hTapart : s.xs[k].Transforms.xs ≠ [] → ∀ x b, InA s.xs[k].Transforms.p b → ¬ InA (put sl xO a' x) b := fun hx x b hb hi => by
        have h1' := okT.lt hx hb; have h2' := nw6 x b hi; omega
      have G6 := G5.push (N := h.size) s.xs[k].Kind okr.k12 s.xs[k].Transforms hc6 F6 t56 hTok hTapart
      have hlen : (gs ++ [(⟨s.xs[k].Kind, s.xs[k].Transforms.xs, [], [], []⟩ : Grp)]).length = gs.length + 1 := by simp
      rw [← hlen]
      have e1 : put sl xO a' xO = a' := put_self _ _ _
      have e2 : put cap xO c' xO = c' := put_self _ _ _
      rw [← e1, ← e2]
      refine rb2_c (N := h.size) (m := k) G6 (i := gs.length) (by simp) (fun g hgm => ?_) (by omega) s (SlOk.fr0 S_api_Rule.ok_fr fh6 ok) hks shr.c fun h7 sl7 cap7 cs7 G7 t7 es7 ec7 => ?_
      · rcases List.mem_append.1 hgm with hgm | hgm
        · exact sm.g g hgm
        · rw [List.mem_singleton.1 hgm]; simp
      · rw [← es7, ← ec7]
        have eL : gs.length + 1 = ((gs ++ [(⟨s.xs[k].Kind, s.xs[k].Transforms.xs, [], [], []⟩ : Grp)]).modify gs.length (addG k s.xs[k])).length := by simp
        rw [hlen, eL]
        refine back h7 _ _ sl7 cap7 cs7 G7 ?_ (t6.trans t7)
        unfold addR seatG
        rw [if_pos hq', hq']
    · rw [if_neg hq']
      have hlt : gs.findIdx (fitsG s.xs[k]) < gs.length := by omega
      refine ifD (fun hx => by omega) (fun _ => ?_)
      refine rb2_c (N := h.size) (m := k) G3 hlt sm.g (by omega) s ok3 hks shr.c fun h7 sl7 cap7 cs7 G7 t7 es7 ec7 => ?_
      rw [← es7, ← ec7]
      have eL : gs.length = (gs.modify (gs.findIdx (fitsG s.xs[k])) (addG k s.xs[k])).length := by simp
      conv => lhs; rw [eL]
      refine back h7 _ _ sl7 cap7 cs7 G7 ?_ ((Turned.of_fr f3).trans t7)
      unfold addR seatG
      rw [if_neg hq']
  · simp only at hge
    have e : k = s.xs.length := by omega
    rw [e, List.drop_length] at hg
    obtain ⟨g, hp, hlen, hc, hgok, hmap⟩ := G.read sm gd (by omega)
    have := hk g h1 f1 hgok (by rw [hmap]; exact hg)
    rw [hp, hlen, hc] at this; exact this
end Go.Proofs.Ytjelnknmjhceiaa
