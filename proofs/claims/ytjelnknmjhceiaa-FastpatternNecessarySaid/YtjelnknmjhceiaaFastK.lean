/-
  The examples of the chapter.
-/
import Derived.Test.YtjelnknmjhceiaaFastJ
namespace Go.Proofs.Ytjelnknmjhceiaa
set_option linter.unusedSimpArgs false
set_option linter.unusedVariables false
set_option maxRecDepth 20000
open Go
def ruleOf (kind : Int) (C : Sl Cn) : Ru := ⟨0, 0, nilS, nilS, nilS, nilS, false, 0, 0, 0, [], 0, kind, nilS, C, nilS, nilS, ⟨0, 0, 0, 0⟩⟩
theorem k0ok {h : Heap} : kOk .i64 h 0 := by unfold kOk; rfl
theorem k4ok {h : Heap} : kOk .i64 h 4 := by unfold kOk; rfl
theorem ruleOf_ok {h : Heap} {kind : Int} {C : Sl Cn} (hk : kOk .i64 h kind) (hC : SlOk 7 S_api_Content.vals S_api_Content.ok h C) : (ruleOf kind C).ok h :=
  ⟨k0ok, k0ok, nilS_ok, nilS_ok, nilS_ok, nilS_ok, trivial, k0ok, k0ok, k0ok, Nat.zero_le _, k0ok, hk, nilS_ok, hC, nilS_ok, nilS_ok, ⟨k0ok, k0ok, k0ok, k0ok⟩⟩
def conOf (s : List UInt8) (nc : Bool) : Cn := ⟨s, nc, false, false, 0, 0, false⟩
theorem conOf_ok {h : Heap} {s : List UInt8} {nc : Bool} (hs : s.length ≤ 200) : (conOf s nc).ok h := ⟨by show s.length ≤ _; omega, trivial, trivial, trivial, k0ok, k0ok, trivial⟩
def cA : List Cn := [conOf [97, 97] false, conOf [61] false, conOf [60] false]
def cB : List Cn := [conOf [71, 69, 84] true]
theorem shA : ShortC cA := ⟨by decide, by intro c hc; simp [cA] at hc; rcases hc with rfl | rfl | rfl <;> decide⟩
theorem shB : ShortC cB := ⟨by decide, by intro c hc; simp [cB] at hc; subst hc; decide⟩
theorem sh0 : ShortC [] := ⟨by decide, fun c hc => by cases hc⟩
theorem groups_ex (a b : Addr) : groupsL [ruleOf 4 ⟨some b, 1, cB⟩, ruleOf 4 ⟨some a, 3, cA⟩, ruleOf 4 ⟨some b, 1, cB⟩, ruleOf 4 nilS] = [⟨4, [], [([103, 101, 116], true), ([61], false)], [[0, 2], [1]], [3]⟩] := by kernel_rfl
theorem score1 : scoreL [97, 61] = 26 := by kernel_rfl
theorem score2 : scoreL [97, 97, 97, 97, 97, 97, 97, 97, 97, 97] = 1 := by kernel_rfl
theorem chooseA : chooseL cA = 1 := by kernel_rfl
theorem patB : patV cB = .tuple #[.agg #[.string (bs [103, 101, 116]), .bool true], .bool true] := by kernel_rfl
theorem patN : patV [] = .tuple #[.agg #[.string (bs []), .bool false], .bool false] := by kernel_rfl
theorem lives_c [Gh] {h : Heap} {Q : Value → Heap → Prop} (hk : ∀ h', Fr (fun _ => False) h h' → Q (.bool true) h') : CallT Try.prog fn_law46_lives #[] h Q := by
  apply law46_lives_s
  unfold law46_lives_v
  refine al_mk fun ta h1 f1 _ oa => ?_
  have oa : Own h1 ta (cA.flatMap S_api_Content.vals) T_api_Content := oa
  have okA : SlOk 7 S_api_Content.vals S_api_Content.ok h1 ⟨some ta, 3, cA⟩ := SlOk.of_own (sz := 7) (vals := S_api_Content.vals) (ok := S_api_Content.ok) (xs := cA) (fun _ => rfl) oa (by decide) (by intro c hc; simp [cA] at hc; rcases hc with rfl | rfl | rfl <;> exact conOf_ok (by decide))
  refine cp_mk rfl rfl fun t1 h3 f3 _ o1 => ?_
  have o1 : Own h3 t1 (ruleOf 4 ⟨some ta, 3, cA⟩).vals T_api_Rule := o1
  refine al_mk fun tb h4 f4 _ ob => ?_
  have ob : Own h4 tb (cB.flatMap S_api_Content.vals) T_api_Content := ob
  have okB : SlOk 7 S_api_Content.vals S_api_Content.ok h4 ⟨some tb, 1, cB⟩ := SlOk.of_own (sz := 7) (vals := S_api_Content.vals) (ok := S_api_Content.ok) (xs := cB) (fun _ => rfl) ob (by decide) (by intro c hc; simp [cB] at hc; subst hc; exact conOf_ok (by decide))
  refine cp_mk rfl rfl fun t2 h6 f6 _ o2 => ?_
  have o2 : Own h6 t2 (ruleOf 4 ⟨some tb, 1, cB⟩).vals T_api_Rule := o2
  have rA := ruleOf_ok k4ok (SlOk.fr0 S_api_Content.ok_fr ((f3.trans f4).trans f6) okA)
  have rB := ruleOf_ok k4ok (SlOk.fr0 S_api_Content.ok_fr f6 okB)
  have o1 := Own.fr0 (f4.trans f6) o1
  have f06 := ((f1.trans f3).trans f4).trans f6
  clear okA okB oa ob
  refine (ldI_mk (o2.cells.at0 rfl) (ldI_mk (o2.cells.at rfl) (ldL_mk (o2.cells.at rfl) (ldL_mk (o2.cells.at rfl) (ldL_mk (o2.cells.at rfl) (ldL_mk (o2.cells.at rfl) (ldB_mk (o2.cells.at rfl) (ldI_mk (o2.cells.at rfl) (ldI_mk (o2.cells.at rfl) (ldI_mk (o2.cells.at rfl) (ldS_mk (o2.cells.at rfl) (ldI_mk (o2.cells.at rfl) (ldI_mk (o2.cells.at rfl) (ldL_mk (o2.cells.at rfl) (ldL_mk (o2.cells.at rfl) (ldL_mk (o2.cells.at rfl) (ldL_mk (o2.cells.at rfl) (ldI_mk (o2.cells.at rfl) (ldI_mk (o2.cells.at rfl) (ldI_mk (o2.cells.at rfl) (ldI_mk (o2.cells.at rfl) ?_)))))))))))))))))))))
  refine Pattern_c (ruleOf 4 ⟨some tb, 1, cB⟩) rB shB fun h7 f7 => ?_
  refine ⟨_, _, _, patB, ?_⟩
  refine cp_mk rfl rfl fun t3 h9 f9 _ o3 => ?_
  refine Pattern_c (ruleOf 0 nilS) (ruleOf_ok k0ok nilS_ok) sh0 fun h10 f10 => ?_
  refine ⟨_, _, _, patN, ?_⟩
  refine cp_mk rfl rfl fun t5 h12 f12 _ o5 => ?_
  have f612 := ((f7.trans f9).trans f10).trans f12
  have o2 := Own.fr0 f612 o2
  have o1 := Own.fr0 f612 o1
  refine (ldI_mk (o2.cells.at0 rfl) (ldI_mk (o2.cells.at rfl) (ldL_mk (o2.cells.at rfl) (ldL_mk (o2.cells.at rfl) (ldL_mk (o2.cells.at rfl) (ldL_mk (o2.cells.at rfl) (ldB_mk (o2.cells.at rfl) (ldI_mk (o2.cells.at rfl) (ldI_mk (o2.cells.at rfl) (ldI_mk (o2.cells.at rfl) (ldS_mk (o2.cells.at rfl) (ldI_mk (o2.cells.at rfl) (ldI_mk (o2.cells.at rfl) (ldL_mk (o2.cells.at rfl) (ldL_mk (o2.cells.at rfl) (ldL_mk (o2.cells.at rfl) (ldL_mk (o2.cells.at rfl) (ldI_mk (o2.cells.at rfl) (ldI_mk (o2.cells.at rfl) (ldI_mk (o2.cells.at rfl) (ldI_mk (o2.cells.at rfl) ?_)))))))))))))))))))))
  refine (ldI_mk (o1.cells.at0 rfl) (ldI_mk (o1.cells.at rfl) (ldL_mk (o1.cells.at rfl) (ldL_mk (o1.cells.at rfl) (ldL_mk (o1.cells.at rfl) (ldL_mk (o1.cells.at rfl) (ldB_mk (o1.cells.at rfl) (ldI_mk (o1.cells.at rfl) (ldI_mk (o1.cells.at rfl) (ldI_mk (o1.cells.at rfl) (ldS_mk (o1.cells.at rfl) (ldI_mk (o1.cells.at rfl) (ldI_mk (o1.cells.at rfl) (ldL_mk (o1.cells.at rfl) (ldL_mk (o1.cells.at rfl) (ldL_mk (o1.cells.at rfl) (ldL_mk (o1.cells.at rfl) (ldI_mk (o1.cells.at rfl) (ldI_mk (o1.cells.at rfl) (ldI_mk (o1.cells.at rfl) (ldI_mk (o1.cells.at rfl) ?_)))))))))))))))))))))
  refine (ldI_mk (o2.cells.at0 rfl) (ldI_mk (o2.cells.at rfl) (ldL_mk (o2.cells.at rfl) (ldL_mk (o2.cells.at rfl) (ldL_mk (o2.cells.at rfl) (ldL_mk (o2.cells.at rfl) (ldB_mk (o2.cells.at rfl) (ldI_mk (o2.cells.at rfl) (ldI_mk (o2.cells.at rfl) (ldI_mk (o2.cells.at rfl) (ldS_mk (o2.cells.at rfl) (ldI_mk (o2.cells.at rfl) (ldI_mk (o2.cells.at rfl) (ldL_mk (o2.cells.at rfl) (ldL_mk (o2.cells.at rfl) (ldL_mk (o2.cells.at rfl) (ldL_mk (o2.cells.at rfl) (ldI_mk (o2.cells.at rfl) (ldI_mk (o2.cells.at rfl) (ldI_mk (o2.cells.at rfl) (ldI_mk (o2.cells.at rfl) ?_)))))))))))))))))))))
  refine al_mk fun tr h13 f13 _ or => ?_
  have or : Own h13 tr ([ruleOf 4 ⟨some tb, 1, cB⟩, ruleOf 4 ⟨some ta, 3, cA⟩, ruleOf 4 ⟨some tb, 1, cB⟩, ruleOf 4 nilS].flatMap S_api_Rule.vals) T_api_Rule := or
  have f613 := f612.trans f13
  have rA13 := S_api_Rule.ok_fr _ _ _ f613 rA
  have rB13 := S_api_Rule.ok_fr _ _ _ f613 rB
  have okR : SlOk 21 S_api_Rule.vals S_api_Rule.ok h13 ⟨some tr, 4, [ruleOf 4 ⟨some tb, 1, cB⟩, ruleOf 4 ⟨some ta, 3, cA⟩, ruleOf 4 ⟨some tb, 1, cB⟩, ruleOf 4 nilS]⟩ := SlOk.of_own (sz := 21) (vals := S_api_Rule.vals) (ok := S_api_Rule.ok) (xs := [ruleOf 4 ⟨some tb, 1, cB⟩, ruleOf 4 ⟨some ta, 3, cA⟩, ruleOf 4 ⟨some tb, 1, cB⟩, ruleOf 4 nilS]) (fun _ => rfl) or (show 4 ≤ 9223372036854775807 by decide) (by
    intro c hc
    simp only [List.mem_cons, List.not_mem_nil, or_false] at hc
    rcases hc with rfl | rfl | rfl | rfl
    · exact rB13
    · exact rA13
    · exact rB13
    · exact ruleOf_ok k4ok nilS_ok)
  refine Groups_c ⟨some tr, 4, [ruleOf 4 ⟨some tb, 1, cB⟩, ruleOf 4 ⟨some ta, 3, cA⟩, ruleOf 4 ⟨some tb, 1, cB⟩, ruleOf 4 nilS]⟩ okR (show 4 ≤ 40 by decide) (by
    intro c hc
    simp only [List.mem_cons, List.not_mem_nil, or_false] at hc
    rcases hc with rfl | rfl | rfl | rfl
    · exact ⟨shB, Nat.zero_le _⟩
    · exact ⟨shA, Nat.zero_le _⟩
    · exact ⟨shB, Nat.zero_le _⟩
    · exact ⟨sh0, Nat.zero_le _⟩) fun g h14 f14 okg hg => ⟨_, _, _, rfl, ?_⟩
  rw [groups_ex] at hg
  obtain ⟨x, hx⟩ : ∃ x, g.xs = [x] := by
    cases hgx : g.xs with
    | nil => rw [hgx] at hg; simp at hg
    | cons x l => cases l with
      | nil => exact ⟨x, rfl⟩
      | cons y l => rw [hgx] at hg; simp at hg
  rw [hx] at hg
  simp only [List.map_cons, List.map_nil, List.cons.injEq, and_true] at hg
  unfold grpOf at hg
  simp only [Grp.mk.injEq] at hg
  obtain ⟨_, _, g2, g3, g4⟩ := hg
  have hlen : g.xs.length = 1 := by rw [hx]; rfl
  have l2 : x.Patterns.xs.length = 2 := by have := congrArg List.length g2; simpa using this
  have l3 : x.Rules.xs.length = 2 := by have := congrArg List.length g3; simpa using this
  have l4 : x.Always.xs.length = 1 := by rw [g4]; rfl
  refine Score_c [97, 61] (by decide) fun h15 f15 => ⟨_, rfl, ?_⟩
  rw [score1, if_pos (by decide)]
  refine Score_c [97, 97, 97, 97, 97, 97, 97, 97, 97, 97] (by decide) fun h16 f16 => ⟨_, rfl, ?_⟩
  rw [score2, if_pos (by decide)]
  have f1316 := (f14.trans f15).trans f16
  have o1 := Own.fr0 (f13.trans f1316) o1
  refine (ldI_mk (o1.cells.at0 rfl) (ldI_mk (o1.cells.at rfl) (ldL_mk (o1.cells.at rfl) (ldL_mk (o1.cells.at rfl) (ldL_mk (o1.cells.at rfl) (ldL_mk (o1.cells.at rfl) (ldB_mk (o1.cells.at rfl) (ldI_mk (o1.cells.at rfl) (ldI_mk (o1.cells.at rfl) (ldI_mk (o1.cells.at rfl) (ldS_mk (o1.cells.at rfl) (ldI_mk (o1.cells.at rfl) (ldI_mk (o1.cells.at rfl) (ldL_mk (o1.cells.at rfl) (ldL_mk (o1.cells.at rfl) (ldL_mk (o1.cells.at rfl) (ldL_mk (o1.cells.at rfl) (ldI_mk (o1.cells.at rfl) (ldI_mk (o1.cells.at rfl) (ldI_mk (o1.cells.at rfl) (ldI_mk (o1.cells.at rfl) ?_)))))))))))))))))))))
  refine Choose_c (ruleOf 4 ⟨some ta, 3, cA⟩) (S_api_Rule.ok_fr _ _ _ (f613.trans f1316) rA) shA fun h17 f17 => ⟨_, rfl, ?_⟩
  show if (chooseL cA == 1) = true then _ else _
  rw [chooseA, if_pos (by decide)]
  have o3 := Own.fr0 ((((f10.trans f12).trans f13).trans f1316).trans f17) o3
  refine (ldS_mk (o3.cells.at0 rfl) (ldB_mk (o3.cells.at rfl) ?_))
  rw [if_pos (by rfl), if_pos rfl, if_pos (by rfl)]
  have okg17 : GrpsOk h17 g := SlOk.fr0 S_api_Group.ok_fr ((f15.trans f16).trans f17) okg
  rw [hlen, if_pos (by decide)]
  have at0 : ∃ ad, g.p = some ad ∧ Cells h17 (ad.add (0 * 5)) x.vals ∧ x.ok h17 := by
    obtain ⟨ad, h1, h2, h3⟩ := okg17.at_ 0 (by omega)
    have e : g.xs[0] = x := by simp [hx]
    rw [e] at h2 h3
    exact ⟨ad, h1, h2, h3⟩
  obtain ⟨ad, egp, cx, okx⟩ := at0
  rw [egp]
  refine idxA_mk 0 rfl (by decide) (nn_mk (ldL_mk (cx.at rfl) ?_))
  rw [l2, if_pos (by decide)]
  refine idxA_mk 0 rfl (by decide) (nn_mk (ldL_mk (cx.at rfl) ?_))
  rw [l3, if_pos (by decide)]
  refine idxA_mk 0 rfl (by decide) (nn_mk (ldL_mk (cx.at rfl) ?_))
  obtain ⟨rd, er, cr, okr⟩ := okx.k3.at_ 0 (by omega)
  have er0 : x.Rules.xs[0].xs = [0, 2] := by
    have := congrArg (fun l => l[0]?) g3
    simp only [List.getElem?_map, List.getElem?_eq_getElem (show 0 < x.Rules.xs.length by omega), Option.map_some, List.getElem?_cons_zero, Option.some.injEq] at this
    exact this
  rw [er]
  refine idxA_mk 0 rfl (by omega) (nn_mk (ldL_mk (cr.at0 rfl) ?_))
  rw [er0, if_pos (by decide)]
  refine idxA_mk 0 rfl (by decide) (nn_mk (ldL_mk (cx.at rfl) ?_))
  rw [l4, if_pos (by decide)]
  refine idxA_mk 0 rfl (by decide) (nn_mk (ldL_mk (cx.at rfl) ?_))
  obtain ⟨wd, ew, cw, _⟩ := okx.k4.at_ 0 (by omega)
  have ew0 : x.Always.xs[0] = 3 := by simp [g4]
  rw [ew]
  refine idxA_mk 0 rfl (by omega) (nn_mk (ldI_mk (cw.at0 rfl) ?_))
  rw [ew0]
  exact hk _ ((((f06.trans f613).trans f1316).trans f17))
end Go.Proofs.Ytjelnknmjhceiaa
