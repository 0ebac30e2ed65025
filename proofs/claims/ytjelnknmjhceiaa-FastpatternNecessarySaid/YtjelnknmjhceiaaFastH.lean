/-
  The program's groups: a place in a list, one more rule.
-/
import Derived.Test.YtjelnknmjhceiaaFastG
namespace Go.Proofs.Ytjelnknmjhceiaa
set_option linter.unusedSimpArgs false
set_option linter.unusedVariables false
set_option maxRecDepth 20000
open Go
theorem flat2 {α : Type} (A B : α → Value) : ∀ (l : List α) (n : Nat) (hn : n < l.length), (l.flatMap fun p => [A p, B p])[n * 2]? = some (A l[n]) ∧ (l.flatMap fun p => [A p, B p])[n * 2 + 1]? = some (B l[n])
  | [], n, hn => absurd hn (Nat.not_lt_zero _)
  | x :: l, 0, hn => by simp
  | x :: l, n + 1, hn => by
    have := flat2 A B l n (by simpa using hn)
    have e1 : (n + 1) * 2 = n * 2 + 2 := by omega
    rw [e1]
    simpa using this
theorem findIdx_at {α : Type} {p : α → Bool} {l : List α} {k : Nat} (hk : k < l.length) (h1 : p l[k] = true) (h2 : ∀ j (hj : j < l.length), j < k → p l[j] = false) : l.findIdx p = k :=
  (List.findIdx_eq hk).2 ⟨h1, fun j hj => h2 j (by omega) hj⟩
theorem findIdx_no {α : Type} {p : α → Bool} {l : List α} (h : ∀ j (hj : j < l.length), p l[j] = false) : l.findIdx p = l.length := by
  rw [List.findIdx_eq_length]
  intro x hx
  obtain ⟨j, hj, rfl⟩ := List.mem_iff_getElem.1 hx
  exact h j hj
theorem fits_c [Gh] (r : Ru) (kind : Int) (T : Sl Int) (a2 a3 a4 : Option Addr) (n2 n3 n4 c2 c3 c4 : Nat) {t5 : Addr} {h : Heap} (o5 : Own h t5 r.vals T_api_Rule) (ok : r.ok h) (hT : IntsOk h T) (ht : r.Transforms.xs.length ≤ 2 ^ 20) {K : Value → Heap → Prop}
    (hk : ∀ h', Fr (fun _ => False) h h' → K (.bool (kind == r.Kind && T.xs == r.Transforms.xs)) h') :
    CallV Try.prog (.func (.func fn_fastpattern_Groups_1) #[] #[.pointer (some t5)]) #[.agg #[.int .i64 kind, .slice T.p T.xs.length T.cap, .slice a2 n2 c2, .slice a3 n3 c3, .slice a4 n4 c4]] h K := by
  rw [callV_func]
  simp only [List.append_toArray, List.nil_append, List.cons_append]
  apply fastpattern_Groups_1_s
  unfold fastpattern_Groups_1_v
  refine al_mk fun a h1 f1 ha o1 => ?_
  refine ldI_mk (o1.cells.at0 rfl) (ldI_mk ((Own.fr0 f1 o5).cells.at rfl) ?_)
  refine ifE (fun he => ?_) (fun hne => ?_)
  · refine ldL_mk (o1.cells.at rfl) (ldL_mk ((Own.fr0 f1 o5).cells.at rfl) ?_)
    refine equal_c T r.Transforms (SlOk.fr0 fr_c f1 hT) (SlOk.fr0 fr_c f1 ok.k13) (by omega) ⟨_, rfl, ?_⟩
    have := hk _ f1
    have e : (kind == r.Kind) = true := by simpa using he
    rw [e, Bool.true_and] at this; exact this
  · have := hk _ f1
    have e : (kind == r.Kind) = false := by simpa using hne
    rw [e, Bool.false_and] at this; exact this
section
variable {h : Heap} {gs : List Grp} {tr : Nat → Sl Int} {sl : Ix → Option Addr} {cap : Ix → Nat} {cs : Ix → List Value}
theorem placeG_c [Gh] (G : GRel h gs tr sl cap cs) (r : Ru) {t5 : Addr} (o5 : Own h t5 r.vals T_api_Rule) (ok : r.ok h) (ht : r.Transforms.xs.length ≤ 2 ^ 20) (hl : gs.length ≤ 2 ^ 20) {Q : Value → Heap → Prop}
    (hk : ∀ h', Fr (fun _ => False) h h' → Q (.int .i64 (gs.findIdx (fitsG r) : Nat)) h') :
    CallT Try.prog fn_fastpattern_place_api_Group #[.slice (sl xO) gs.length (cap xO), .func (.func fn_fastpattern_Groups_1) #[] #[.pointer (some t5)]] h Q := by
  apply fastpattern_place_api_Group_s
  unfold fastpattern_place_api_Group_v
  refine LoopV.mk (fun i h' => ∃ k : Nat, i = k ∧ k ≤ gs.length ∧ Fr (fun _ => False) h h' ∧ ∀ j (hj : j < gs.length), j < k → fitsG r gs[j] = false) (fun i _ => gs.length - i.toNat) ⟨0, rfl, by omega, Fr.refl _ _, fun j _ hj => by omega⟩ ?_
  rintro i h1 ⟨k, rfl, hkl, f1, hpre⟩
  unfold fastpattern_place_api_Group_l1
  refine ifD (fun hlt => ?_) (fun hge => ?_)
  · have hks : k < gs.length := by omega
    have G1 := G.fr f1
    obtain ⟨ad, eo, hs, cc⟩ := G1.out hks
    refine idxA_mk k rfl hks ?_
    rw [eo, Int.toNat_natCast]
    refine nn_mk ?_
    refine (ldI_mk (cc.at0 rfl) (ldL_mk (cc.at rfl) (ldL_mk (cc.at rfl) (ldL_mk (cc.at rfl) (ldL_mk (cc.at rfl) ?_)))))
    refine cp_mk rfl rfl fun t6 h2 f2 _ o6 => ?_
    refine (ldI_mk (o6.cells.at0 rfl) (ldL_mk (o6.cells.at rfl) (ldL_mk (o6.cells.at rfl) (ldL_mk (o6.cells.at rfl) (ldL_mk (o6.cells.at rfl) ?_)))))
    have f12 := f1.trans f2
    refine fits_c r _ (tr k) _ _ _ _ _ _ _ _ _ (Own.fr0 f12 o5) (S_api_Rule.ok_fr _ _ _ f12 ok) (SlOk.fr0 fr_c f12 (G.trok k hks).1) ht fun h3 f3 => ⟨_, rfl, ?_⟩
    have ef : (gs[k].kind == r.Kind && (tr k).xs == r.Transforms.xs) = fitsG r gs[k] := by rw [(G.row k hks).trx]; rfl
    rw [ef]
    refine ifB (fun hf => ?_) (fun hf => ?_)
    · have := hk _ (f12.trans f3)
      rw [findIdx_at hks hf hpre] at this; exact this
    · rw [wr (by omega) (by omega)]
      refine ⟨⟨k + 1, by omega, by omega, f12.trans f3, fun j hj hjk => ?_⟩, by omega⟩
      by_cases e : j = k
      · subst e; exact hf
      · exact hpre j hj (by omega)
  · have e : k = gs.length := by omega
    unfold fastpattern_place_api_Group_b2
    have := hk _ f1
    rw [findIdx_no fun j hj => hpre j hj (by omega)] at this; exact this
theorem fitsP_c [Gh] (p q : List UInt8 × Bool) {t8 : Addr} {h : Heap} {T : TypeId} (o8 : Own h t8 [.string (bs p.1), .bool p.2] T) {K : Value → Heap → Prop} (hk : ∀ h', Fr (fun _ => False) h h' → K (.bool (q == p)) h') :
    CallV Try.prog (.func (.func fn_fastpattern_Groups_2) #[] #[.pointer (some t8)]) #[.agg #[.string (bs q.1), .bool q.2]] h K := by
  rw [callV_func]
  simp only [List.append_toArray, List.nil_append, List.cons_append]
  apply fastpattern_Groups_2_s
  unfold fastpattern_Groups_2_v
  refine al_mk fun a h1 f1 ha o1 => ?_
  refine ldS_mk (o1.cells.at0 rfl) (ldB_mk (o1.cells.at rfl) (ldS_mk ((Own.fr0 f1 o8).cells.at0 rfl) (ldB_mk ((Own.fr0 f1 o8).cells.at rfl) ?_)))
  have := hk _ f1
  have e : (q == p) = ((bs q.1 == bs p.1) && ((q.2 == p.2) && true)) := by rw [bs_beq, Bool.and_true]; rfl
  rw [e] at this; exact this
theorem placeP_c [Gh] (G : GRel h gs tr sl cap cs) {i : Nat} (hi : i < gs.length) (p : List UInt8 × Bool) {t8 : Addr} {T : TypeId} (o8 : Own h t8 [.string (bs p.1), .bool p.2] T) (hl : gs[i].pats.length ≤ 2 ^ 20) {Q : Value → Heap → Prop}
    (hk : ∀ h', Fr (fun _ => False) h h' → Q (.int .i64 (gs[i].pats.findIdx (· == p) : Nat)) h') :
    CallT Try.prog fn_fastpattern_place_api_Pattern #[.slice (sl (xP i)) gs[i].pats.length (cap (xP i)), .func (.func fn_fastpattern_Groups_2) #[] #[.pointer (some t8)]] h Q := by
  apply fastpattern_place_api_Pattern_s
  unfold fastpattern_place_api_Pattern_v
  refine LoopV.mk (fun j h' => ∃ k : Nat, j = k ∧ k ≤ gs[i].pats.length ∧ Fr (fun _ => False) h h' ∧ ∀ j (hj : j < gs[i].pats.length), j < k → (gs[i].pats[j] == p) = false) (fun j _ => gs[i].pats.length - j.toNat) ⟨0, rfl, by omega, Fr.refl _ _, fun j _ hj => by omega⟩ ?_
  rintro j h1 ⟨k, rfl, hkl, f1, hpre⟩
  unfold fastpattern_place_api_Pattern_l1
  refine ifD (fun hlt => ?_) (fun hge => ?_)
  · have hks : k < gs[i].pats.length := by omega
    have G1 := G.fr f1
    have hpl := (G.row i hi).pl
    have hget := flat2 (fun p : List UInt8 × Bool => Value.string (bs p.1)) (fun p => Value.bool p.2) gs[i].pats k hks
    rw [← hpl] at hget
    obtain ⟨ad, eo, cc⟩ := G1.fam.some_of (x := xP i) (by intro e; rw [List.length_eq_zero_iff.1 e] at hget; simp at hget)
    have hs : ad.spot = none := by have := G1.fam.own (xP i); rw [eo] at this; exact this.2.1
    refine idxA_mk k rfl hks ?_
    rw [eo, Int.toNat_natCast]
    refine nn_mk ?_
    refine ldS_mk (cc.at hget.1) (ldB_mk (by rw [add_add0 hs]; exact cc.at hget.2) ?_)
    refine cp_mk rfl rfl fun t6 h2 f2 _ o6 => ?_
    refine (ldS_mk (o6.cells.at0 rfl) (ldB_mk (o6.cells.at rfl) ?_))
    have f12 := f1.trans f2
    refine fitsP_c p gs[i].pats[k] (Own.fr0 f12 o8) fun h3 f3 => ⟨_, rfl, ?_⟩
    refine ifB (fun hf => ?_) (fun hf => ?_)
    · have := hk _ (f12.trans f3)
      rw [findIdx_at hks hf hpre] at this; exact this
    · rw [wr (by omega) (by omega)]
      refine ⟨⟨k + 1, by omega, by omega, f12.trans f3, fun j hj hjk => ?_⟩, by omega⟩
      by_cases e : j = k
      · subst e; exact hf
      · exact hpre j hj (by omega)
  · have e : k = gs[i].pats.length := by omega
    unfold fastpattern_place_api_Pattern_b2
    have := hk _ f1
    rw [findIdx_no fun j hj => hpre j hj (by omega)] at this; exact this
theorem notIn {x y : Ix} (F : Fam szG h sl cap cs) {ad : Addr} (hx : sl x = some ad) (hn : x ≠ y) : ¬ InA (sl y) ad.block := fun hb => hn (F.apart _ _ _ ⟨ad, hx, rfl⟩ hb)
theorem b3_c {N : Nat} (G : GRel h gs tr sl cap cs) {i : Nat} (hi : i < gs.length) {n : Nat} (hn : n < gs[i].rules.length) (hb : gs[i].rules[n].length ≤ 2 ^ 20) (k : Nat) {oa : Option Addr} {on oc : Nat} {ad : Addr} (hoa : sl xO = some ad)
    {ta : Option Addr} {tn tc : Nat} {tl t13 : Int} {Q : QT} {Kn : Option Addr × Nat × Nat × Int → Heap → Prop}
    (hk : ∀ h' sl' cap' cs', GRel h' (gs.modify i fun g => { g with rules := g.rules.modify n (· ++ [(k : Int)]) }) tr sl' cap' cs' → Turned N h h' sl sl' → sl' xO = sl xO → cap' xO = cap xO → Kn (oa, on, oc, IntKind.wrap .i64 (t13 + 1)) h') :
    fastpattern_Groups_b3 oa on oc k (ad.add (i * 5)) n ta tn tc tl t13 Q Kn h := by
  unfold fastpattern_Groups_b3
  obtain ⟨ad', eo, hs, cc⟩ := G.out hi
  rw [hoa] at eo; cases eo
  have r := G.row i hi
  refine ldL_mk (cc.at rfl) (ldL_mk (cc.at rfl) ?_)
  obtain ⟨rd, er, rc⟩ := G.fam.some_of (x := xR i) (by rw [r.rl]; omega)
  refine idxA_mk n rfl hn ?_
  rw [er, Int.toNat_natCast]
  refine nn_mk (ldL_mk (by rw [Nat.mul_one]; exact rc.at (r.rg n hn)) ?_)
  refine al_mk (vs := [.int .i64 k]) fun b h1 f1 hb1 o1 => ?_
  refine ⟨ldL_mk ((Cells.fr0 f1 cc).at rfl) (by rw [er]), ldL_mk ((Cells.fr0 f1 cc).at rfl) (by rw [er]), ldL_mk (by rw [Nat.mul_one]; exact (Cells.fr0 f1 rc).at (r.rg n hn)) rfl, ?_⟩
  have es : (Try.t3).size = 1 := by kernel_rfl
  have eb : (Try.t3).bytes = 8 := by kernel_rfl
  have hil := r.il n hn
  have G1 := G.fr f1
  refine Fam.app el_int Try.underlying27 (by intro k e; cases e) G1.fam (xI i n) (by rw [es]; rfl) (by rw [hil.1]; simp [intsV, szG]) hil.2 (Src.one o1 (by rw [es]; rfl) 1) (by intro v hv; rw [List.mem_singleton.1 hv]; rfl) (by rw [eb]; omega) fun a' c' h2 F2 hc2 f2 hn2 => ⟨_, _, _, rfl, ?_⟩
  have nR : (xR i) ≠ xI i n := ix_ne (by decide) _ _ _ _
  have nO : xO ≠ xI i n := ix_ne (by decide) _ _ _ _
  have hnO := notIn G1.fam hoa nO
  refine ⟨ldL_mk ((Cells.fr (Cells.fr0 f1 cc) f2 (by rw [add_block]; exact hnO)).at rfl) (by rw [er]), ?_⟩
  refine idxA_mk n rfl hn (nn_mk ?_)
  rw [Nat.mul_one]
  refine F2.set (xR i) (by rw [put_ne _ _ nR]; exact er) (by rw [put_ne _ _ nR, r.rl]; exact hn) rfl fun h3 F3 f3 => ?_
  have t2 : Turned N h h2 sl (put sl (xI i n) a') := (Turned.of_fr f1).trans (Turned.of_app f2 hn2)
  have t3 : Turned N h h3 sl (put sl (xI i n) a') := t2.trans (Turned.of_set f3)
  exact hk _ _ _ _ (G.inner hi hn k hc2 F3 t3) t3 (put_ne _ _ nO) (put_ne _ _ nO)
end
end Go.Proofs.Ytjelnknmjhceiaa
