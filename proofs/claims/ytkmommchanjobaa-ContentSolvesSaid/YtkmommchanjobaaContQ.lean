/-
  The law ContentSolves.
-/
import Derived.Test.YtkmommchanjobaaContP
namespace Go.Proofs.Ytkmommchanjobaa
set_option linter.unusedSimpArgs false
set_option linter.unusedVariables false
open Go
/-- What the statement's own search knows when it comes to the places p, q. -/
def Wnt (d : List UInt8) (ts : List Ts) (a b : Cn) (want : Bool) (least p q : Int) : Prop :=
  if want then ∃ p0 q0, least = q0 + b.pat.length ∧ Good d ts a b p0 q0 ∧ ∀ p' q', Good d ts a b p' q' → p0 < p' ∨ p0 = p' ∧ q0 ≤ q'
  else ∀ p' q', Good d ts a b p' q' → p < p' ∨ p = p' ∧ q ≤ q'
section
variable {d : List UInt8} {ts : List Ts} {a b : Cn} {ca cb cc : Addr} {La Ta : Option Addr} {ln lc tc : Nat} {Lc : Option Addr} {lcn lcc : Nat} {bud : Int}
/-- The variables of the statement. -/
structure Sv (h : Heap) (ca cb cc : Addr) (a b : Cn) (Lc : Option Addr) (lcn lcc : Nat) (Ta : Option Addr) (ts : List Ts) (tc : Nat) (d : List UInt8) (bud : Int) : Prop where
  a : CnAt h ca a
  b : CnAt h cb b
  c1 : hcell h (cc.add 1) = some (.slice Ta ts.length tc)
  c2 : hcell h (cc.add 2) = some (.string (bs d))
  rt : RdT (fun _ => False) h Ta ts
theorem Sv.fr {h h' : Heap} (s : Sv h ca cb cc a b Lc lcn lcc Ta ts tc d bud) (f : Fr (fun _ => False) h h') : Sv h' ca cb cc a b Lc lcn lcc Ta ts tc d bud :=
  ⟨s.a.fr f id, s.b.fr f id, f.hcell s.c1 id, f.hcell s.c2 id, s.rt.fr f fun _ h => h⟩
theorem wnt_next (hbad : ∀ {p q : Int}, True) {least p q : Int} (h : Wnt d ts a b false least p q) (hn : ¬ Good d ts a b p q) (l2 : Int) : Wnt d ts a b false l2 p (q + 1) := by
  unfold Wnt at h ⊢
  rw [if_neg (by simp)] at h ⊢
  intro p' q' g
  rcases h p' q' g with h1 | ⟨h1, h2⟩
  · exact .inl h1
  · refine .inr ⟨h1, ?_⟩
    by_cases e : q = q'
    · subst h1 e; exact absurd g hn
    · omega
theorem inner_c [Gh] (hoa : OkC a) (hob : OkC b) (hot : ∀ t ∈ ts, OkT t) (hd : d.length ≤ 40) (htl : ts.length ≤ 6) {h : Heap} (s : Sv h ca cb cc a b Lc lcn lcc Ta ts tc d bud) {p : Int} (hp : 0 ≤ p ∧ p ≤ d.length) {least : Int} (w : Wnt d ts a b false least p 0)
    {Q : Value → Heap → Prop} {Kn7 : Bool × Int × Int → Heap → Prop} (hk : ∀ h' want least, Fr (fun _ => False) h h' → Wnt d ts a b want least (p + 1) 0 → Kn7 (want, least, p + 1) h') {l7a : Option Addr} {l7n l7c : Nat} :
    law44_ContentSolves_b10 ca cb cc l7a l7n l7c false least p Q Kn7 h := by
  simp only [law44_ContentSolves_b10]
  refine LoopV.mk (fun st h' => ∃ q : Nat, st.2.2 = q ∧ (q : Int) ≤ d.length + 1 ∧ Fr (fun _ => False) h h' ∧ Wnt d ts a b st.1 st.2.1 p q) (fun st _ => (d.length + 1 - st.2.2).toNat) ⟨0, rfl, by omega, Fr.refl _ _, w⟩ ?_
  rintro ⟨want, least, q⟩ h' ⟨q, rfl, hq, hf, w⟩
  simp only at w ⊢
  have s1 := s.fr hf
  simp only [law44_ContentSolves_l11, law44_ContentSolves_b12]
  have out : (want = true ∨ (q : Int) > d.length) → law44_ContentSolves_b27 ca cb cc l7a l7n l7c want least p Q Kn7 h' := by
    intro hor
    simp only [law44_ContentSolves_b27]
    rw [wr (by omega) (by omega)]
    refine hk h' want least hf ?_
    cases want with
    | true => exact w
    | false =>
      have hqd : (q : Int) > d.length := by rcases hor with h | h; (cases h); exact h
      unfold Wnt at w ⊢
      rw [if_neg (by simp)] at w ⊢
      intro p' q' g
      have g1 := g.2.2.2.1.1
      have g2 := g.2.2.2.1.2.1
      rcases w p' q' g with h1 | ⟨h1, h2⟩
      · by_cases e : p + 1 = p'
        · exact .inr ⟨e, g1⟩
        · exact .inl (by omega)
      · omega
  refine ldS_mk s1.c2 ?_
  by_cases hqd : ¬ (q : Int) ≤ d.length
  · rw [if_neg (by rw [bs_size, decide_eq_true_eq]; exact hqd)]
    exact out (.inr (by omega))
  have hqd := Classical.not_not.1 hqd
  rw [if_pos (by rw [bs_size, decide_eq_true_eq]; exact hqd)]
  cases want with
  | true => rw [if_neg (by simp)]; exact out (.inl rfl)
  | false =>
  rw [if_pos (by rfl)]
  have nxt : ∀ h3, Fr (fun _ => False) h h3 → ∀ (want2 : Bool) (least2 : Int), Wnt d ts a b want2 least2 p ((q : Int) + 1) →
      (∃ q2 : Nat, IntKind.wrap .i64 ((q : Int) + 1) = q2 ∧ (q2 : Int) ≤ d.length + 1 ∧ Fr (fun _ => False) h h3 ∧ Wnt d ts a b want2 least2 p q2) ∧ ((d.length : Int) + 1 - IntKind.wrap .i64 ((q : Int) + 1)).toNat < ((d.length : Int) + 1 - (q : Int)).toNat := by
    intro h3 f3 want2 least2 w2
    rw [wr (by omega) (by omega)]
    exact ⟨⟨q + 1, by omega, by omega, f3, by rw [show ((q + 1 : Nat) : Int) = (q : Int) + 1 by omega]; exact w2⟩, by omega⟩
  have bad : ∀ h3, Fr (fun _ => False) h h3 → ¬ Good d ts a b p q → (∃ q2 : Nat, IntKind.wrap .i64 ((q : Int) + 1) = q2 ∧ (q2 : Int) ≤ d.length + 1 ∧ Fr (fun _ => False) h h3 ∧ Wnt d ts a b false least p q2) ∧ ((d.length : Int) + 1 - IntKind.wrap .i64 ((q : Int) + 1)).toNat < ((d.length : Int) + 1 - (q : Int)).toNat :=
    fun h3 f3 hn => nxt h3 f3 false least (wnt_next trivial w hn least)
  simp only [law44_ContentSolves_b13, law44_ContentSolves_b14, law44_ContentSolves_b15, law44_ContentSolves_b16, law44_ContentSolves_b17, law44_ContentSolves_b18]
  have hpa := hoa.1
  have hpb := hob.1
  refine ldS_mk s1.a.c0 ?_
  rw [bs_size, wr (x := p + (a.pat.length : Int)) (by omega) (by omega)]
  refine ldS_mk s1.a.c0 (ldB_mk s1.a.c1 (ldB_mk s1.a.c2 (ldB_mk s1.a.c3 (ldI_mk s1.a.c4 (ldI_mk s1.a.c5 (ldB_mk s1.a.c6 ?_))))))
  refine ldS_mk s1.c2 ?_
  rw [bs_size]
  refine rBounds_c a d.length 0 hoa ⟨by omega, by omega⟩ ⟨by omega, by omega⟩ fun h2 f2 => ⟨_, _, rfl, ?_⟩
  have s2 := s1.fr f2
  refine ldS_mk s2.b.c0 (ldB_mk s2.b.c1 (ldB_mk s2.b.c2 (ldB_mk s2.b.c3 (ldI_mk s2.b.c4 (ldI_mk s2.b.c5 (ldB_mk s2.b.c6 ?_))))))
  refine ldS_mk s2.c2 ?_
  rw [bs_size]
  refine rBounds_c b d.length (p + a.pat.length) hob ⟨by omega, by omega⟩ ⟨by omega, by omega⟩ fun h3 f3 => ⟨_, _, rfl, ?_⟩
  have s3 := s2.fr f3
  have fr3 := (hf.trans f2).trans f3
  by_cases q1 : p < (boundsL a d.length 0).1
  · rw [if_pos (by rw [decide_eq_true_eq]; exact q1)]
    exact bad h3 fr3 fun g => by have := g.1.1; omega
  rw [if_neg (by rw [decide_eq_true_eq]; exact q1)]
  by_cases q2 : p > (boundsL a d.length 0).2
  · rw [if_pos (by rw [decide_eq_true_eq]; exact q2)]
    exact bad h3 fr3 fun g => by have := g.1.2; omega
  rw [if_neg (by rw [decide_eq_true_eq]; exact q2)]
  by_cases q3 : (q : Int) < (boundsL b d.length (p + a.pat.length)).1
  · rw [if_pos (by rw [decide_eq_true_eq]; exact q3)]
    exact bad h3 fr3 fun g => by have := g.2.1.1; omega
  rw [if_neg (by rw [decide_eq_true_eq]; exact q3)]
  by_cases q4 : (q : Int) > (boundsL b d.length (p + a.pat.length)).2
  · rw [if_pos (by rw [decide_eq_true_eq]; exact q4)]
    exact bad h3 fr3 fun g => by have := g.2.1.2; omega
  rw [if_neg (by rw [decide_eq_true_eq]; exact q4)]
  refine ldS_mk s3.a.c0 (ldB_mk s3.a.c1 (ldB_mk s3.a.c2 (ldB_mk s3.a.c3 (ldI_mk s3.a.c4 (ldI_mk s3.a.c5 (ldB_mk s3.a.c6 ?_))))))
  refine ldS_mk s3.c2 ?_
  refine rAt_c a d p (by omega) (by omega) fun h4 f4 => ⟨_, rfl, ?_⟩
  have s4 := s3.fr f4
  have fr4 := fr3.trans f4
  by_cases ata : ¬ AtP a d p
  · rw [if_pos (by simp [ata])]
    exact bad h4 fr4 fun g => ata g.2.2.1
  have ata := Classical.not_not.1 ata
  rw [if_neg (by simp [ata])]
  refine ldS_mk s4.b.c0 (ldB_mk s4.b.c1 (ldB_mk s4.b.c2 (ldB_mk s4.b.c3 (ldI_mk s4.b.c4 (ldI_mk s4.b.c5 (ldB_mk s4.b.c6 ?_))))))
  refine ldS_mk s4.c2 ?_
  refine rAt_c b d q (by omega) (by omega) fun h5 f5 => ⟨_, rfl, ?_⟩
  have s5 := s4.fr f5
  have fr5 := fr4.trans f5
  by_cases atb : ¬ AtP b d q
  · rw [if_pos (by simp [atb])]
    exact bad h5 fr5 fun g => atb g.2.2.2.1
  have atb := Classical.not_not.1 atb
  rw [if_neg (by simp [atb])]
  have gin := atb.2.1
  simp only [law44_ContentSolves_b19, law44_ContentSolves_b20, law44_ContentSolves_b21]
  refine ldS_mk s5.b.c0 ?_
  rw [bs_size, wr (x := (q : Int) + (b.pat.length : Int)) (by omega) (by omega)]
  refine LoopV.mk (fun st h' => ∃ k : Nat, st.2 = k ∧ k ≤ ts.length ∧ Fr (fun _ => False) h h' ∧ Sv h' ca cb cc a b Lc lcn lcc Ta ts tc d bud ∧ (st.1 = true ↔ ∀ j (hj : j < ts.length), j < k → testL ts[j] d ((q : Int) + b.pat.length) = true)) (fun st _ => ts.length - st.2.toNat) ⟨0, rfl, by omega, fr5, s5, by simp⟩ ?_
  rintro ⟨want, i⟩ h6 ⟨k, rfl, hkl, fr6, s6, hw⟩
  simp only at hw ⊢
  simp only [law44_ContentSolves_l22, law44_ContentSolves_b23, law44_ContentSolves_b24, law44_ContentSolves_b25, law44_ContentSolves_b26, law44_ContentSolves_b18]
  refine ldL_mk s6.c1 ?_
  by_cases hkt : k < ts.length
  · rw [if_pos (by rw [decide_eq_true_eq]; omega)]
    have stp : ∀ h7 (w2 : Bool), Fr (fun _ => False) h h7 → Sv h7 ca cb cc a b Lc lcn lcc Ta ts tc d bud → (w2 = true ↔ ∀ j (hj : j < ts.length), j < k + 1 → testL ts[j] d ((q : Int) + b.pat.length) = true) →
        (∃ k2 : Nat, IntKind.wrap .i64 ((k : Int) + 1) = k2 ∧ k2 ≤ ts.length ∧ Fr (fun _ => False) h h7 ∧ Sv h7 ca cb cc a b Lc lcn lcc Ta ts tc d bud ∧ (w2 = true ↔ ∀ j (hj : j < ts.length), j < k2 → testL ts[j] d ((q : Int) + b.pat.length) = true)) ∧ ts.length - (IntKind.wrap .i64 ((k : Int) + 1)).toNat < ts.length - (k : Int).toNat := by
      intro h7 w2 f7 s7 hw2
      rw [wr (by omega) (by omega)]
      exact ⟨⟨k + 1, by omega, by omega, f7, s7, hw2⟩, by omega⟩
    cases want with
    | false =>
      rw [if_neg (by simp)]
      refine stp h6 false fr6 s6 ⟨fun h => absurd h (by simp), fun hall => ?_⟩
      exact hw.2 fun j hj hjk => hall j hj (by omega)
    | true =>
      rw [if_pos rfl]
      have hall := hw.1 rfl
      refine ldL_mk s6.c1 ?_
      obtain ⟨ad, hTa, _, r⟩ := s6.rt k hkt
      subst hTa
      refine ⟨by omega, by omega, ?_⟩
      simp only [nn]
      rw [Int.toNat_natCast]
      refine ldI_mk r.c0 (ldI_mk r.c1 (ldI_mk r.c2 (ldI_mk r.c3 (ldB_mk r.c4 (ldB_mk r.c5 (ldB_mk r.c6 ?_))))))
      refine ldS_mk s6.c2 ?_
      refine rTest_c ts[k] d ((q : Int) + b.pat.length) (hot _ (List.getElem_mem hkt)) ⟨by omega, by omega⟩ (by omega) fun h7 f7 => ⟨_, rfl, ?_⟩
      refine stp h7 _ (fr6.trans f7) (s6.fr f7) ⟨fun ht j hj hjk => ?_, fun hx => hx k hkt (by omega)⟩
      by_cases e : j = k
      · subst e; exact ht
      · exact hall j hj (by omega)
  · rw [if_neg (by rw [decide_eq_true_eq]; omega)]
    have hte : want = testsL d ts ((q : Int) + b.pat.length) := by
      rw [Bool.eq_iff_iff, hw]
      unfold testsL
      rw [List.all_eq_true]
      constructor
      · intro hx t ht
        obtain ⟨j, hj, rfl⟩ := List.mem_iff_getElem.1 ht
        exact hx j hj (by omega)
      · intro hx j hj _
        exact hx _ (List.getElem_mem hj)
    refine nxt h6 fr6 want _ ?_
    cases want with
    | false => exact wnt_next trivial w (fun g => by rw [g.2.2.2.2] at hte; cases hte) _
    | true =>
      unfold Wnt at w ⊢
      rw [if_neg (by simp)] at w
      rw [if_pos rfl]
      exact ⟨p, q, rfl, ⟨⟨by omega, by omega⟩, ⟨by omega, by omega⟩, ata, atb, hte.symm⟩, w⟩
end
end Go.Proofs.Ytkmommchanjobaa
