/-
  The law ContentSolves, whole.
-/
import Derived.Test.YtkmommchanjobaaContQ
namespace Go.Proofs.Ytkmommchanjobaa
set_option linter.unusedSimpArgs false
set_option linter.unusedVariables false
open Go
theorem ContentSolves_c [Gh] {La Ta : Option Addr} {ln lc tc : Nat} {ts : List Ts} (a b : Cn) (d : List UInt8) (bud : Int) {h : Heap} (rt : RdT (fun _ => False) h Ta ts) {Q : Value → Heap → Prop} (hk : ∀ h', Fr (fun _ => False) h h' → Q (.bool true) h') :
    CallT Try.prog fn_law44_ContentSolves #[.agg (cnV a).toArray, .agg (cnV b).toArray, .agg (caseV La ln lc Ta ts.length tc d bud).toArray] h Q := by
  refine law44_ContentSolves_s (bs a.pat) a.nocase a.neg a.rel a.off a.dep a.fast (bs b.pat) b.nocase b.neg b.rel b.off b.dep b.fast La ln lc Ta ts.length tc (bs d) bud ?_
  simp only [law44_ContentSolves_v, law44_ContentSolves_b1, law44_ContentSolves_b2]
  refine alV_mk (o := .cells (cnV a).toArray 23) ?_
  refine alV_mk (o := .cells (cnV b).toArray 23) ?_
  refine alV_mk ?_
  have f1 := Fr.push (fun _ => False) h (.cells (cnV a).toArray 23 (0, 0))
  have ra0 : CnAt (h.push (.cells (cnV a).toArray 23 (0, 0))) ⟨h.size, 0, none⟩ a := by
    constructor <;> (try rw [add_mk]) <;> rw [hcell_blk get_push_self] <;> rfl
  generalize Addr.mk h.size 0 none = ca at *
  generalize h.push (.cells (cnV a).toArray 23 (0, 0)) = h1 at *
  have f2 := Fr.push (fun _ => False) h1 (.cells (cnV b).toArray 23 (0, 0))
  have rb0 : CnAt (h1.push (.cells (cnV b).toArray 23 (0, 0))) ⟨h1.size, 0, none⟩ b := by
    constructor <;> (try rw [add_mk]) <;> rw [hcell_blk get_push_self] <;> rfl
  have ra1 := ra0.fr f2 id
  generalize Addr.mk h1.size 0 none = cb at *
  generalize h1.push (.cells (cnV b).toArray 23 (0, 0)) = h2 at *
  have f3 := Fr.push (fun _ => False) h2 (.cells #[.slice La ln lc, .slice Ta ts.length tc, .string (bs d), .int .i64 bud] 38 (0, 0))
  have s0 : Sv (h2.push (.cells #[.slice La ln lc, .slice Ta ts.length tc, .string (bs d), .int .i64 bud] 38 (0, 0))) ca cb ⟨h2.size, 0, none⟩ a b La ln lc Ta ts tc d bud :=
    ⟨ra1.fr f3 id, rb0.fr f3 id, by rw [add_mk, hcell_blk get_push_self]; rfl, by rw [add_mk, hcell_blk get_push_self]; rfl, ((rt.fr f1 fun _ h => h).fr f2 fun _ h => h).fr f3 fun _ h => h⟩
  generalize Addr.mk h2.size 0 none = cc at *
  generalize h2.push (.cells #[.slice La ln lc, .slice Ta ts.length tc, .string (bs d), .int .i64 bud] 38 (0, 0)) = h3 at *
  refine ldS_mk s0.a.c0 (ldB_mk s0.a.c1 (ldB_mk s0.a.c2 (ldB_mk s0.a.c3 (ldI_mk s0.a.c4 (ldI_mk s0.a.c5 (ldB_mk s0.a.c6 ?_))))))
  refine ldS_mk s0.b.c0 (ldB_mk s0.b.c1 (ldB_mk s0.b.c2 (ldB_mk s0.b.c3 (ldI_mk s0.b.c4 (ldI_mk s0.b.c5 (ldB_mk s0.b.c6 ?_))))))
  refine alV_mk (o := .cells ([a, b].flatMap cnV).toArray 23) ?_
  have f4 := Fr.push (fun _ => False) h3 (.cells ([a, b].flatMap cnV).toArray 23 (0, 0))
  have rc : RdC (fun _ => False) (h3.push (.cells ([a, b].flatMap cnV).toArray 23 (0, 0))) (some ⟨h3.size, 0, none⟩) [a, b] := rdC_blk get_push_self id
  have s := s0.fr f4
  generalize Addr.mk h3.size 0 none = cl at *
  generalize h3.push (.cells ([a, b].flatMap cnV).toArray 23 (0, 0)) = h4 at *
  have f04 := ((f1.trans f2).trans f3).trans f4
  have wake : ∀ h', Fr (fun _ => False) h4 h' → CallT Try.prog fn_law44_awake #[] h' fun v h2 => ∃ t : Bool, v = Value.bool t ∧ Q (Value.bool t) h2 :=
    fun h' f => awake_c fun h3 f3 => ⟨_, rfl, hk _ ((f04.trans f).trans f3)⟩
  simp only [law44_ContentSolves_b3, law44_ContentSolves_b4, law44_ContentSolves_b5]
  refine ldL_mk s.c1 (ldS_mk s.c2 ?_)
  refine sound_c (cs := [a, b]) rc s.rt fun res hres => ⟨_, rfl, ?_⟩
  cases res with
  | false => rw [if_pos (by rfl)]; exact wake _ (Fr.refl _ _)
  | true =>
    rw [if_neg (by simp)]
    have S := hres rfl
    have h6t := S.t
    have hoa : OkC a := S.okc a (by simp)
    have hob : OkC b := S.okc b (by simp)
    refine ldS_mk s.c2 ?_
    by_cases hd : d.length > 40
    · rw [if_pos (by rw [bs_size, decide_eq_true_eq]; omega)]; exact wake _ (Fr.refl _ _)
    rw [if_neg (by rw [bs_size, decide_eq_true_eq]; omega)]
    refine ldB_mk s.a.c2 ?_
    cases hna : a.neg with
    | true => rw [if_pos rfl]; exact wake _ (Fr.refl _ _)
    | false =>
    rw [if_neg (by simp)]
    refine ldB_mk s.b.c2 ?_
    cases hnb : b.neg with
    | true => rw [if_pos rfl]; exact wake _ (Fr.refl _ _)
    | false =>
    rw [if_neg (by simp)]
    simp only [law44_ContentSolves_b6]
    refine LoopV.mk (fun st h' => ∃ p : Nat, st.2.2 = p ∧ (p : Int) ≤ d.length + 1 ∧ Fr (fun _ => False) h4 h' ∧ Wnt d ts a b st.1 st.2.1 p 0) (fun st _ => (d.length + 1 - st.2.2).toNat) ⟨0, rfl, by omega, Fr.refl _ _, by
      unfold Wnt
      rw [if_neg (by simp)]
      intro p' q' g
      have g1 := g.2.2.1.1
      have g2 := g.2.2.2.1.1
      omega⟩ ?_
    rintro ⟨want, least, p⟩ h5 ⟨p, rfl, hp, hf, w⟩
    simp only at w ⊢
    have s5 := s.fr hf
    simp only [law44_ContentSolves_l7, law44_ContentSolves_b8, law44_ContentSolves_b9]
    have out : (want = true ∨ (p : Int) > d.length) → law44_ContentSolves_b28 cc (some cl) 2 2 want least Q h5 := by
      intro hor
      simp only [law44_ContentSolves_b28, law44_ContentSolves_b29, law44_ContentSolves_b30, law44_ContentSolves_b31]
      refine ldL_mk s5.c1 (ldS_mk s5.c2 ?_)
      refine Match_c (cs := [a, b]) (by omega) (by simp) (by omega) S.okc S.okt 100000 (by omega) (rc.fr hf fun _ h => h) s5.rt fun h6 f6 => ⟨_, _, _, _, matchV_eq _ _, ?_⟩
      have e1 : stepsL 100000 = 100000 := rfl
      rw [e1]
      obtain ⟨t1, t2⟩ := solve_two (ts := ts) hna hnb hoa hob (d := d) (by omega)
      generalize solve d ts [a, b] 0 100000 = r at *
      obtain ⟨re, rl, ro⟩ := r
      simp only at t1 t2
      subst t1
      rw [if_neg (by simp [mE])]
      cases re with
      | none =>
        have hwf : want = false := by
          cases want with
          | false => rfl
          | true =>
            unfold Wnt at w
            rw [if_pos rfl] at w
            obtain ⟨p0, q0, _, g, _⟩ := w
            exact absurd g (t2 p0 q0)
        subst hwf
        rw [if_neg (by simp [mOk]), if_pos (by rfl), if_pos (by simp [mEnd])]
        exact wake _ (hf.trans f6)
      | some e =>
        obtain ⟨p1, q1, he, g1, first1⟩ := t2
        cases want with
        | false =>
          have hpd : (p : Int) > d.length := by rcases hor with h | h; (cases h); exact h
          unfold Wnt at w
          rw [if_neg (by simp)] at w
          have := w p1 q1 g1
          have := g1.2.2.1.2.1
          omega
        | true =>
          unfold Wnt at w
          rw [if_pos rfl] at w
          obtain ⟨p0, q0, hl, g, first⟩ := w
          have c1 := first p1 q1 g1
          have c2 := first1 p0 q0 g
          have hq : q0 = q1 := by omega
          subst hq
          rw [if_neg (by simp [mOk]), if_neg (by simp), if_pos rfl, if_pos (by simp [mEnd, he, hl])]
          exact wake _ (hf.trans f6)
    refine ldS_mk s5.c2 ?_
    by_cases hpd : ¬ (p : Int) ≤ d.length
    · rw [if_neg (by rw [bs_size, decide_eq_true_eq]; exact hpd)]
      exact out (.inr (by omega))
    have hpd := Classical.not_not.1 hpd
    rw [if_pos (by rw [bs_size, decide_eq_true_eq]; exact hpd)]
    cases want with
    | true => rw [if_neg (by simp)]; exact out (.inl rfl)
    | false =>
      rw [if_pos (by rfl)]
      refine inner_c hoa hob S.okt (by omega) h6t s5 ⟨by omega, hpd⟩ w fun h6 want2 least2 f6 w2 => ⟨⟨p + 1, by simp, by omega, hf.trans f6, ?_⟩, by simp only; omega⟩
      rw [show ((p + 1 : Nat) : Int) = (p : Int) + 1 by omega]
      exact w2
end Go.Proofs.Ytkmommchanjobaa
