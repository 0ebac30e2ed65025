/-
  The reference's session, as words; it follows the program's.
-/
import Derived.Test.YtdpimhlppflidaaDoorSmP
namespace Go.Proofs.YtdpimhlppflidaaDoor
set_option linter.unusedSimpArgs false
set_option linter.unusedVariables false
set_option maxRecDepth 20000
open Go
structure RS where
  c : SD
  s : SD
  rp : Nat
  it : Nat
  vb : Nm
  im : Bool
  num : Nm
  tx : Nm
  op : Bool
def rans (r : RS) : Nat := r.rp - 1
def rcanC (r : RS) : Bool := !r.op && !r.c.f && decide (r.c.q ≠ []) && (!decide (r.it > rans r) || decide (r.vb ≠ kDATA) && decide (r.vb ≠ kTLS))
def rcanS (r : RS) : Bool := !r.op && !r.s.f && decide (r.s.q ≠ []) && (decide (r.num ≠ []) || decide (r.rp = 0) || decide (r.it > rans r))
def rfailC (r : RS) : RS × List Ev := ({ r with c := { r.c with f := true } }, [err 1])
def rfailS (r : RS) : RS × List Ev := ({ r with s := { r.s with f := true } }, [err 2])
def rclient (r : RS) (s : Nm) : RS × List Ev :=
  if r.im = true then
    (if s = [46] then ({ r with im := false, it := r.it + 1, vb := [] }, [⟨4, 1, [], []⟩]) else (r, [⟨3, 1, [], undotL s⟩]))
  else match cmdL s with
    | none => rfailC r
    | some (v, t) => ({ r with it := r.it + 1, vb := v }, [⟨1, 1, v, t⟩])
def badR (s : Nm) : Bool := decide (s.length < 3) || !(s.take 3).all digitB || !okRest (s.drop 3)
def rtext (r : RS) (t : Nm) : Nm := if r.num ≠ [] then r.tx ++ [32] ++ t else t
def rdone (r : RS) (number : Nm) : RS :=
  if r.rp + 1 > 1 ∧ r.rp = r.it then { r with num := [], tx := [], rp := r.rp + 1, im := r.im || (decide (r.vb = kDATA) && decide (number = k354)), op := r.op || (decide (r.vb = kTLS) && decide (number = k220)) }
  else { r with num := [], tx := [], rp := r.rp + 1 }
def rserver (r : RS) (s : Nm) : RS × List Ev :=
  if badR s = true ∨ (r.num ≠ [] ∧ r.num ≠ s.take 3) then rfailS r
  else if moreR (s.drop 3) = true then ({ r with num := s.take 3, tx := rtext r ((s.drop 3).drop 1) }, [])
  else (rdone r (s.take 3), [⟨2, 2, s.take 3, rtext r ((s.drop 3).drop 1)⟩])
def rpopC (r : RS) : RS := { r with c := { r.c with q := r.c.q.tail } }
def rpopS (r : RS) : RS := { r with s := { r.s with q := r.s.q.tail } }
def rreadC (r : RS) : RS × List Ev := match r.c.q with
  | [] => (r, [])
  | l :: _ => if l.2 = true then rfailC (rpopC r) else rclient (rpopC r) l.1
def rreadS (r : RS) : RS × List Ev := match r.s.q with
  | [] => (r, [])
  | l :: _ => if l.2 = true then rfailS (rpopS r) else rserver (rpopS r) l.1
def vbI : Option Nm → Nm
  | none => []
  | some v => v
structure RelR (st : PS) (r : RS) : Prop where
  c : r.c = st.c
  s : r.s = st.s
  im : r.im = st.im
  op : r.op = st.op
  gr : st.gr = decide (r.rp ≠ 0)
  it : r.it = (r.rp - 1) + st.items.length
  vb : ∀ i, st.items.getLast? = some i → r.vb = vbI i
  num : r.num = if st.tx = [] then [] else st.num
  tx : r.tx = if st.tx = [] then [] else joinL st.tx
  lo : ∀ i ∈ st.items.dropLast, openI i = false
  gx : st.gr = true → st.tx ≠ [] → st.items ≠ []
  nx : st.tx ≠ [] → st.num ≠ []
theorem joinL_snoc : ∀ (l : List Nm) (t : Nm), l ≠ [] → joinL (l ++ [t]) = joinL l ++ [32] ++ t
  | [], _, h => absurd rfl h
  | x :: r, t, _ => by
    unfold joinL
    rw [List.cons_append, Lib.join_cons, Lib.join_cons]
    unfold Lib.joinTail
    simp
theorem sim_canC {st : PS} {r : RS} (R : RelR st r) : rcanC r = canC st := by
  have e : (!decide (r.it > rans r) || decide (r.vb ≠ kDATA) && decide (r.vb ≠ kTLS)) = lastOk st.items := by
    unfold rans lastOk
    cases hl : st.items.getLast? with
    | none =>
      have : st.items = [] := List.getLast?_eq_none_iff.1 hl
      have h := R.it
      rw [this] at h
      rw [decide_eq_false (by simp at h; omega)]; rfl
    | some i =>
      have hne : st.items ≠ [] := fun h => by rw [h] at hl; cases hl
      have := List.length_pos_iff.2 hne
      have h := R.it
      rw [decide_eq_true (by omega), R.vb i hl]
      cases i with
      | none => rfl
      | some v =>
        show (false || decide (v ≠ kDATA) && decide (v ≠ kTLS)) = !(decide (v = kDATA) || decide (v = kTLS))
        rw [Bool.false_or, Bool.not_or, decide_not, decide_not]
  unfold rcanC canC
  rw [e, R.c, R.op]
  cases st.op <;> cases st.c.f <;> cases decide (st.c.q ≠ []) <;> cases lastOk st.items <;> rfl
theorem RelR.num_ne {st : PS} {r : RS} (R : RelR st r) : r.num ≠ [] ↔ st.tx ≠ [] := by
  rw [R.num]
  by_cases h : st.tx = []
  · rw [if_pos h]; simp [h]
  · rw [if_neg h]; exact ⟨fun _ => h, fun _ => R.nx h⟩
theorem sim_canS {st : PS} {r : RS} (R : RelR st r) : rcanS r = canS st := by
  have h1 : decide (r.num ≠ []) = decide (st.tx ≠ []) := by rw [decide_eq_decide]; exact R.num_ne
  have h2 : decide (r.rp = 0) = !st.gr := by
    rw [R.gr]
    by_cases h : r.rp = 0 <;> simp [h]
  have h3 : decide (r.it > rans r) = decide (st.items ≠ []) := by
    rw [decide_eq_decide]
    have := R.it
    unfold rans
    constructor
    · intro h hh; rw [hh] at this; simp at this; omega
    · intro h; have := List.length_pos_iff.2 h; omega
  unfold rcanS canS
  rw [h1, h2, h3, R.s, R.op]
  cases st.op <;> cases st.s.f <;> cases decide (st.s.q ≠ []) <;> simp
theorem sim_readC {st : PS} {r : RS} (R : RelR st r) (hc : canC st = true) : RelR (readC st).1 (rreadC r).1 ∧ (readC st).2 = (rreadC r).2 := by
  have hlast : lastOk st.items = true := by unfold canC at hc; rw [Bool.and_eq_true] at hc; exact hc.2
  have hall : ∀ i ∈ st.items, openI i = false := fun i hi => by
    rcases List.eq_nil_or_concat st.items with h | ⟨l, x, h⟩
    · rw [h] at hi; cases hi
    · have h : st.items = l ++ [x] := by rw [h, List.concat_eq_append]
      have hlo := R.lo
      unfold lastOk at hlast
      rw [h] at hi hlo hlast
      rw [List.dropLast_concat] at hlo
      rw [List.getLast?_concat] at hlast
      rcases List.mem_append.1 hi with hi | hi
      · exact hlo i hi
      · rw [List.mem_singleton.1 hi]; simpa using hlast
  have push : ∀ (i : Option Nm) (stn : PS) (rn : RS), stn.c = rn.c → stn.s = rn.s → stn.im = rn.im → stn.op = st.op → stn.gr = st.gr → stn.items = st.items ++ [i] → stn.num = st.num → stn.tx = st.tx → rn.rp = r.rp → rn.it = r.it + 1 → rn.vb = vbI i → rn.num = r.num → rn.tx = r.tx → rn.op = r.op → RelR stn rn := fun i stn rn a1 a2 a3 a4 a5 a6 a7 a8 a9 a10 a11 a12 a13 a14 => by
    refine ⟨a1.symm, a2.symm, a3.symm, by rw [a14, a4, R.op], by rw [a5, a9, R.gr], by rw [a10, a6, a9, R.it, List.length_append, List.length_singleton]; omega, fun j hj => ?_, by rw [a12, a8, a7, R.num], by rw [a13, a8, R.tx], fun j hj => ?_, fun _ _ h => by rw [a6] at h; simp at h, fun h => by rw [a8] at h; rw [a7]; exact R.nx h⟩
    · rw [a6, List.getLast?_concat] at hj; rw [a11, ← Option.some.inj hj]
    · rw [a6, List.dropLast_concat] at hj; exact hall j hj
  have keep : ∀ (stn : PS) (rn : RS), stn.c = rn.c → stn.s = rn.s → stn.im = rn.im → stn.op = st.op → stn.gr = st.gr → stn.items = st.items → stn.num = st.num → stn.tx = st.tx → rn.rp = r.rp → rn.it = r.it → rn.vb = r.vb → rn.num = r.num → rn.tx = r.tx → rn.op = r.op → RelR stn rn := fun stn rn a1 a2 a3 a4 a5 a6 a7 a8 a9 a10 a11 a12 a13 a14 =>
    ⟨a1.symm, a2.symm, a3.symm, by rw [a14, a4, R.op], by rw [a5, a9, R.gr], by rw [a10, a6, a9, R.it], fun j hj => by rw [a6] at hj; rw [a11]; exact R.vb j hj, by rw [a12, a8, a7, R.num], by rw [a13, a8, R.tx], fun j hj => by rw [a6] at hj; exact R.lo j hj, fun h1 h2 => by rw [a5] at h1; rw [a8] at h2; rw [a6]; exact R.gx h1 h2, fun h => by rw [a8] at h; rw [a7]; exact R.nx h⟩
  unfold readC rreadC
  have hrc := R.c
  rw [hrc]
  cases hq : st.c.q with
  | nil => exact ⟨R, rfl⟩
  | cons l q =>
    dsimp only
    have ec : (rpopC r).c = (popC st).c := by unfold rpopC popC; dsimp only; rw [hrc]
    have es : (rpopC r).s = (popC st).s := R.s
    by_cases hl : l.2 = true
    · rw [if_pos hl, if_pos hl]
      refine ⟨keep _ _ ?_ es.symm R.im.symm rfl rfl rfl rfl rfl rfl rfl rfl rfl rfl rfl, rfl⟩
      show ({ (popC st).c with f := true } : SD) = { (rpopC r).c with f := true }
      rw [ec]
    · rw [if_neg hl, if_neg hl]
      unfold clientL rclient
      have him : (rpopC r).im = (popC st).im := R.im
      rw [him]
      by_cases hi : (popC st).im = true
      · rw [if_pos hi, if_pos hi]
        by_cases h46 : l.1 = [46]
        · rw [if_pos h46, if_pos h46]
          exact ⟨push none _ _ ec.symm es.symm rfl rfl rfl rfl rfl rfl rfl rfl rfl rfl rfl rfl, rfl⟩
        · rw [if_neg h46, if_neg h46]
          exact ⟨keep _ _ ec.symm es.symm him.symm rfl rfl rfl rfl rfl rfl rfl rfl rfl rfl rfl, rfl⟩
      · rw [if_neg hi, if_neg hi]
        cases hcm : cmdL l.1 with
        | none =>
          refine ⟨keep _ _ ?_ es.symm him.symm rfl rfl rfl rfl rfl rfl rfl rfl rfl rfl rfl, rfl⟩
          show ({ (popC st).c with f := true } : SD) = { (rpopC r).c with f := true }
          rw [ec]
        | some vt =>
          obtain ⟨v, t⟩ := vt
          exact ⟨push (some v) _ _ ec.symm es.symm rfl rfl rfl rfl rfl rfl rfl rfl rfl rfl rfl rfl, rfl⟩
theorem sim_readS {st : PS} {r : RS} (R : RelR st r) (hc : canS st = true) : RelR (readS st).1 (rreadS r).1 ∧ (readS st).2 = (rreadS r).2 := by
  have hor : st.tx ≠ [] ∨ st.gr = false ∨ st.items ≠ [] := by
    unfold canS at hc
    simp only [Bool.and_eq_true, Bool.or_eq_true, decide_eq_true_eq, Bool.not_eq_true'] at hc
    rcases hc.2 with (h | h) | h
    · exact .inl h
    · exact .inr (.inl h)
    · exact .inr (.inr h)
  have hgi : st.gr = true → st.items ≠ [] := fun hg => by
    rcases hor with h | h | h
    · exact R.gx hg h
    · rw [hg] at h; cases h
    · exact h
  unfold readS rreadS
  have hrs := R.s
  rw [hrs]
  cases hq : st.s.q with
  | nil => exact ⟨R, rfl⟩
  | cons l q =>
    dsimp only
    have es : (rpopS r).s = (popS st).s := by unfold rpopS popS; dsimp only; rw [hrs]
    have hfail : ∀ (stn : PS) (rn : RS), stn = failS (popS st) → rn = (rfailS (rpopS r)).1 → RelR stn rn := fun stn rn h1 h2 => by
      subst h1 h2
      refine ⟨R.c, ?_, R.im, R.op, R.gr, R.it, R.vb, R.num, R.tx, R.lo, R.gx, R.nx⟩
      show ({ (rpopS r).s with f := true } : SD) = { (popS st).s with f := true }
      rw [es]
    by_cases hl : l.2 = true
    · rw [if_pos hl, if_pos hl]
      exact ⟨hfail _ _ rfl rfl, rfl⟩
    rw [if_neg hl, if_neg hl]
    generalize l.1 = s
    have hbad : badR s = true ↔ (s.length < 3 ∨ (s.take 3).all digitB = false) ∨ okRest (s.drop 3) = false := by
      unfold badR; simp only [Bool.or_eq_true, decide_eq_true_eq, Bool.not_eq_true']
    have hnum : (rpopS r).num = r.num := rfl
    have htx : (popS st).tx = st.tx := rfl
    have hnm : (popS st).num = st.num := rfl
    have hdif : ((rpopS r).num ≠ [] ∧ (rpopS r).num ≠ s.take 3) ↔ ((popS st).tx ≠ [] ∧ s.take 3 ≠ (popS st).num) := by
      rw [hnum, htx, hnm]
      constructor
      · rintro ⟨h1, h2⟩
        have h1 := R.num_ne.1 h1
        rw [R.num, if_neg h1] at h2
        exact ⟨h1, fun h => h2 h.symm⟩
      · rintro ⟨h1, h2⟩
        refine ⟨R.num_ne.2 h1, ?_⟩
        rw [R.num, if_neg h1]; exact fun h => h2 h.symm
    unfold serverL rserver
    by_cases b1 : s.length < 3 ∨ (s.take 3).all digitB = false
    · rw [if_pos b1, if_pos (.inl (hbad.2 (.inl b1)))]
      exact ⟨hfail _ _ rfl rfl, rfl⟩
    rw [if_neg b1]
    by_cases b2 : okRest (s.drop 3) = false ∨ ((popS st).tx ≠ [] ∧ s.take 3 ≠ (popS st).num)
    · rw [if_pos b2, if_pos (by
        rcases b2 with h | h
        · exact .inl (hbad.2 (.inr h))
        · exact .inr (hdif.2 h))]
      exact ⟨hfail _ _ rfl rfl, rfl⟩
    have hnb : ¬ (badR s = true ∨ ((rpopS r).num ≠ [] ∧ (rpopS r).num ≠ s.take 3)) := by
      rintro (h | h)
      · rcases hbad.1 h with h | h
        · exact b1 h
        · exact b2 (.inl h)
      · exact b2 (.inr (hdif.1 h))
    rw [if_neg b2, if_neg hnb]
    have hlen3 : 3 ≤ s.length := by omega
    have hne3 : s.take 3 ≠ [] := fun h => by have := congrArg List.length h; rw [List.length_take] at this; have : min 3 s.length = 0 := this; omega
    generalize s.take 3 = number at *
    generalize hrest : s.drop 3 = rest at *
    have htext : rtext (rpopS r) (rest.drop 1) = joinL (st.tx ++ [rest.drop 1]) := by
      unfold rtext
      rw [hnum]
      by_cases h : st.tx = []
      · rw [if_neg (fun hh => R.num_ne.1 hh h), h]; show _ = Lib.join [rest.drop 1] [32]; rw [Lib.join_one]
      · rw [if_pos (R.num_ne.2 h), joinL_snoc _ _ h, show (rpopS r).tx = r.tx from rfl, R.tx, if_neg h]
    rw [htext]
    have hne1 : st.tx ++ [rest.drop 1] ≠ [] := by simp
    by_cases hm : moreR rest = true
    · rw [if_pos hm, if_pos hm]
      refine ⟨⟨R.c, es, R.im, R.op, R.gr, R.it, R.vb, ?_, ?_, R.lo, fun hg _ => hgi hg, fun _ => hne3⟩, rfl⟩
      · show number = if st.tx ++ [rest.drop 1] = [] then [] else number
        rw [if_neg hne1]
      · show joinL (st.tx ++ [rest.drop 1]) = if st.tx ++ [rest.drop 1] = [] then [] else joinL (st.tx ++ [rest.drop 1])
        rw [if_neg hne1]
    · rw [if_neg hm, if_neg hm]
      refine ⟨?_, rfl⟩
      have hrg := R.gr
      have hit := R.it
      have hgr : (popS st).gr = st.gr := rfl
      show RelR (if (popS st).gr = false then _ else _) (rdone (rpopS r) number)
      rw [hgr]
      by_cases hg : st.gr = false
      · rw [if_pos hg]
        have h0 : r.rp = 0 := by
          rw [hg] at hrg
          by_cases h : r.rp = 0
          · exact h
          · rw [decide_eq_true h] at hrg; cases hrg
        have hd : rdone (rpopS r) number = { rpopS r with num := [], tx := [], rp := (rpopS r).rp + 1 } := by
          unfold rdone
          rw [if_neg]
          rintro ⟨h, _⟩
          have h : r.rp + 1 > 1 := h
          omega
        rw [hd]
        refine ⟨R.c, es, R.im, R.op, ?_, ?_, R.vb, rfl, rfl, R.lo, fun _ h => absurd rfl h, fun h => absurd rfl h⟩
        · show true = decide (r.rp + 1 ≠ 0)
          rw [decide_eq_true (by omega)]
        · show r.it = (r.rp + 1 - 1) + st.items.length
          omega
      · rw [if_neg hg]
        have hg : st.gr = true := by
          cases h : st.gr with
          | true => rfl
          | false => exact absurd h hg
        have h0 : r.rp ≠ 0 := by
          rw [hg] at hrg
          exact of_decide_eq_true hrg.symm
        have hne := hgi hg
        have hlo := R.lo
        have hvb := R.vb
        have hit' : (popS st).items = st.items := rfl
        unfold answerL
        dsimp only
        rw [hit']
        cases hI : st.items with
        | nil => exact absurd hI hne
        | cons i rest' =>
          rw [hI] at hit hlo hvb
          have base : ∀ (im op : Bool) (rn : RS), rn = { rpopS r with num := [], tx := [], rp := r.rp + 1, im := im, op := op } →
              RelR { popS st with num := number, tx := [], items := rest', im := im, op := op } rn := fun im op rn hrn => by
            subst hrn
            refine ⟨R.c, es, rfl, rfl, ?_, ?_, fun j hj => hvb j ?_, rfl, rfl, fun j hj => hlo j ?_, fun _ h => absurd rfl h, fun h => absurd rfl h⟩
            · show st.gr = decide (r.rp + 1 ≠ 0)
              rw [hg, decide_eq_true (by omega)]
            · show r.it = (r.rp + 1 - 1) + rest'.length
              rw [List.length_cons] at hit; omega
            · have hj : rest'.getLast? = some j := hj
              rw [List.getLast?_cons, hj]; rfl
            · have hj : j ∈ rest'.dropLast := hj
              cases rest' with
              | nil => cases hj
              | cons a b => rw [List.dropLast_cons_cons]; exact List.mem_cons_of_mem _ hj
          have hrd : rdone (rpopS r) number = if rest' = [] then { rpopS r with num := [], tx := [], rp := r.rp + 1, im := r.im || (decide (r.vb = kDATA) && decide (number = k354)), op := r.op || (decide (r.vb = kTLS) && decide (number = k220)) } else { rpopS r with num := [], tx := [], rp := r.rp + 1, im := r.im, op := r.op } := by
            unfold rdone
            by_cases hr : rest' = []
            · rw [if_pos hr, if_pos]
              · rfl
              · rw [hr] at hit
                refine ⟨by show r.rp + 1 > 1; omega, ?_⟩
                show r.rp = r.it
                simp at hit; omega
            · rw [if_neg hr, if_neg]
              · rfl
              · rintro ⟨_, h⟩
                have h : r.rp = r.it := h
                have := List.length_pos_iff.2 hr
                rw [List.length_cons] at hit; omega
          rw [hrd]
          have hclosed : rest' ≠ [] → openI i = false := fun hr => by
            cases rest' with
            | nil => exact absurd rfl hr
            | cons a b => exact hlo i (by rw [List.dropLast_cons_cons]; exact List.mem_cons_self)
          cases i with
          | none =>
            dsimp only
            by_cases hr : rest' = []
            · rw [if_pos hr]
              have hv : r.vb = [] := hvb none (by rw [hr]; rfl)
              have hn1 : decide (r.vb = kDATA) = false := by rw [hv]; rfl
              have hn2 : decide (r.vb = kTLS) = false := by rw [hv]; rfl
              rw [hn1, hn2, Bool.false_and, Bool.false_and, Bool.or_false, Bool.or_false]
              have := base st.im st.op { rpopS r with num := [], tx := [], rp := r.rp + 1, im := r.im, op := r.op } (by rw [R.im, R.op])
              exact this
            · rw [if_neg hr]
              have := base st.im st.op { rpopS r with num := [], tx := [], rp := r.rp + 1, im := r.im, op := r.op } (by rw [R.im, R.op])
              exact this
          | some v =>
            dsimp only
            have := base ((popS st).im || (decide (v = kDATA) && decide (number = k354))) ((popS st).op || (decide (v = kTLS) && decide (number = k220)))
            refine this _ ?_
            by_cases hr : rest' = []
            · rw [if_pos hr]
              have hv : r.vb = v := hvb (some v) (by rw [hr]; rfl)
              rw [hv, R.im, R.op]; rfl
            · rw [if_neg hr]
              have ho := hclosed hr
              unfold openI at ho
              simp only [Bool.or_eq_false_iff] at ho
              rw [ho.1, ho.2, Bool.false_and, Bool.false_and, Bool.or_false, Bool.or_false, R.im, R.op]; rfl
end Go.Proofs.YtdpimhlppflidaaDoor
