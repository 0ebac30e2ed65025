/-
  The session's events do not depend on the order in which the directions are read.
-/
import Derived.Test.YtdpimhlppflidaaDoorSmU
namespace Go.Proofs.YtdpimhlppflidaaDoor
set_option linter.unusedSimpArgs false
set_option linter.unusedVariables false
set_option maxRecDepth 20000
open Go
structure CE where
  c : SD
  im : Bool
  new : List (Option Nm)
  ev : List Ev
def cEff (c : SD) (im : Bool) : CE := match c.q with
  | [] => ⟨c, im, [], []⟩
  | l :: q =>
    if l.2 = true then ⟨⟨q, true, c.B⟩, im, [], [err 1]⟩
    else if im = true then (if l.1 = [46] then ⟨⟨q, c.f, c.B⟩, false, [none], [⟨4, 1, [], []⟩]⟩ else ⟨⟨q, c.f, c.B⟩, im, [], [⟨3, 1, [], undotL l.1⟩]⟩)
    else match cmdL l.1 with
      | none => ⟨⟨q, true, c.B⟩, im, [], [err 1]⟩
      | some (v, t) => ⟨⟨q, c.f, c.B⟩, im, [some v], [⟨1, 1, v, t⟩]⟩
theorem readC_eff (st : PS) : readC st = ({ st with c := (cEff st.c st.im).c, im := (cEff st.c st.im).im, items := st.items ++ (cEff st.c st.im).new }, (cEff st.c st.im).ev) := by
  obtain ⟨⟨q, f, B⟩, s, items, gr, op, im, num, tx⟩ := st
  unfold readC cEff
  cases q with
  | nil => dsimp only; rw [List.append_nil]
  | cons l q =>
    dsimp only
    by_cases hl : l.2 = true
    · rw [if_pos hl, if_pos hl]; dsimp only; rw [List.append_nil]; rfl
    · rw [if_neg hl, if_neg hl]
      unfold clientL
      have him : (popC ⟨⟨l :: q, f, B⟩, s, items, gr, op, im, num, tx⟩).im = im := rfl
      rw [him]
      by_cases hi : im = true
      · rw [if_pos hi, if_pos hi]
        by_cases h46 : l.1 = [46]
        · rw [if_pos h46, if_pos h46]; rfl
        · rw [if_neg h46, if_neg h46]; dsimp only; rw [List.append_nil]; rfl
      · rw [if_neg hi, if_neg hi]
        cases hc : cmdL l.1 with
        | none => dsimp only; rw [List.append_nil]; rfl
        | some vt => rfl
structure SE where
  s : SD
  num : Nm
  tx : List Nm
  gr : Bool
  b : Bool
  ev : List Ev
def sEff (s : SD) (gr : Bool) (num : Nm) (tx : List Nm) : SE := match s.q with
  | [] => ⟨s, num, tx, gr, false, []⟩
  | l :: q =>
    if l.2 = true then ⟨⟨q, true, s.B⟩, num, tx, gr, false, [err 2]⟩
    else if l.1.length < 3 ∨ (l.1.take 3).all digitB = false then ⟨⟨q, true, s.B⟩, num, tx, gr, false, [err 2]⟩
    else if okRest (l.1.drop 3) = false ∨ (tx ≠ [] ∧ l.1.take 3 ≠ num) then ⟨⟨q, true, s.B⟩, num, tx, gr, false, [err 2]⟩
    else if moreR (l.1.drop 3) = true then ⟨⟨q, s.f, s.B⟩, l.1.take 3, tx ++ [(l.1.drop 3).drop 1], gr, false, []⟩
    else ⟨⟨q, s.f, s.B⟩, l.1.take 3, [], true, gr, [⟨2, 2, l.1.take 3, joinL (tx ++ [(l.1.drop 3).drop 1])⟩]⟩
def headOk (st : PS) : Prop := st.gr = true → ∃ i r, st.items = i :: r ∧ openI i = false
theorem readS_eff (st : PS) (hh : headOk st) : readS st = ({ st with s := (sEff st.s st.gr st.num st.tx).s, num := (sEff st.s st.gr st.num st.tx).num, tx := (sEff st.s st.gr st.num st.tx).tx, gr := (sEff st.s st.gr st.num st.tx).gr, items := if (sEff st.s st.gr st.num st.tx).b = true then st.items.tail else st.items }, (sEff st.s st.gr st.num st.tx).ev) := by
  obtain ⟨c, ⟨q, f, B⟩, items, gr, op, im, num, tx⟩ := st
  unfold headOk at hh
  dsimp only at hh ⊢
  cases q with
  | nil => rfl
  | cons l q =>
    have hL : readS ⟨c, ⟨l :: q, f, B⟩, items, gr, op, im, num, tx⟩ = doneS (if l.2 = true then (⟨c, ⟨q, f, B⟩, items, gr, op, im, num, tx⟩, [], false) else serverL ⟨c, ⟨q, f, B⟩, items, gr, op, im, num, tx⟩ l.1) := rfl
    rw [hL]
    by_cases hl : l.2 = true
    · have hE : sEff ⟨l :: q, f, B⟩ gr num tx = ⟨⟨q, true, B⟩, num, tx, gr, false, [err 2]⟩ := by unfold sEff; dsimp only; rw [if_pos hl]
      rw [hE, if_pos hl]; rfl
    rw [if_neg hl]
    by_cases b1 : l.1.length < 3 ∨ (l.1.take 3).all digitB = false
    · have hE : sEff ⟨l :: q, f, B⟩ gr num tx = ⟨⟨q, true, B⟩, num, tx, gr, false, [err 2]⟩ := by unfold sEff; dsimp only; rw [if_neg hl, if_pos b1]
      rw [hE]
      have hS : serverL ⟨c, ⟨q, f, B⟩, items, gr, op, im, num, tx⟩ l.1 = (⟨c, ⟨q, f, B⟩, items, gr, op, im, num, tx⟩, [], false) := by unfold serverL; rw [if_pos b1]
      rw [hS]; rfl
    by_cases b2 : okRest (l.1.drop 3) = false ∨ (tx ≠ [] ∧ l.1.take 3 ≠ num)
    · have hE : sEff ⟨l :: q, f, B⟩ gr num tx = ⟨⟨q, true, B⟩, num, tx, gr, false, [err 2]⟩ := by unfold sEff; dsimp only; rw [if_neg hl, if_neg b1, if_pos b2]
      rw [hE]
      have hS : serverL ⟨c, ⟨q, f, B⟩, items, gr, op, im, num, tx⟩ l.1 = (⟨c, ⟨q, f, B⟩, items, gr, op, im, num, tx⟩, [], false) := by unfold serverL; dsimp only; rw [if_neg b1, if_pos b2]
      rw [hS]; rfl
    by_cases b3 : moreR (l.1.drop 3) = true
    · have hE : sEff ⟨l :: q, f, B⟩ gr num tx = ⟨⟨q, f, B⟩, l.1.take 3, tx ++ [(l.1.drop 3).drop 1], gr, false, []⟩ := by unfold sEff; dsimp only; rw [if_neg hl, if_neg b1, if_neg b2, if_pos b3]
      rw [hE]
      have hS : serverL ⟨c, ⟨q, f, B⟩, items, gr, op, im, num, tx⟩ l.1 = (⟨c, ⟨q, f, B⟩, items, gr, op, im, l.1.take 3, tx ++ [(l.1.drop 3).drop 1]⟩, [], true) := by unfold serverL; dsimp only; rw [if_neg b1, if_neg b2, if_pos b3]
      rw [hS]; rfl
    have hE : sEff ⟨l :: q, f, B⟩ gr num tx = ⟨⟨q, f, B⟩, l.1.take 3, [], true, gr, [⟨2, 2, l.1.take 3, joinL (tx ++ [(l.1.drop 3).drop 1])⟩]⟩ := by unfold sEff; dsimp only; rw [if_neg hl, if_neg b1, if_neg b2, if_neg b3]
    rw [hE]
    have hS : serverL ⟨c, ⟨q, f, B⟩, items, gr, op, im, num, tx⟩ l.1 = (if gr = false then ⟨c, ⟨q, f, B⟩, items, true, op, im, l.1.take 3, []⟩ else answerL ⟨c, ⟨q, f, B⟩, items, gr, op, im, l.1.take 3, []⟩ (l.1.take 3), [⟨2, 2, l.1.take 3, joinL (tx ++ [(l.1.drop 3).drop 1])⟩], true) := by unfold serverL; dsimp only; rw [if_neg b1, if_neg b2, if_neg b3]
    rw [hS]
    cases gr with
    | false => rfl
    | true =>
      obtain ⟨i, r, rfl, ho⟩ := hh rfl
      cases i with
      | none => rfl
      | some v =>
        unfold openI at ho
        simp only [Bool.or_eq_false_iff] at ho
        have ea : answerL ⟨c, ⟨q, f, B⟩, some v :: r, true, op, im, l.1.take 3, []⟩ (l.1.take 3) = ⟨c, ⟨q, f, B⟩, r, true, op, im, l.1.take 3, []⟩ := by
          show (⟨c, ⟨q, f, B⟩, r, true, op || (decide (v = kTLS) && decide (l.1.take 3 = k220)), im || (decide (v = kDATA) && decide (l.1.take 3 = k354)), l.1.take 3, []⟩ : PS) = _
          rw [ho.1, ho.2, Bool.false_and, Bool.false_and, Bool.or_false, Bool.or_false]
        rw [if_neg (by decide), ea]
        rfl
def Inv (st : PS) : Prop := ∃ r, RelR st r
theorem closed {st : PS} (I : Inv st) (hc : canC st = true) : ∀ i ∈ st.items, openI i = false := fun i hi => by
  obtain ⟨r, R⟩ := I
  have hlast : lastOk st.items = true := by unfold canC at hc; rw [Bool.and_eq_true] at hc; exact hc.2
  rcases List.eq_nil_or_concat st.items with h | ⟨l, x, h⟩
  · rw [h] at hi; cases hi
  · have h : st.items = l ++ [x] := by rw [h, List.concat_eq_append]
    have hlo := R.lo
    unfold lastOk at hlast
    rw [h] at hi hlo hlast
    rw [List.dropLast_concat] at hlo
    rw [List.getLast?_concat] at hlast
    rcases List.mem_append.1 hi with hi | hi
    · exact hlo i hi
    · rw [List.mem_singleton.1 hi]; simpa using hlast
theorem gr_items {st : PS} (I : Inv st) (hc : canS st = true) (hg : st.gr = true) : st.items ≠ [] := by
  obtain ⟨r, R⟩ := I
  unfold canS at hc
  simp only [Bool.and_eq_true, Bool.or_eq_true, decide_eq_true_eq, Bool.not_eq_true'] at hc
  rcases hc.2 with (h | h) | h
  · exact R.gx hg h
  · rw [hg] at h; cases h
  · exact h
theorem lastOk_of {l : List (Option Nm)} (h : ∀ i ∈ l, openI i = false) : lastOk l = true := by
  unfold lastOk
  cases hl : l.getLast? with
  | none => rfl
  | some i => show (!openI i) = true; rw [h i (List.mem_of_getLast? hl)]; rfl
theorem diamond {st : PS} (I : Inv st) (hc : canC st = true) (hs : canS st = true) :
    canS (readC st).1 = true ∧ canC (readS st).1 = true ∧ (readS (readC st).1).1 = (readC (readS st).1).1 ∧ (readS (readC st).1).2 = (readS st).2 ∧ (readC (readS st).1).2 = (readC st).2 := by
  have hcl := closed I hc
  have hgi := gr_items I hs
  have hO : headOk st := fun hg => by
    cases hI : st.items with
    | nil => exact absurd hI (hgi hg)
    | cons i r => exact ⟨i, r, rfl, hcl i (by rw [hI]; exact List.mem_cons_self)⟩
  have eC := readC_eff st
  have eS := readS_eff st hO
  have hO1 : headOk (readC st).1 := fun hg => by
    rw [eC] at hg ⊢
    obtain ⟨i, r, h1, h2⟩ := hO hg
    exact ⟨i, r ++ (cEff st.c st.im).new, by show st.items ++ _ = _; rw [h1]; rfl, h2⟩
  have eS1 := readS_eff (readC st).1 hO1
  have eC2 := readC_eff (readS st).1
  have f1 : (readC st).1.s = st.s ∧ (readC st).1.gr = st.gr ∧ (readC st).1.num = st.num ∧ (readC st).1.tx = st.tx := by rw [eC]; exact ⟨rfl, rfl, rfl, rfl⟩
  have f2 : (readS st).1.c = st.c ∧ (readS st).1.im = st.im := by rw [eS]; exact ⟨rfl, rfl⟩
  rw [f1.1, f1.2.1, f1.2.2.1, f1.2.2.2] at eS1
  rw [f2.1, f2.2] at eC2
  have hb : (sEff st.s st.gr st.num st.tx).b = true → st.items ≠ [] := fun hb => by
    refine hgi ?_
    unfold sEff at hb
    split at hb
    · cases hb
    · split at hb
      · cases hb
      · split at hb
        · cases hb
        · split at hb
          · cases hb
          · split at hb
            · cases hb
            · exact hb
  refine ⟨?_, ?_, ?_, by rw [eS1, eS], by rw [eC2, eC]⟩
  · rw [eC]
    unfold canS at hs ⊢
    dsimp only
    simp only [Bool.and_eq_true, Bool.or_eq_true, decide_eq_true_eq] at hs ⊢
    refine ⟨hs.1, ?_⟩
    rcases hs.2 with h | h
    · exact .inl h
    · refine .inr fun hh => h (List.append_eq_nil_iff.1 hh).1
  · rw [eS]
    unfold canC at hc ⊢
    dsimp only
    rw [Bool.and_eq_true] at hc ⊢
    refine ⟨hc.1, lastOk_of fun i hi => ?_⟩
    split at hi
    · exact hcl i (List.mem_of_mem_tail hi)
    · exact hcl i hi
  · rw [eS1, eC2, eC, eS]
    dsimp only
    have : (if (sEff st.s st.gr st.num st.tx).b = true then (st.items ++ (cEff st.c st.im).new).tail else st.items ++ (cEff st.c st.im).new) = (if (sEff st.s st.gr st.num st.tx).b = true then st.items.tail else st.items) ++ (cEff st.c st.im).new := by
      by_cases h : (sEff st.s st.gr st.num st.tx).b = true
      · rw [if_pos h, if_pos h]
        cases hI : st.items with
        | nil => exact absurd hI (hb h)
        | cons i r => rfl
      · rw [if_neg h, if_neg h]
    rw [this]
theorem Inv.readC {st : PS} (I : Inv st) (hc : canC st = true) : Inv (readC st).1 := by obtain ⟨r, R⟩ := I; exact ⟨_, (sim_readC R hc).1⟩
theorem Inv.readS {st : PS} (I : Inv st) (hc : canS st = true) : Inv (readS st).1 := by obtain ⟨r, R⟩ := I; exact ⟨_, (sim_readS R hc).1⟩
theorem Inv.push {st : PS} (I : Inv st) (d : Bool) (s : Nm) : Inv (pushD st d s) := by obtain ⟨r, R⟩ := I; exact ⟨_, R.set d _⟩
theorem evC1 (st : PS) : ∀ e ∈ (readC st).2, e.Dir = 1 := by
  rw [readC_eff]
  dsimp only
  unfold cEff
  split
  · intro e h; cases h
  · split
    · intro e h; rw [List.mem_singleton.1 h]; rfl
    · split
      · split
        · intro e h; rw [List.mem_singleton.1 h]
        · intro e h; rw [List.mem_singleton.1 h]
      · split
        · intro e h; rw [List.mem_singleton.1 h]; rfl
        · intro e h; rw [List.mem_singleton.1 h]
theorem serverL_ev (st : PS) (s : Nm) : ∀ e ∈ (serverL st s).2.1, e.Dir = 2 := by
  unfold serverL
  split
  · intro e h; cases h
  · split
    · intro e h; cases h
    · split
      · intro e h; cases h
      · intro e h; rw [List.mem_singleton.1 h]
theorem evS2 (st : PS) : ∀ e ∈ (readS st).2, e.Dir = 2 := by
  have hx : ∀ x : PS × List Ev × Bool, (∀ e ∈ x.2.1, e.Dir = 2) → ∀ e ∈ (doneS x).2, e.Dir = 2 := fun x hx => by
    unfold doneS
    split
    · exact hx
    · intro e h
      rcases List.mem_append.1 h with h | h
      · exact hx e h
      · rw [List.mem_singleton.1 h]; rfl
  unfold readS
  split
  · intro e h; cases h
  · refine hx _ ?_
    split
    · intro e h; cases h
    · exact serverL_ev _ _
theorem ofL_all {l : List Ev} {d : Int} (h : ∀ e ∈ l, e.Dir = d) : ofL l d = l := List.filter_eq_self.2 fun e he => decide_eq_true (h e he)
theorem ofL_none {l : List Ev} {d d' : Int} (h : ∀ e ∈ l, e.Dir = d) (hd : d ≠ d') : ofL l d' = [] := List.filter_eq_nil_iff.2 fun e he => by simp [h e he, hd]
/-- The same session, and the same events in each direction. -/
def EqR (a b : PS × List Ev) : Prop := a.1 = b.1 ∧ ofL a.2 1 = ofL b.2 1 ∧ ofL a.2 2 = ofL b.2 2
theorem EqR.refl (a : PS × List Ev) : EqR a a := ⟨rfl, rfl, rfl⟩
theorem EqR.symm {a b : PS × List Ev} (h : EqR a b) : EqR b a := ⟨h.1.symm, h.2.1.symm, h.2.2.symm⟩
theorem EqR.trans {a b c : PS × List Ev} (h : EqR a b) (g : EqR b c) : EqR a c := ⟨h.1.trans g.1, h.2.1.trans g.2.1, h.2.2.trans g.2.2⟩
def prep (e : List Ev) (x : PS × List Ev) : PS × List Ev := (x.1, e ++ x.2)
theorem EqR.prep {a b : PS × List Ev} (h : EqR a b) (e : List Ev) : EqR (prep e a) (prep e b) :=
  ⟨h.1, by show ofL (e ++ a.2) 1 = ofL (e ++ b.2) 1; rw [ofL_append, ofL_append, h.2.1], by show ofL (e ++ a.2) 2 = ofL (e ++ b.2) 2; rw [ofL_append, ofL_append, h.2.2]⟩
theorem prep_swap {e1 e2 : List Ev} (h1 : ∀ e ∈ e1, e.Dir = 1) (h2 : ∀ e ∈ e2, e.Dir = 2) (x : PS × List Ev) : EqR (prep e1 (prep e2 x)) (prep e2 (prep e1 x)) := by
  have a1 := ofL_none h1 (show (1 : Int) ≠ 2 by decide)
  have a2 := ofL_none h2 (show (2 : Int) ≠ 1 by decide)
  refine ⟨rfl, ?_, ?_⟩
  · show ofL (e1 ++ (e2 ++ x.2)) 1 = ofL (e2 ++ (e1 ++ x.2)) 1
    rw [ofL_append, ofL_append, ofL_append, ofL_append, a2]; rfl
  · show ofL (e1 ++ (e2 ++ x.2)) 2 = ofL (e2 ++ (e1 ++ x.2)) 2
    rw [ofL_append, ofL_append, ofL_append, ofL_append, a1]; rfl
theorem qn_C {st : PS} (h : canC st = true) : qn (readC st).1 + 1 ≤ qn st := by
  have := List.length_pos_iff.2 (canC_ne h)
  unfold qn; rw [(readC_q st).1, (readC_q st).2, List.length_tail]; omega
theorem qn_S {st : PS} (h : canS st = true) : qn (readS st).1 + 1 ≤ qn st := by
  have := List.length_pos_iff.2 (canS_ne h)
  unfold qn; rw [(readS_q st).1, (readS_q st).2, List.length_tail]; omega
/-- The server's line may be read ahead. -/
theorem run_S : ∀ (n : Nat) (st : PS), qn st ≤ n → Inv st → canS st = true → EqR (runP st) (prep (readS st).2 (runP (readS st).1))
  | 0, st, h, I, hs => by have := qn_S hs; omega
  | n + 1, st, h, I, hs => by
    by_cases hc : canC st = true
    · obtain ⟨d1, d2, d3, d4, d5⟩ := diamond I hc hs
      have hq := qn_C hc
      have ih := run_S n (readC st).1 (by omega) (I.readC hc) d1
      rw [d3, d4] at ih
      have e1 : runP st = prep (readC st).2 (runP (readC st).1) := runP_C hc
      have e2 : runP (readS st).1 = prep (readC st).2 (runP (readC (readS st).1).1) := by rw [runP_C d2, d5]; rfl
      rw [e1, e2]
      exact (ih.prep _).trans (prep_swap (evC1 st) (evS2 st) _)
    · rw [runP_S hc hs]; exact EqR.refl _
theorem side_set (st : PS) (d : Bool) (sd : SD) : sideOf (setSide st d sd) d = sd := by cases d <;> rfl
/-- A push leaves what can be read. -/
theorem canC_push {st : PS} (d : Bool) (s : Nm) (h : canC st = true) : canC (pushD st d s) = true := by
  have hne := canC_ne h
  cases d
  · exact h
  · unfold canC at h ⊢
    simp only [Bool.and_eq_true, decide_eq_true_eq] at h ⊢
    refine ⟨⟨⟨fun hh => hne ?_, h.1.1.2⟩, h.1.2⟩, h.2⟩
    have hh : st.c.q ++ _ = [] := hh
    exact (List.append_eq_nil_iff.1 hh).1
theorem canS_push {st : PS} (d : Bool) (s : Nm) (h : canS st = true) : canS (pushD st d s) = true := by
  have hne := canS_ne h
  cases d
  · unfold canS at h ⊢
    simp only [Bool.and_eq_true, decide_eq_true_eq] at h ⊢
    refine ⟨⟨⟨fun hh => hne ?_, h.1.1.2⟩, h.1.2⟩, h.2⟩
    have hh : st.s.q ++ _ = [] := hh
    exact (List.append_eq_nil_iff.1 hh).1
  · exact h
theorem cEff_push {c : SD} (im : Bool) (a : List Ln) (B : Nm) (h : c.q ≠ []) : cEff ⟨c.q ++ a, c.f, B⟩ im = ⟨⟨(cEff c im).c.q ++ a, (cEff c im).c.f, B⟩, (cEff c im).im, (cEff c im).new, (cEff c im).ev⟩ := by
  obtain ⟨q, f, B0⟩ := c
  cases q with
  | nil => exact absurd rfl h
  | cons l q =>
    unfold cEff
    dsimp only
    rw [List.cons_append]
    dsimp only
    by_cases hl : l.2 = true
    · rw [if_pos hl, if_pos hl]
    rw [if_neg hl, if_neg hl]
    by_cases hi : im = true
    · rw [if_pos hi, if_pos hi]
      by_cases h46 : l.1 = [46]
      · rw [if_pos h46, if_pos h46]
      · rw [if_neg h46, if_neg h46]
    · rw [if_neg hi, if_neg hi]
      cases cmdL l.1 with
      | none => rfl
      | some vt => rfl
theorem cEff_B (c : SD) (im : Bool) : (cEff c im).c.B = c.B := by
  unfold cEff
  split
  · rfl
  · split
    · rfl
    · split
      · split <;> rfl
      · split <;> rfl
theorem readC_push {st : PS} (d : Bool) (s : Nm) (h : canC st = true) : readC (pushD st d s) = (pushD (readC st).1 d s, (readC st).2) := by
  have hne := canC_ne h
  rw [readC_eff, readC_eff]
  cases d
  · rfl
  · have e := cEff_push st.im (feedL 512 st.c.B s).1 (feedL 512 st.c.B s).2 hne
    have hB := cEff_B st.c st.im
    show (({ st with c := (cEff ⟨st.c.q ++ (feedL 512 st.c.B s).1, st.c.f, (feedL 512 st.c.B s).2⟩ st.im).c, im := (cEff ⟨st.c.q ++ (feedL 512 st.c.B s).1, st.c.f, (feedL 512 st.c.B s).2⟩ st.im).im, items := st.items ++ (cEff ⟨st.c.q ++ (feedL 512 st.c.B s).1, st.c.f, (feedL 512 st.c.B s).2⟩ st.im).new } : PS), (cEff ⟨st.c.q ++ (feedL 512 st.c.B s).1, st.c.f, (feedL 512 st.c.B s).2⟩ st.im).ev) =
      (({ st with c := ⟨(cEff st.c st.im).c.q ++ (feedL 512 (cEff st.c st.im).c.B s).1, (cEff st.c st.im).c.f, (feedL 512 (cEff st.c st.im).c.B s).2⟩, im := (cEff st.c st.im).im, items := st.items ++ (cEff st.c st.im).new } : PS), (cEff st.c st.im).ev)
    rw [e, hB]
theorem serverL_c (st : PS) (c s : SD) (l : Nm) : serverL { st with c := c, s := s } l = ({ (serverL st l).1 with c := c, s := s }, (serverL st l).2) := by
  obtain ⟨c0, s0, items, gr, op, im, num, tx⟩ := st
  unfold serverL
  dsimp only
  split
  · rfl
  · split
    · rfl
    · split
      · rfl
      · split
        · rfl
        · unfold answerL
          dsimp only
          cases items with
          | nil => rfl
          | cons i r => cases i <;> rfl
theorem readS_push {st : PS} (d : Bool) (s : Nm) (h : canS st = true) : readS (pushD st d s) = (pushD (readS st).1 d s, (readS st).2) := by
  have hne := canS_ne h
  obtain ⟨c, ⟨q, f, B⟩, items, gr, op, im, num, tx⟩ := st
  cases q with
  | nil => exact absurd rfl hne
  | cons l q =>
    -- what a line does, with the sides set aside
    have key : ∀ (c' : SD) (q' : List Ln) (B' : Nm), readS ⟨c', ⟨l :: q', f, B'⟩, items, gr, op, im, num, tx⟩ = ({ (readS ⟨c, ⟨l :: q, f, B⟩, items, gr, op, im, num, tx⟩).1 with c := c', s := ⟨q', (readS ⟨c, ⟨l :: q, f, B⟩, items, gr, op, im, num, tx⟩).1.s.f, B'⟩ }, (readS ⟨c, ⟨l :: q, f, B⟩, items, gr, op, im, num, tx⟩).2) := fun c' q' B' => by
      unfold readS
      dsimp only
      by_cases hl : l.2 = true
      · rw [if_pos hl, if_pos hl]; rfl
      · rw [if_neg hl, if_neg hl]
        have e1 := serverL_c ⟨c, ⟨q, f, B⟩, items, gr, op, im, num, tx⟩ c' ⟨q', f, B'⟩ l.1
        have e2 : popS ⟨c', ⟨l :: q', f, B'⟩, items, gr, op, im, num, tx⟩ = ⟨c', ⟨q', f, B'⟩, items, gr, op, im, num, tx⟩ := rfl
        have e3 : popS ⟨c, ⟨l :: q, f, B⟩, items, gr, op, im, num, tx⟩ = ⟨c, ⟨q, f, B⟩, items, gr, op, im, num, tx⟩ := rfl
        rw [e2, e3]
        have e1 : serverL ⟨c', ⟨q', f, B'⟩, items, gr, op, im, num, tx⟩ l.1 = _ := e1
        have hsq := (serverL_q ⟨c, ⟨q, f, B⟩, items, gr, op, im, num, tx⟩ l.1).2
        rw [e1]
        generalize serverL ⟨c, ⟨q, f, B⟩, items, gr, op, im, num, tx⟩ l.1 = x at *
        have hsf : x.1.s.f = f := by rw [hsq]
        unfold doneS
        dsimp only
        split
        · dsimp only; rw [hsf]
        · rfl
    have hq2 : (readS ⟨c, ⟨l :: q, f, B⟩, items, gr, op, im, num, tx⟩).1.s = ⟨q, (readS ⟨c, ⟨l :: q, f, B⟩, items, gr, op, im, num, tx⟩).1.s.f, B⟩ ∧ (readS ⟨c, ⟨l :: q, f, B⟩, items, gr, op, im, num, tx⟩).1.c = c := by
      have := key c q B
      constructor
      · conv => lhs; rw [this]
      · conv => lhs; rw [this]
    cases d
    · have hp : pushD ⟨c, ⟨l :: q, f, B⟩, items, gr, op, im, num, tx⟩ false s = ⟨c, ⟨l :: (q ++ (feedL 512 B s).1), f, (feedL 512 B s).2⟩, items, gr, op, im, num, tx⟩ := rfl
      rw [hp, key]
      generalize readS ⟨c, ⟨l :: q, f, B⟩, items, gr, op, im, num, tx⟩ = y at *
      obtain ⟨⟨yc, ys, y3, y4, y5, y6, y7, y8⟩, ye⟩ := y
      obtain ⟨h1, h2⟩ := hq2
      dsimp only at h1 h2
      subst h2
      show _ = (({ (⟨yc, ys, y3, y4, y5, y6, y7, y8⟩ : PS) with s := ⟨ys.q ++ (feedL 512 ys.B s).1, ys.f, (feedL 512 ys.B s).2⟩ } : PS), ye)
      rw [h1]
    · have hp : pushD ⟨c, ⟨l :: q, f, B⟩, items, gr, op, im, num, tx⟩ true s = ⟨⟨c.q ++ (feedL 512 c.B s).1, c.f, (feedL 512 c.B s).2⟩, ⟨l :: q, f, B⟩, items, gr, op, im, num, tx⟩ := rfl
      rw [hp, key]
      generalize readS ⟨c, ⟨l :: q, f, B⟩, items, gr, op, im, num, tx⟩ = y at *
      obtain ⟨⟨yc, ys, y3, y4, y5, y6, y7, y8⟩, ye⟩ := y
      obtain ⟨h1, h2⟩ := hq2
      dsimp only at h1 h2
      subst h2
      show _ = (({ (⟨yc, ys, y3, y4, y5, y6, y7, y8⟩ : PS) with c := ⟨yc.q ++ (feedL 512 yc.B s).1, yc.f, (feedL 512 yc.B s).2⟩ } : PS), ye)
      dsimp only
      rw [← h1]
/-- What is read ahead of a push changes nothing. -/
theorem push_run (d : Bool) (s : Nm) : ∀ (n : Nat) (st : PS), qn st ≤ n → Inv st → EqR (prep (runP st).2 (runP (pushD (runP st).1 d s))) (runP (pushD st d s))
  | n, st, h, I => by
    by_cases hc : canC st = true
    · have hq := qn_C hc
      have ih := push_run d s (n - 1) (readC st).1 (by omega) (I.readC hc)
      have e1 : runP st = prep (readC st).2 (runP (readC st).1) := runP_C hc
      have e2 : runP (pushD st d s) = prep (readC st).2 (runP (pushD (readC st).1 d s)) := by
        rw [runP_C (canC_push d s hc), readC_push d s hc]; rfl
      rw [e1, e2]
      have := ih.prep (readC st).2
      have e3 : prep (prep (readC st).2 (runP (readC st).1)).2 (runP (pushD (prep (readC st).2 (runP (readC st).1)).1 d s)) = prep (readC st).2 (prep (runP (readC st).1).2 (runP (pushD (runP (readC st).1).1 d s))) := by
        show (_, ((readC st).2 ++ (runP (readC st).1).2) ++ _) = (_, (readC st).2 ++ ((runP (readC st).1).2 ++ _))
        rw [List.append_assoc]; rfl
      rw [e3]; exact this
    · by_cases hs : canS st = true
      · have hq := qn_S hs
        have ih := push_run d s (n - 1) (readS st).1 (by omega) (I.readS hs)
        have e1 : runP st = prep (readS st).2 (runP (readS st).1) := runP_S hc hs
        have e2 := run_S _ (pushD st d s) (Nat.le_refl _) (I.push d s) (canS_push d s hs)
        rw [readS_push d s hs] at e2
        rw [e1]
        have := ih.prep (readS st).2
        have e3 : prep (prep (readS st).2 (runP (readS st).1)).2 (runP (pushD (prep (readS st).2 (runP (readS st).1)).1 d s)) = prep (readS st).2 (prep (runP (readS st).1).2 (runP (pushD (runP (readS st).1).1 d s))) := by
          show (_, ((readS st).2 ++ (runP (readS st).1).2) ++ _) = (_, (readS st).2 ++ ((runP (readS st).1).2 ++ _))
          rw [List.append_assoc]; rfl
        rw [e3]
        exact this.trans e2.symm
      · rw [runP_end hc hs]; exact EqR.refl _
termination_by n st => qn st
decreasing_by
  · exact qn_C hc
  · exact qn_S hs
/-! ### Whole inputs -/
def pushAll (cl sv : Nm) : PS := pushD (pushD st0 true cl) false sv
theorem feedL_nil (B : Nm) : feedL 512 B [] = ([], B) := rfl
theorem pushAll_C (cl sv s : Nm) : pushD (pushAll cl sv) true s = pushAll (cl ++ s) sv := by
  have := feedL_append 512 cl s []
  show (⟨⟨[] ++ (feedL 512 [] cl).1 ++ (feedL 512 (feedL 512 [] cl).2 s).1, false, (feedL 512 (feedL 512 [] cl).2 s).2⟩, ⟨[] ++ (feedL 512 [] sv).1, false, (feedL 512 [] sv).2⟩, [], false, false, false, [], []⟩ : PS) = ⟨⟨[] ++ (feedL 512 [] (cl ++ s)).1, false, (feedL 512 [] (cl ++ s)).2⟩, ⟨[] ++ (feedL 512 [] sv).1, false, (feedL 512 [] sv).2⟩, [], false, false, false, [], []⟩
  rw [this]; rfl
theorem pushAll_S (cl sv s : Nm) : pushD (pushAll cl sv) false s = pushAll cl (sv ++ s) := by
  have := feedL_append 512 sv s []
  show (⟨⟨[] ++ (feedL 512 [] cl).1, false, (feedL 512 [] cl).2⟩, ⟨[] ++ (feedL 512 [] sv).1 ++ (feedL 512 (feedL 512 [] sv).2 s).1, false, (feedL 512 (feedL 512 [] sv).2 s).2⟩, [], false, false, false, [], []⟩ : PS) = ⟨⟨[] ++ (feedL 512 [] cl).1, false, (feedL 512 [] cl).2⟩, ⟨[] ++ (feedL 512 [] (sv ++ s)).1, false, (feedL 512 [] (sv ++ s)).2⟩, [], false, false, false, [], []⟩
  rw [this]; rfl
theorem pushAll0 : pushAll [] [] = st0 := rfl
theorem InvAll (cl sv : Nm) : Inv (pushAll cl sv) := Inv.push (Inv.push (st := st0) ⟨r0, rel0⟩ true cl) false sv
theorem wtAll (cl sv : Nm) : wt (pushAll cl sv) ≤ cl.length + sv.length := by
  have h1 := pushD_wt st0 true cl
  have h2 := pushD_wt (pushD st0 true cl) false sv
  rw [wt0] at h1
  show wt (pushD (pushD st0 true cl) false sv) ≤ _
  omega
/-- What was fed by pieces stands to what came at once. -/
def Fed (x : PS × List Ev) (cl sv : Nm) : Prop := EqR x (runP (pushAll cl sv))
theorem Fed.start : Fed (st0, []) [] [] := by
  unfold Fed
  rw [pushAll0, runP_end (nt rfl) (nt rfl)]; exact EqR.refl _
theorem Fed.wt {x : PS × List Ev} {cl sv : Nm} (F : Fed x cl sv) : wt x.1 ≤ cl.length + sv.length := by
  rw [F.1]
  exact Nat.le_trans (runP_wt _ _ (Nat.le_refl _)) (wtAll cl sv)
theorem Fed.next {x : PS × List Ev} {cl sv : Nm} (F : Fed x cl sv) (d : Bool) (s : Nm) (hl : cl.length + sv.length + s.length ≤ 8000) : Fed ((feedP x.1 d s).1, x.2 ++ (feedP x.1 d s).2) (if d = true then cl ++ s else cl) (if d = true then sv else sv ++ s) := by
  have hw := F.wt
  have hw1 := pushD_wt x.1 d s
  have hw2 := runP_wt _ (pushD x.1 d s) (Nat.le_refl _)
  have hlwq : lw (sideOf (runP (pushD x.1 d s)).1 d).q ≤ Go.Proofs.YtdpimhlppflidaaDoor.wt (runP (pushD x.1 d s)).1 := by
    unfold Go.Proofs.YtdpimhlppflidaaDoor.wt; cases d
    · have e1 : (sideOf (runP (pushD x.1 false s)).1 false) = (runP (pushD x.1 false s)).1.s := rfl
      rw [e1]; omega
    · have e1 : (sideOf (runP (pushD x.1 true s)).1 true) = (runP (pushD x.1 true s)).1.c := rfl
      rw [e1]; omega
  have hp : feedP x.1 d s = runP (pushD x.1 d s) := by
    unfold feedP pendD
    rw [if_neg (fun hh => by have := hh.1; omega)]
  rw [hp]
  have hall : pushAll (if d = true then cl ++ s else cl) (if d = true then sv else sv ++ s) = pushD (pushAll cl sv) d s := by
    cases d
    · exact (pushAll_S cl sv s).symm
    · exact (pushAll_C cl sv s).symm
  unfold Fed
  rw [hall]
  have k := push_run d s _ (pushAll cl sv) (Nat.le_refl _) (InvAll cl sv)
  rw [← F.1] at k
  refine EqR.trans ?_ k
  refine ⟨rfl, ?_, ?_⟩
  · show ofL (x.2 ++ _) 1 = ofL ((runP (pushAll cl sv)).2 ++ _) 1
    rw [ofL_append, ofL_append, F.2.1]
  · show ofL (x.2 ++ _) 2 = ofL ((runP (pushAll cl sv)).2 ++ _) 2
    rw [ofL_append, ofL_append, F.2.2]
/-- Every event has a direction. -/
def Dirs (l : List Ev) : Prop := ∀ e ∈ l, e.Dir = 1 ∨ e.Dir = 2
theorem runP_dirs : ∀ (n : Nat) (st : PS), qn st ≤ n → Dirs (runP st).2
  | 0, st, h => by rw [runP_fuel 0 st h]; intro e h; cases h
  | n + 1, st, h => by
    by_cases h1 : canC st = true
    · have := qn_C h1
      have ih := runP_dirs n (readC st).1 (by omega)
      rw [runP_C h1]
      intro e he
      rcases List.mem_append.1 he with he | he
      · exact .inl (evC1 st e he)
      · exact ih e he
    · by_cases h2 : canS st = true
      · have := qn_S h2
        have ih := runP_dirs n (readS st).1 (by omega)
        rw [runP_S h1 h2]
        intro e he
        rcases List.mem_append.1 he with he | he
        · exact .inr (evS2 st e he)
        · exact ih e he
      · rw [runP_end h1 h2]; intro e h; cases h
theorem feedP_dirs (st : PS) (d : Bool) (s : Nm) : Dirs (feedP st d s).2 := by
  have := runP_dirs _ (pushD st d s) (Nat.le_refl _)
  unfold feedP pendD
  split
  · intro e he
    rcases List.mem_append.1 he with he | he
    · exact this e he
    · rw [List.mem_singleton.1 he]; cases d
      · exact .inr rfl
      · exact .inl rfl
  · exact this
theorem dirs_len : ∀ l : List Ev, Dirs l → (ofL l 1).length + (ofL l 2).length = l.length
  | [], _ => rfl
  | e :: l, h => by
    have ih := dirs_len l fun x hx => h x (List.mem_cons_of_mem _ hx)
    unfold ofL at *
    rw [List.filter_cons, List.filter_cons]
    rcases h e List.mem_cons_self with he | he
    · rw [if_pos (decide_eq_true he), if_neg (by rw [he]; decide), List.length_cons, List.length_cons]; omega
    · rw [if_neg (by rw [he]; decide), if_pos (decide_eq_true he), List.length_cons, List.length_cons]; omega
end Go.Proofs.YtdpimhlppflidaaDoor
