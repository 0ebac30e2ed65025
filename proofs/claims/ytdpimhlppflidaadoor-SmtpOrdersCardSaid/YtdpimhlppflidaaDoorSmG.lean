/-
  The program's session: a line of the server, whole; Feed.
-/
import Derived.Test.YtdpimhlppflidaaDoorSmF
namespace Go.Proofs.YtdpimhlppflidaaDoor
set_option linter.unusedSimpArgs false
set_option linter.unusedVariables false
set_option maxRecDepth 20000
open Go
open Go.IntKind (wrap)
section
variable {o : Tag} {k : Nat} {h : Heap} {p : SesA} {st : PS}
theorem server_c [Gh] {ob : Addr} {evs : List Ev} (S : SesF o k h p st) (A : OutF o k h ob evs) (s : Nm) (hs : s.length ≤ 2 ^ 26) (htx : tw st.tx ≤ 2 ^ 26) (hev : evs.length ≤ 2 ^ 26) {Q : Value → Heap → Prop}
    (hk : ∀ o' h', Old h o o' → Fr (SR o k) h h' → SesF o' k h' p (serverL st s).1 → OutF o' k h' ob (evs ++ (serverL st s).2.1) → Q (.bool (serverL st s).2.2) h') :
    CallT Tryd.prog fn_smtp_Session_server #[.pointer (some p.a), .string (bs s), .func (.func fn_smtp_Session_Feed_1) #[] #[.pointer (some ob)]] h Q := by
  apply smtp_Session_server_s
  unfold smtp_Session_server_v
  unfold serverL at hk
  have bad1 : (s.length < 3 ∨ (s.take 3).all digitB = false) → Q (.bool false) h := fun hb => by
    rw [if_pos hb] at hk
    exact hk o h (Old.refl _ _) (Fr.refl _ _) S (by simpa using A)
  rw [bs_size]
  refine ifD (fun e => bad1 (.inl (by omega))) fun e => ?_
  refine LoopV.go (fun n st' h' => ∃ i : Nat, st' = (i : Int) ∧ i ≤ 3 ∧ n = 3 - i ∧ h' = h ∧ (s.take i).all digitB = true) 3 ⟨0, rfl, by omega, rfl, rfl, by simp⟩ ?_
  rintro n - h1 ⟨i, rfl, hi, rfl, rfl, hall⟩ Kn hK
  unfold smtp_Session_server_l1
  refine ifD (fun e3 => ?_) fun e3 => ?_
  · have hlt : i < s.length := by omega
    have hlt3 : i < (s.take 3).length := by rw [List.length_take]; omega
    have hg : (s.take 3)[i] = s[i] := List.getElem_take
    refine ixS s i rfl hlt ?_
    refine ifD (fun e4 => bad1 (.inr (all_bad hlt3 ?_))) fun e4 => ?_
    · rw [hg, digI, decide_eq_false_iff_not]; omega
    refine ixS s i rfl hlt ?_
    refine ifD (fun e5 => bad1 (.inr (all_bad hlt3 ?_))) fun e5 => ?_
    · rw [hg, digI, decide_eq_false_iff_not]; omega
    rw [wr (by omega) (by omega)]
    refine hK (3 - (i + 1)) _ _ (by omega) ⟨i + 1, rfl, by omega, rfl, rfl, all_next hlt ?_ hall⟩
    rw [digI, decide_eq_true_eq]; omega
  have hi3 : i = 3 := by omega
  subst hi3
  rw [if_neg (by rw [hall]; intro hb; rcases hb with hb | hb; omega; cases hb)] at hk
  unfold smtp_Session_server_b2
  refine slT s 3 rfl (by omega) (slF s 3 rfl (by omega) ?_)
  have hrl : (s.drop 3).length ≤ s.length := by rw [List.length_drop]; omega
  generalize hnum : s.take 3 = number at *
  generalize hrest : s.drop 3 = rest at *
  have bad2 : (okRest rest = false ∨ (st.tx ≠ [] ∧ number ≠ st.num)) → Q (.bool false) h1 := fun hb => by
    rw [if_pos hb] at hk
    exact hk o h1 (Old.refl _ _) (Fr.refl _ _) S (by simpa using A)
  have b4 : okRest rest = true → ¬ (st.tx ≠ [] ∧ number ≠ st.num) → smtp_Session_server_b4 (some p.a) (.func (.func fn_smtp_Session_Feed_1) #[] #[.pointer (some ob)]) (bs number) (bs rest) (moreR rest) Q h1 := fun h1' h2' => by
    rw [if_neg (by rw [h1']; intro hb; rcases hb with hb | hb; cases hb; exact h2' hb)] at hk
    refine server_b4 S A number rest (by omega) htx hev (fun hm o' h' O F S' A' => ?_) fun hm o' h' st' O F S' A' est => ?_
    · rw [if_pos hm] at hk
      exact hk o' h' O F S' (by simpa using A')
    · rw [if_neg (by rw [hm]; decide)] at hk
      exact hk o' h' O F (est ▸ S') A'
  have b3 : okRest rest = true → ¬ (st.tx ≠ [] ∧ number ≠ st.num) → smtp_Session_server_b3 (some p.a) (.func (.func fn_smtp_Session_Feed_1) #[] #[.pointer (some ob)]) (bs number) (bs rest) Q h1 := fun h1' h2' => by
    have := b4 h1' h2'
    unfold smtp_Session_server_b3
    cases rest with
    | nil => refine ifSn (m := []) (fun h => absurd rfl h) fun _ => this
    | cons c r =>
      refine ifSn (m := []) (fun _ => ?_) fun h => by cases h
      refine ixS (c :: r) 0 rfl (by simp) ?_
      have e : (byteI (c :: r)[0] == 45) = moreR (c :: r) := by
        unfold moreR
        dsimp only
        show (byteI c == 45) = _
        rw [Bool.eq_iff_iff, beq_iff_eq, decide_eq_true_iff]
        exact ⟨fun h => byteI_inj (by rw [h]; rfl), fun h => by rw [h]; rfl⟩
      rw [e]; exact this
  have tail : okRest rest = true → nn (some p.a) fun t46 => ldL h1 (Addr.add t46 8) fun t48a t48n t48c => if (decide (((t48n : Nat) : Int) > 0)) = true then (nn (some p.a) fun t54 => ldS h1 (Addr.add t54 7) fun t56 => if (!((bs number).toList == t56.toList)) = true then (Q (.bool false) h1) else (smtp_Session_server_b3 (some p.a) (.func (.func fn_smtp_Session_Feed_1) #[] #[.pointer (some ob)]) (bs number) (bs rest) Q h1)) else (smtp_Session_server_b3 (some p.a) (.func (.func fn_smtp_Session_Feed_1) #[] #[.pointer (some ob)]) (bs number) (bs rest) Q h1) := fun hok => by
    refine nn_mk (S.cellTx fun q c hc _ => ifD (fun e5 => ?_) fun e5 => ?_)
    · have htn : st.tx ≠ [] := fun h => by rw [h] at e5; exact absurd e5 (by decide)
      refine nn_mk (S.cellNum (ifSn (fun e6 => bad2 (.inr ⟨htn, e6⟩)) fun e6 => b3 hok fun h => h.2 e6))
    · refine b3 hok fun h => e5 (by have := List.length_pos_iff.2 h.1; omega)
  cases rest with
  | nil => exact ifSn (m := []) (fun h => absurd rfl h) fun _ => tail rfl
  | cons c r =>
    have ok32 : byteI c = 32 → okRest (c :: r) = true := fun h => by unfold okRest; rw [decide_eq_true_eq]; exact .inl (byteI_inj (by rw [h]; rfl))
    have ok45 : byteI c = 45 → okRest (c :: r) = true := fun h => by unfold okRest; rw [decide_eq_true_eq]; exact .inr (byteI_inj (by rw [h]; rfl))
    refine ifSn (m := []) (fun _ => ?_) fun h => by cases h
    refine ixS (c :: r) 0 rfl (by simp) (ifNe (fun e5 => ?_) fun e5 => tail (ok32 e5))
    refine ixS (c :: r) 0 rfl (by simp) (ifNe (fun e6 => bad2 (.inl ?_)) fun e6 => tail (ok45 e6))
    unfold okRest
    rw [decide_eq_false_iff_not]
    rintro (rfl | rfl)
    · exact e5 rfl
    · exact e6 rfl
end
/-! ### Feed -/
def failC (st : PS) : PS := { st with c := { st.c with f := true } }
def failS (st : PS) : PS := { st with s := { st.s with f := true } }
def popC (st : PS) : PS := { st with c := { st.c with q := st.c.q.tail } }
def popS (st : PS) : PS := { st with s := { st.s with q := st.s.q.tail } }
def err (d : Int) : Ev := ⟨5, d, [], []⟩
/-- What the reading of a line makes of a session. -/
def doneC (r : PS × List Ev × Bool) : PS × List Ev := if r.2.2 = true then (r.1, r.2.1) else (failC r.1, r.2.1 ++ [err 1])
def doneS (r : PS × List Ev × Bool) : PS × List Ev := if r.2.2 = true then (r.1, r.2.1) else (failS r.1, r.2.1 ++ [err 2])
def readC (st : PS) : PS × List Ev := match st.c.q with
  | [] => (st, [])
  | l :: _ => doneC (if l.2 = true then (popC st, [], false) else clientL (popC st) l.1)
def readS (st : PS) : PS × List Ev := match st.s.q with
  | [] => (st, [])
  | l :: _ => doneS (if l.2 = true then (popS st, [], false) else serverL (popS st) l.1)
theorem clientL_q (st : PS) (s : Nm) : (clientL st s).1.c = st.c ∧ (clientL st s).1.s = st.s := by
  unfold clientL; split
  · split <;> exact ⟨rfl, rfl⟩
  · split <;> exact ⟨rfl, rfl⟩
theorem answerL_q (st : PS) (n : Nm) : (answerL st n).c = st.c ∧ (answerL st n).s = st.s := by
  unfold answerL; split <;> exact ⟨rfl, rfl⟩
theorem serverL_q (st : PS) (s : Nm) : (serverL st s).1.c = st.c ∧ (serverL st s).1.s = st.s := by
  unfold serverL; split
  · exact ⟨rfl, rfl⟩
  · split
    · exact ⟨rfl, rfl⟩
    · split
      · exact ⟨rfl, rfl⟩
      · dsimp only
        split
        · exact ⟨rfl, rfl⟩
        · exact answerL_q _ _
def qn (st : PS) : Nat := st.c.q.length + st.s.q.length
theorem canC_ne {st : PS} (h : canC st = true) : st.c.q ≠ [] := by
  unfold canC at h; simp only [Bool.and_eq_true, decide_eq_true_eq] at h; exact h.1.1.1
theorem canS_ne {st : PS} (h : canS st = true) : st.s.q ≠ [] := by
  unfold canS at h; simp only [Bool.and_eq_true, decide_eq_true_eq] at h; exact h.1.1.1
theorem doneC_q (r : PS × List Ev × Bool) : (doneC r).1.c.q = r.1.c.q ∧ (doneC r).1.s.q = r.1.s.q := by unfold doneC; split <;> exact ⟨rfl, rfl⟩
theorem doneS_q (r : PS × List Ev × Bool) : (doneS r).1.c.q = r.1.c.q ∧ (doneS r).1.s.q = r.1.s.q := by unfold doneS; split <;> exact ⟨rfl, rfl⟩
theorem readC_q (st : PS) : (readC st).1.c.q = st.c.q.tail ∧ (readC st).1.s.q = st.s.q := by
  unfold readC
  cases hq : st.c.q with
  | nil => exact ⟨hq, rfl⟩
  | cons l q =>
    dsimp only
    rw [(doneC_q _).1, (doneC_q _).2]
    have hp : (popC st).c.q = q := by show st.c.q.tail = q; rw [hq]; rfl
    split
    · exact ⟨hp, rfl⟩
    · rw [(clientL_q _ _).1, (clientL_q _ _).2]; exact ⟨hp, rfl⟩
theorem readS_q (st : PS) : (readS st).1.s.q = st.s.q.tail ∧ (readS st).1.c.q = st.c.q := by
  unfold readS
  cases hq : st.s.q with
  | nil => exact ⟨hq, rfl⟩
  | cons l q =>
    dsimp only
    rw [(doneS_q _).1, (doneS_q _).2]
    have hp : (popS st).s.q = q := by show st.s.q.tail = q; rw [hq]; rfl
    split
    · exact ⟨hp, rfl⟩
    · rw [(serverL_q _ _).1, (serverL_q _ _).2]; exact ⟨hp, rfl⟩
/-- Lines are read while they can be. -/
def runP (st : PS) : PS × List Ev :=
  if h1 : canC st = true then ((runP (readC st).1).1, (readC st).2 ++ (runP (readC st).1).2)
  else if h2 : canS st = true then ((runP (readS st).1).1, (readS st).2 ++ (runP (readS st).1).2)
  else (st, [])
termination_by qn st
decreasing_by
  · have := List.length_pos_iff.2 (canC_ne h1)
    unfold qn; rw [(readC_q st).1, (readC_q st).2, List.length_tail]; omega
  · have := List.length_pos_iff.2 (canS_ne h2)
    unfold qn; rw [(readS_q st).1, (readS_q st).2, List.length_tail]; omega
theorem runP_C {st : PS} (h : canC st = true) : runP st = ((runP (readC st).1).1, (readC st).2 ++ (runP (readC st).1).2) := by rw [runP, dif_pos h]
theorem runP_S {st : PS} (h1 : ¬ canC st = true) (h : canS st = true) : runP st = ((runP (readS st).1).1, (readS st).2 ++ (runP (readS st).1).2) := by rw [runP, dif_neg h1, dif_pos h]
theorem runP_end {st : PS} (h1 : ¬ canC st = true) (h : ¬ canS st = true) : runP st = (st, []) := by rw [runP, dif_neg h1, dif_neg h]
def lw (l : List Ln) : Nat := (l.map fun x => x.1.length + 1).sum
/-- The bytes that a session holds. -/
def wt (st : PS) : Nat := lw st.c.q + lw st.s.q + st.items.length + tw st.tx + st.c.B.length + st.s.B.length
theorem lw_cons (x : Ln) (l : List Ln) : lw (x :: l) = x.1.length + 1 + lw l := by unfold lw; rw [List.map_cons, List.sum_cons]
theorem lw_append (a b : List Ln) : lw (a ++ b) = lw a + lw b := by unfold lw; rw [List.map_append, List.sum_append]
theorem lw_len : ∀ l : List Ln, l.length ≤ lw l
  | [] => Nat.zero_le _
  | x :: l => by have := lw_len l; rw [lw_cons, List.length_cons]; omega
theorem clientL_wt (st : PS) (s : Nm) : wt (clientL st s).1 ≤ wt st + 1 ∧ (clientL st s).2.1.length ≤ 1 := by
  unfold clientL wt; split
  · split
    · simp only [List.length_append, List.length_singleton]; omega
    · simp only [List.length_singleton]; omega
  · split
    · simp
    · simp only [List.length_append, List.length_singleton]; omega
theorem serverL_wt (st : PS) (s : Nm) : wt (serverL st s).1 ≤ wt st + s.length + 1 ∧ (serverL st s).2.1.length ≤ 1 := by
  unfold serverL; split
  · exact ⟨by unfold wt; simp only; omega, by simp⟩
  · split
    · exact ⟨by simp only; omega, by simp⟩
    · split
      · refine ⟨?_, by simp⟩
        unfold wt
        simp only [tw_append, tw_one, List.length_drop]; omega
      · refine ⟨?_, by simp⟩
        dsimp only
        split
        · unfold wt; simp only [show tw [] = 0 from rfl]; omega
        · unfold answerL
          dsimp only
          split
          · unfold wt; simp only [show tw [] = 0 from rfl]; omega
          · rename_i r hr; unfold wt; simp only [show tw [] = 0 from rfl, hr, List.length_cons]; omega
          · rename_i v r hr; unfold wt; simp only [show tw [] = 0 from rfl, hr, List.length_cons]; omega
theorem readC_wt (st : PS) (h : st.c.q ≠ []) : wt (readC st).1 ≤ wt st ∧ (readC st).2.length ≤ 2 := by
  unfold readC
  cases hq : st.c.q with
  | nil => exact absurd hq h
  | cons l q =>
    dsimp only
    have hp : wt (popC st) + (l.1.length + 1) = wt st := by
      unfold wt popC; dsimp only; rw [hq, lw_cons, List.tail_cons]; omega
    have h2 : wt (if l.2 = true then (popC st, [], false) else clientL (popC st) l.1).1 ≤ wt st ∧ (if l.2 = true then (popC st, ([] : List Ev), false) else clientL (popC st) l.1).2.1.length ≤ 1 := by
      split
      · exact ⟨by dsimp only; omega, by simp⟩
      · have := clientL_wt (popC st) l.1; omega
    generalize (if l.2 = true then (popC st, ([] : List Ev), false) else clientL (popC st) l.1) = r at *
    unfold doneC
    split
    · exact ⟨h2.1, by dsimp only; omega⟩
    · exact ⟨h2.1, by dsimp only; rw [List.length_append, List.length_singleton]; omega⟩
theorem readS_wt (st : PS) (h : st.s.q ≠ []) : wt (readS st).1 ≤ wt st ∧ (readS st).2.length ≤ 2 := by
  unfold readS
  cases hq : st.s.q with
  | nil => exact absurd hq h
  | cons l q =>
    dsimp only
    have hp : wt (popS st) + (l.1.length + 1) = wt st := by
      unfold wt popS; dsimp only; rw [hq, lw_cons, List.tail_cons]; omega
    have h2 : wt (if l.2 = true then (popS st, [], false) else serverL (popS st) l.1).1 ≤ wt st ∧ (if l.2 = true then (popS st, ([] : List Ev), false) else serverL (popS st) l.1).2.1.length ≤ 1 := by
      split
      · exact ⟨by dsimp only; omega, by simp⟩
      · have := serverL_wt (popS st) l.1; omega
    generalize (if l.2 = true then (popS st, ([] : List Ev), false) else serverL (popS st) l.1) = r at *
    unfold doneS
    split
    · exact ⟨h2.1, by dsimp only; omega⟩
    · exact ⟨h2.1, by dsimp only; rw [List.length_append, List.length_singleton]; omega⟩
end Go.Proofs.YtdpimhlppflidaaDoor
