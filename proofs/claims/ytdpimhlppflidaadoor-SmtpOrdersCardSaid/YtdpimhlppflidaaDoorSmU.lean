/-
  Feed of the reference; the law Feeds.
-/
import Derived.Test.YtdpimhlppflidaaDoorSmT
namespace Go.Proofs.YtdpimhlppflidaaDoor
set_option linter.unusedSimpArgs false
set_option linter.unusedVariables false
set_option maxRecDepth 20000
open Go
open Go.IntKind (wrap)
theorem runP_wt : ∀ (n : Nat) (st : PS), qn st ≤ n → wt (runP st).1 ≤ wt st
  | 0, st, h => by rw [runP_fuel 0 st h]; exact Nat.le_refl _
  | n + 1, st, h => by
    by_cases h1 : canC st = true
    · have h3 := List.length_pos_iff.2 (canC_ne h1)
      have h4 := readC_wt st (canC_ne h1)
      rw [runP_C h1]
      exact Nat.le_trans (runP_wt n (readC st).1 (by unfold qn at *; rw [(readC_q st).1, (readC_q st).2, List.length_tail]; omega)) h4.1
    · by_cases h2 : canS st = true
      · have h3 := List.length_pos_iff.2 (canS_ne h2)
        have h4 := readS_wt st (canS_ne h2)
        rw [runP_S h1 h2]
        exact Nat.le_trans (runP_wt n (readS st).1 (by unfold qn at *; rw [(readS_q st).1, (readS_q st).2, List.length_tail]; omega)) h4.1
      · rw [runP_end h1 h2]; exact Nat.le_refl _
theorem pendD_wt (x : PS × List Ev) (d : Bool) : wt (pendD x d).1 = wt x.1 := by
  unfold pendD
  split
  · cases d <;> rfl
  · rfl
theorem feedP_wt (st : PS) (d : Bool) (s : Nm) : wt (feedP st d s).1 ≤ wt st + s.length := by
  unfold feedP
  rw [pendD_wt]
  exact Nat.le_trans (runP_wt _ _ (Nat.le_refl _)) (pushD_wt st d s)
theorem runP_len : ∀ (n : Nat) (st : PS), qn st ≤ n → (runP st).2.length ≤ 2 * qn st
  | 0, st, h => by rw [runP_fuel 0 st h]; exact Nat.zero_le _
  | n + 1, st, h => by
    by_cases h1 : canC st = true
    · have h3 := List.length_pos_iff.2 (canC_ne h1)
      have h4 := readC_wt st (canC_ne h1)
      have hq : qn (readC st).1 + 1 ≤ qn st := by unfold qn; rw [(readC_q st).1, (readC_q st).2, List.length_tail]; omega
      have := runP_len n (readC st).1 (by omega)
      rw [runP_C h1, List.length_append]; omega
    · by_cases h2 : canS st = true
      · have h3 := List.length_pos_iff.2 (canS_ne h2)
        have h4 := readS_wt st (canS_ne h2)
        have hq : qn (readS st).1 + 1 ≤ qn st := by unfold qn; rw [(readS_q st).1, (readS_q st).2, List.length_tail]; omega
        have := runP_len n (readS st).1 (by omega)
        rw [runP_S h1 h2, List.length_append]; omega
      · rw [runP_end h1 h2]; exact Nat.zero_le _
theorem feedP_len (st : PS) (d : Bool) (s : Nm) : (feedP st d s).2.length ≤ 2 * (wt st + s.length) + 1 := by
  have h1 := runP_len _ (pushD st d s) (Nat.le_refl _)
  have h2 := qn_wt (pushD st d s)
  have h3 := pushD_wt st d s
  unfold feedP pendD
  split
  · rw [List.length_append, List.length_singleton]; omega
  · omega
section
variable {o o' : Tag} {k : Nat} {h h' : Heap} {R : Nat → Prop} {p : SesA} {r : RS}
theorem can_c [Gh] (S : RSesF o k h p r) {st : PS} (Re : RelR st r) (d : Bool) (hb : r.rp < 2 ^ 60) {Q : Value → Heap → Prop} (hk : Q (.bool (if d = true then canC st else canS st)) h) : CallT Tryd.prog fn_ref30_Session_can #[.pointer (some p.a), .int .i64 (dI2 d)] h Q := by
  cases d
  · exact canS_c S hb (by rw [sim_canS Re]; exact hk)
  · exact canC_c S hb (by rw [sim_canC Re]; exact hk)
theorem rfail_c [Gh] (S : RSesF o k h p r) (d : Bool) {Q : Value → Heap → Prop} (hk : GivesR o k h p (rfail r d) Q) : CallT Tryd.prog fn_ref30_Session_fail #[.pointer (some p.a), .int .i64 (dI2 d)] h Q := by
  cases d
  · exact failS_c S hk
  · exact failC_c S hk
theorem sim_fail {st : PS} (Re : RelR st r) (d : Bool) : RelR (setSide st d { sideOf st d with f := true }) (rfail r d).1 ∧ (rfail r d).2 = [err (dI2 d)] := by
  have := Re.set d { sideOf st d with f := true }
  have e := Re.side d
  cases d
  · refine ⟨?_, rfl⟩
    rw [← e] at this ⊢; exact this
  · refine ⟨?_, rfl⟩
    rw [← e] at this ⊢; exact this
theorem sim_read {st : PS} (Re : RelR st r) (d : Bool) (hc : (if d = true then canC st else canS st) = true) : RelR (readD st d).1 (rread r d).1 ∧ (readD st d).2 = (rread r d).2 := by
  cases d
  · exact sim_readS Re hc
  · exact sim_readC Re hc
theorem appRow [Gh] {h : Heap} {q q2 : Option Addr} {c c2 : Nat} {L M : List Ev} (R1 : Row 4 evV h q c L) (R2 : Row 4 evV h q2 c2 M) (hl : L.length + M.length ≤ 2 ^ 30) {K : Value → Heap → Prop}
    (hk : ∀ p' cap' h', Row 4 evV h' p' cap' (L ++ M) → Fr (InA q) h h' → (∀ b, InA p' b → InA q b ∨ h.size ≤ b) → K (.slice p' (L ++ M).length cap') h') :
    bltV Tryd.prog .append #[T_sl_api_SmtpEvent, T_sl_api_SmtpEvent] T_sl_api_SmtpEvent #[false, false] #[.slice q L.length c, .slice q2 M.length c2] h K :=
  R1.appL el_ev Tryd.underlying30 (by intro k e; cases e) (by kernel_rfl) (by decide +kernel) evV_len (fun _ => rfl) (R2.src evV_len (by omega)) hl hk
theorem RFeed_c [Gh] (S : RSesF o k h p r) {st : PS} (Re : RelR st r) (d : Bool) (s : Nm) (hw : wt st + s.length ≤ 2 ^ 24) (hb : r.rp + r.it ≤ 2 ^ 40) (t : Nat) (ht : t ≤ k ∨ k + 6 ≤ t) {Q : Value → Heap → Prop}
    (hk : ∀ o' h' q c r', Old h o o' → (∀ x, h.size ≤ x → o' x = t ∨ k < o' x ∧ o' x < k + 6) → Fr (RR o k) h h' → RSesF o' k h' p r' → RelR (feedP st d s).1 r' → r'.rp + r'.it ≤ r.rp + r.it + 2 ^ 24 → Row 4 evV h' q c (feedP st d s).2 → (∀ x, InA q x → h.size ≤ x ∧ o' x = t) → Q (.slice q (feedP st d s).2.length c) h') :
    CallT Tryd.prog fn_ref30_Session_Feed #[.pointer (some p.a), .int .i64 (dI2 d), .string (bs s)] h Q := by
  apply ref30_Session_Feed_s
  unfold ref30_Session_Feed_v
  rw [if_neg (by simp)]
  have hidx : ∀ {K : Prop}, K → idxA (dI2 d) 3 K := fun {K} hK => idxA_mk (dN d) (by cases d <;> rfl) (by cases d <;> decide) hK
  have had : ∀ a : Addr, (a.add 3).add ((dI2 d).toNat * 1) = a.add (3 + dN d) := fun a => by rw [dI2_nat]; exact add_add _ _ _
  have had6 : ∀ a : Addr, (a.add 6).add ((dI2 d).toNat * 1) = a.add (6 + dN d) := fun a => by rw [dI2_nat]; exact add_add _ _ _
  have hdn : dN d = 1 ∨ dN d = 2 := by
    cases d
    · exact .inr rfl
    · exact .inl rfl
  have b4 : ref30_Session_Feed_b4 (some p.a) (dI2 d) (bs s) Q h := by
    unfold ref30_Session_Feed_b4
    obtain ⟨q0, c0, hc, hs0, Q0, i0, Sp, t0⟩ := S.side d
    have lp := S.lt
    have ls := Sp.lt
    have tg := S.tag
    have esd := Re.side d
    have hwq : lw (sideOf st d).q + (sideOf st d).B.length ≤ wt st := by
      unfold wt; cases d
      · have e1 : (sideOf st false) = st.s := rfl
        rw [e1]; omega
      · have e1 : (sideOf st true) = st.c := rfl
        rw [e1]; omega
    have hql := lw_len (sideOf st d).q
    have hfl := feedL_len 512 s (sideOf st d).B
    refine nn_mk (hidx ?_)
    rw [had]
    refine ldL_mk hc (nn_mk (hidx ?_))
    rw [dI2_nat]
    refine ldP_mk hs0 (nn_mk ?_)
    refine rlnFeed_c Sp s (by rw [esd]; omega) fun h1 r1 c1 f1 Sp1 R1 => ⟨_, _, _, rfl, ?_⟩
    have z1 := f1.size
    have hcell1 : hcell h1 (p.a.add (3 + dN d)) = some (.slice q0 (rside r d).q.length c0) := f1.hcell hc (by rw [add_block]; intro hh; rw [hh] at tg; omega)
    have Q1 := Q0.fr f1 fun x hx hh => by subst hh; have := i0 _ hx; omega
    refine ⟨ldL_ hcell1, ?_⟩
    refine appLnQ Q1 R1 (by rw [esd]; omega) fun p2 c2 h2 Q2 f2 hn2 => ⟨_, _, _, rfl, ?_⟩
    have z2 := f2.size
    refine hidx ?_
    rw [show (p.a.add 3).add (dN d) = p.a.add (3 + dN d) from add_add _ _ _]
    have F2 : Fr (fun x => x = (sideA p d).block ∨ InA q0 x) h h2 := (f1.mono fun _ h => .inl h).trans (f2.mono fun _ h => .inr h)
    have hO : Old h o (upT o h.size (k + 1 + dN d)) := Old.up (Nat.le_refl _)
    refine S.setq d (sd := { rside r d with q := (rside r d).q ++ (feedL 512 (rside r d).B s).1, B := (feedL 512 (rside r d).B s).2 }) F2 (fun x hx hh => ?_) hO Q2 (fun x hx => ?_) (Sp1.fr f2 fun hh => by have := i0 _ hh; omega) rfl fun h3 f3 S3 => ?_
    · rcases hh with hh | hh
      · subst hh; exact .inr t0
      · exact .inl (i0 x hh)
    · rcases hn2 x hx with hh | hh
      · rw [hO x (Q0.lt hh)]; exact i0 x hh
      · exact upT_ge (by omega)
    have Re3 := Re.set d { rside r d with q := (rside r d).q ++ (feedL 512 (rside r d).B s).1, B := (feedL 512 (rside r d).B s).2 }
    have hpd : setSide st d { rside r d with q := (rside r d).q ++ (feedL 512 (rside r d).B s).1, B := (feedL 512 (rside r d).B s).2 } = pushD st d s := by
      unfold pushD; rw [esd]
    rw [hpd] at Re3
    have hN : (rset r d { rside r d with q := (rside r d).q ++ (feedL 512 (rside r d).B s).1, B := (feedL 512 (rside r d).B s).2 }).rp + (rset r d { rside r d with q := (rside r d).q ++ (feedL 512 (rside r d).B s).1, B := (feedL 512 (rside r d).B s).2 }).it = r.rp + r.it := by cases d <;> rfl
    generalize rset r d { rside r d with q := (rside r d).q ++ (feedL 512 (rside r d).B s).1, B := (feedL 512 (rside r d).B s).2 } = r3 at *
    have hw1 := pushD_wt st d s
    have hfe : feedP st d s = pendD (runP (pushD st d s)) d := rfl
    rw [hfe] at hk
    generalize pushD st d s = st1 at *
    have hqn := qn_wt st1
    have F3 : Fr (RR o k) h h3 := (F2.mono' fun x hx hh => by
      unfold RR
      rcases hh with hh | hh
      · subst hh; omega
      · have := i0 x hh; omega).tr f3 fun x hx hh => by subst hh; unfold RR; omega
    have ho3 : ∀ x, h.size ≤ x → upT o h.size (k + 1 + dN d) x = t ∨ k < upT o h.size (k + 1 + dN d) x ∧ upT o h.size (k + 1 + dN d) x < k + 6 := fun x hx => by rw [upT_ge hx]; omega
    refine LoopV.go (fun n sx h' => ∃ stc rc evs oc, n = qn stc ∧ sx.2.1 = evs.length ∧ RSesF oc k h' p rc ∧ RelR stc rc ∧ Row 4 evV h' sx.1 sx.2.2 evs ∧ (∀ x, InA sx.1 x → h.size ≤ x ∧ oc x = t) ∧ Old h o oc ∧ (∀ x, h.size ≤ x → oc x = t ∨ k < oc x ∧ oc x < k + 6) ∧ Fr (RR o k) h h' ∧ wt stc ≤ wt st1 ∧ rc.rp + rc.it + qn stc ≤ r.rp + r.it + qn st1 ∧ evs.length + 2 * qn stc ≤ 2 * qn st1 ∧ runP st1 = ((runP stc).1, evs ++ (runP stc).2)) (qn st1)
      ⟨st1, r3, [], _, rfl, rfl, S3, Re3, Row.nil, fun x hx => (notInA hx).elim, hO, ho3, F3, Nat.le_refl _, by omega, by simp, rfl⟩ ?_
    rintro n ⟨qe, ne, ce⟩ h4 ⟨stc, rc, evs, oc, rfl, hne, S4, Re4, R4, hq4, hO4, ho4, F4, hw4, hn4, he4, hrun⟩ Kn hK
    have hne : ne = evs.length := hne
    have R4 : Row 4 evV h4 qe ce evs := R4
    have hq4 : ∀ x, InA qe x → h.size ≤ x ∧ oc x = t := hq4
    subst hne
    dsimp only
    have z4 := F4.size
    have lp4 := S4.lt
    have tg4 := S4.tag
    have txl := Re4.txl
    -- a line is read
    have step : ∀ (dd : Bool), (sideOf stc dd).q ≠ [] → (if dd = true then canC stc else canS stc) = true → runP stc = ((runP (readD stc dd).1).1, (readD stc dd).2 ++ (runP (readD stc dd).1).2) →
        CallT Tryd.prog fn_ref30_Session_read #[.pointer (some p.a), .int .i64 (dI2 dd)] h4 fun v h7 => ∃ t48a : Option Addr, ∃ t48n : Nat, ∃ t48c : Nat, v = .slice t48a t48n t48c ∧ bltV Tryd.prog .append #[T_sl_api_SmtpEvent, T_sl_api_SmtpEvent] T_sl_api_SmtpEvent #[false, false] #[.slice qe evs.length ce, .slice t48a t48n t48c] h7 fun v h8 => ∃ t49a : Option Addr, ∃ t49n : Nat, ∃ t49c : Nat, v = .slice t49a t49n t49c ∧ Kn (t49a, t49n, t49c) h8 := fun dd hqne hcan hr => by
      obtain ⟨Rn, en⟩ := sim_read Re4 dd hcan
      have hq : qn (readD stc dd).1 + 1 ≤ qn stc ∧ wt (readD stc dd).1 ≤ wt stc ∧ (readD stc dd).2.length ≤ 2 := by
        cases dd
        · have hne : stc.s.q ≠ [] := hqne
          have h1 := readS_q stc
          have h2 := readS_wt stc hne
          have h3 := List.length_pos_iff.2 hne
          refine ⟨?_, h2⟩
          show qn (readS stc).1 + 1 ≤ _
          unfold qn; rw [h1.1, h1.2, List.length_tail]; omega
        · have hne : stc.c.q ≠ [] := hqne
          have h1 := readC_q stc
          have h2 := readC_wt stc hne
          have h3 := List.length_pos_iff.2 hne
          refine ⟨?_, h2⟩
          show qn (readC stc).1 + 1 ≤ _
          unfold qn; rw [h1.1, h1.2, List.length_tail]; omega
      have hlw : lw (rside rc dd).q ≤ wt stc := by
        rw [Re4.side dd]
        unfold wt; cases dd
        · have e1 : (sideOf stc false) = stc.s := rfl
          rw [e1]; omega
        · have e1 : (sideOf stc true) = stc.c := rfl
          rw [e1]; omega
      have hrn := rread_n rc dd
      refine rread_c S4 dd (by rw [Re4.side dd]; exact hqne) (by omega) (by omega) (by omega) fun h5 q5 c5 f5 S5 R5 hq5 => ⟨_, _, _, rfl, ?_⟩
      have z5 := f5.size
      rw [← en] at R5 ⊢
      refine appRow (R4.fr f5 fun x hx hh => by subst hh; have := hq4 _ hx; omega) R5 (by omega) fun p6 c6 h6 R6 f6 hn6 => ⟨_, _, _, rfl, ?_⟩
      have z6 := f6.size
      have hO6 : Old h5 oc (upT oc h5.size t) := Old.up (Nat.le_refl _)
      refine hK (qn (readD stc dd).1) _ _ (by omega) ⟨(readD stc dd).1, (rread rc dd).1, evs ++ (readD stc dd).2, upT oc h5.size t, rfl, rfl, S5.fr f6 (fun x hx hh => by have := hq4 x hh; omega) hO6, Rn, R6, fun x hx => ?_, fun x hx => by rw [hO6 x (by omega)]; exact hO4 x hx, fun x hx => ?_, (F4.tr f5 fun x hx hh => ?_).tr f6 fun x hx hh => ?_, by omega, by omega, by rw [List.length_append]; omega, by rw [hrun, hr]; simp⟩
      · rcases hn6 x hx with hh | hh
        · have := hq4 x hh
          exact ⟨this.1, by rw [hO6 x (by have := R4.lt hh; omega)]; exact this.2⟩
        · exact ⟨by omega, upT_ge hh⟩
      · by_cases hx5 : x < h5.size
        · rw [upT_lt hx5]; exact ho4 x hx
        · rw [upT_ge (by omega)]; exact .inl rfl
      · subst hh; unfold RR; rw [← hO4 _ hx]; omega
      · have := hq4 x hh; omega
    have b2 : ¬ canC stc = true → ¬ canS stc = true → ref30_Session_Feed_b2 (some p.a) (dI2 d) qe evs.length ce Q h4 := fun hc1 hc2 => by
      rw [runP_end hc1 hc2, List.append_nil] at hrun
      rw [hrun] at hk
      have esd4 := Re4.side d
      have hlwq : lw (sideOf stc d).q ≤ wt stc := by
        unfold wt; cases d
        · have e1 : (sideOf stc false) = stc.s := rfl
          rw [e1]; omega
        · have e1 : (sideOf stc true) = stc.c := rfl
          rw [e1]; omega
      have no : ¬ (lw (sideOf stc d).q > 8192 ∧ (sideOf stc d).f = false ∧ stc.op = false) → Q (.slice qe evs.length ce) h4 := fun hn => by
        have e : pendD (stc, evs) d = (stc, evs) := by unfold pendD; rw [if_neg hn]
        rw [e] at hk
        exact hk oc h4 qe ce rc hO4 ho4 F4 S4 Re4 (by omega) R4 hq4
      unfold ref30_Session_Feed_b2
      refine nn_mk (ldB_mk (S4.cell (j := 15) fun _ _ _ _ => rfl) (ifN (fun e1 => nn_mk (hidx ?_)) fun e1 => no fun hh => by rw [← Re4.op, e1] at hh; cases hh.2.2))
      rw [had6]
      have hfc : hcell h4 (p.a.add (6 + dN d)) = some (.bool (rside rc d).f) := by
        cases d
        · exact S4.cell (j := 8) fun _ _ _ _ => rfl
        · exact S4.cell (j := 7) fun _ _ _ _ => rfl
      refine ldB_mk hfc (ifN (fun e2 => ?_) fun e2 => no fun hh => by rw [esd4] at e2; rw [e2] at hh; cases hh.2.1)
      refine waiting_c S4 d (by rw [esd4]; omega) ⟨_, rfl, ?_⟩
      rw [esd4]
      refine ifD (fun e3 => ?_) fun e3 => no fun hh => e3 (by omega)
      have e : pendD (stc, evs) d = (setSide stc d { sideOf stc d with f := true }, evs ++ [err (dI2 d)]) := by
        unfold pendD
        rw [if_pos ⟨by dsimp only; omega, by rw [← esd4]; exact e2, by rw [← Re4.op]; exact e1⟩]
      rw [e] at hk
      obtain ⟨Rn, en⟩ := sim_fail Re4 d
      have hN : (rfail rc d).1.rp + (rfail rc d).1.it = rc.rp + rc.it := by cases d <;> rfl
      refine rfail_c S4 d fun h5 q5 c5 f5 S5 R5 hq5 => ⟨_, _, _, rfl, ?_⟩
      have z5 := f5.size
      rw [en] at R5 ⊢
      refine appRow (R4.fr f5 fun x hx hh => by subst hh; have := hq4 _ hx; omega) R5 (by simp; omega) fun p6 c6 h6 R6 f6 hn6 => ⟨_, _, _, rfl, ?_⟩
      have hO6 : Old h5 oc (upT oc h5.size t) := Old.up (Nat.le_refl _)
      refine hk (upT oc h5.size t) h6 p6 c6 (rfail rc d).1 (fun x hx => by rw [hO6 x (by omega)]; exact hO4 x hx) (fun x hx => ?_) ((F4.tr f5 fun x hx hh => ?_).tr f6 fun x hx hh => ?_) (S5.fr f6 (fun x hx hh => by have := hq4 x hh; omega) hO6) Rn (by omega) R6 fun x hx => ?_
      · by_cases hx5 : x < h5.size
        · rw [upT_lt hx5]; exact ho4 x hx
        · rw [upT_ge (by omega)]; exact .inl rfl
      · subst hh; unfold RR; rw [← hO4 _ hx]; omega
      · have := hq4 x hh; omega
      · rcases hn6 x hx with hh | hh
        · have := hq4 x hh
          exact ⟨this.1, by rw [hO6 x (by have := R4.lt hh; omega)]; exact this.2⟩
        · exact ⟨by omega, upT_ge hh⟩
    unfold ref30_Session_Feed_l1
    refine can_c S4 Re4 true (by omega) ⟨_, rfl, ?_⟩
    rw [if_pos rfl]
    have b3C : canC stc = true → ref30_Session_Feed_b3 (some p.a) (dI2 d) qe evs.length ce Q Kn h4 := fun hc1 => by
      unfold ref30_Session_Feed_b3
      refine can_c S4 Re4 true (by omega) ⟨_, rfl, ?_⟩
      rw [if_pos rfl, if_pos hc1]
      exact step true (canC_ne hc1) hc1 (runP_C hc1)
    have b3S : ¬ canC stc = true → canS stc = true → ref30_Session_Feed_b3 (some p.a) (dI2 d) qe evs.length ce Q Kn h4 := fun hc1 hc2 => by
      unfold ref30_Session_Feed_b3
      refine can_c S4 Re4 true (by omega) ⟨_, rfl, ?_⟩
      rw [if_pos rfl, if_neg hc1]
      exact step false (canS_ne hc2) hc2 (runP_S hc1 hc2)
    refine ifB (fun e => b3C e) fun e => ?_
    refine can_c S4 Re4 false (by omega) ⟨_, rfl, ?_⟩
    rw [if_neg Bool.false_ne_true]
    refine ifB (fun e2 => b3S (by rw [e]; decide) e2) fun e2 => b2 (by rw [e]; decide) (by rw [e2]; decide)
  cases d
  · rw [if_pos (by rfl), if_neg (by decide)]; exact b4
  · rw [if_neg (by decide)]; exact b4
def r0 : RS := ⟨sd0, sd0, 0, 0, [], false, [], [], false⟩
theorem rel0 : RelR st0 r0 := ⟨rfl, rfl, rfl, rfl, rfl, rfl, fun i h => (by cases h), rfl, rfl, fun i h => (by cases h), fun h => (by cases h), fun h => absurd rfl h⟩
theorem RNew_c [Gh] {h : Heap} (o : Tag) (k : Nat) {Q : Value → Heap → Prop}
    (hk : ∀ p o' h', Old h o o' → (∀ x, o' x = o x ∨ k < o' x ∧ o' x < k + 6) → Fr (fun _ => False) h h' → RSesF o' k h' p r0 → Q (.pointer (some p.a)) h') : CallT Tryd.prog fn_ref30_New #[] h Q := by
  apply ref30_New_s
  unfold ref30_New_v
  refine al_mk (vs := [.pointer none, .pointer none, .pointer none, .slice none 0 0, .slice none 0 0, .slice none 0 0, .bool false, .bool false, .bool false, .int .i64 0, .int .i64 0, .string (bs []), .bool false, .string (bs []), .string (bs []), .bool false]) fun t3 h1 f1 e1 o1 => ?_
  have l1 := o1.lt
  refine rlnNew_c fun b1 h2 f2 e2 S1 => ⟨_, rfl, ?_⟩
  refine idxA_mk 1 rfl (by omega) (st1_own (o1.fr0 f2) 1 (by simp) rfl fun h3 f3 s3 o3 => ?_)
  refine rlnNew_c fun b2 h4 f4 e4 S2 => ⟨_, rfl, ?_⟩
  refine idxA_mk 2 rfl (by omega) (st1_own (o3.fr0 f4) 2 (by simp) rfl fun h5 f5 s5 o5 => ?_)
  have z1 := f1.size
  have z2 := f2.size
  have z3 := f3.size
  have z4 := f4.size
  have lb1 := RSpl.lt S1
  have S1' : RSpl h5 b1 512 [] := ((S1.fr f3 (by omega)).fr f4 id).fr f5 (by omega)
  have S2' : RSpl h5 b2 512 [] := S2.fr f5 (by omega)
  refine hk ⟨t3, b1, b2⟩ (upT (upT (upT o h.size (k + 1)) h1.size (k + 4)) h3.size (k + 5)) h5 (fun x hx => by rw [upT_lt (by omega), upT_lt (by omega), upT_lt hx]) (fun x => ?_) ?_ ⟨⟨none, 0, none, 0, o5, Que.nil, fun x hx => (notInA hx).elim, Que.nil, fun x hx => (notInA hx).elim, S1', S2'⟩, ?_, ?_, ?_⟩
  · unfold upT
    split
    · split
      · split
        · exact .inl rfl
        · exact .inr (by omega)
      · exact .inr (by omega)
    · exact .inr (by omega)
  · exact ((((f1.tr f2 fun _ _ h => h.elim).tr f3 fun x hx hh => by omega)).tr f4 fun _ _ h => h.elim).tr f5 fun x hx hh => by omega
  · show upT _ _ _ t3.block = _
    rw [upT_lt (by omega), upT_lt (by omega), upT_ge (by omega)]
  · show upT _ _ _ b1.block = _
    rw [upT_lt (by omega), upT_ge (by omega)]
  · exact upT_ge (by show h3.size ≤ b2.block; omega)
end
theorem Dir_case (n : Int) : (∃ d, n = dI2 d) ∨ (n ≠ 1 ∧ n ≠ 2) := by
  by_cases h1 : n = 1
  · exact .inl ⟨true, h1⟩
  · by_cases h2 : n = 2
    · exact .inl ⟨false, h2⟩
    · exact .inr ⟨h1, h2⟩
theorem SmtpFeeds_c [Gh] (l : Sl Part) {h : Heap} (ol : PartsOk h l) {Q : Value → Heap → Prop} (hk : ∀ h', Fr (fun _ => False) h h' → Q (.bool true) h') : CallT Tryd.prog fn_law30_SmtpFeeds #[.slice l.p l.xs.length l.cap] h Q := by
  apply law30_SmtpFeeds_s
  unfold law30_SmtpFeeds_v
  have lv : ∀ {h' : Heap}, Fr (fun _ => False) h h' → CallT Tryd.prog fn_law30_lives #[] h' fun v h1 => ∃ t16 : Bool, v = .bool t16 ∧ Q (.bool t16) h1 := fun f => lives_c fun h1 f1 => ⟨_, rfl, hk h1 (f.trans f1)⟩
  refine New_c (fun _ => 0) 100 (fun x => by constructor <;> (show (0 : Nat) ≠ _; decide)) fun p o1 h1 hO1 hn1 hr1 f1 S1 => ⟨_, rfl, ?_⟩
  refine RNew_c o1 200 fun x o2 h2 hO2 hr2 f2 X2 => ⟨_, rfl, ?_⟩
  have z1 := f1.size
  have F2 := f1.trans f2
  have S2 := S1.fr f2 (fun _ _ h => h.elim) hO2
  have ol2 : PartsOk h2 l := SlOk.fr0 (fun h h' x f o => S_intrusionlaw30_Part.ok_fr h h' x f o) F2 ol
  refine long_c l 20000 (Nat.le_refl _) ol2 fun b hb => ⟨_, rfl, ?_⟩
  refine ifB (fun _ => lv F2) fun e => ifNS ?_
  obtain ⟨hl60, hpb⟩ := hb e
  have D := ol.rd
  refine LoopV.go (fun n s h' => ∃ i st r o, s = ((i : Nat) : Int) ∧ i ≤ l.xs.length ∧ n = l.xs.length - i ∧ SesF o 100 h' p st ∧ NoO o 100 ∧ RSesF o 200 h' x r ∧ RelR st r ∧ (∀ x, x < h.size → o x = 0) ∧ Fr (fun _ => False) h h' ∧ wt st ≤ pB (l.xs.take i) ∧ r.rp + r.it ≤ i * 2 ^ 24) l.xs.length
    ⟨0, st0, r0, o2, rfl, by omega, rfl, S2, fun x => ?_, X2, rel0, fun x hx => ?_, F2, by rw [wt0]; omega, Nat.zero_le _⟩ ?_
  · have := hr2 x; have := hn1 x; omega
  · rw [hO2 x (by omega), hO1 x hx]
  rintro n s h3 ⟨i, st, r, o, rfl, hi, rfl, S3, N3, X3, Re, Z3, F3, hw3, hr3⟩ Kn hK
  unfold law30_SmtpFeeds_l1
  refine ifD (fun e => ?_) fun _ => lv F3
  have hlt : i < l.xs.length := by omega
  have D3 := Rd.fr0 F3 D
  have ptk := pB_take l.xs i hlt
  have ple : pB (l.xs.take (i + 1)) ≤ pB l.xs := by
    have e1 : l.xs = l.xs.take (i + 1) ++ l.xs.drop (i + 1) := (List.take_append_drop _ _).symm
    have e2 : pB l.xs = pB (l.xs.take (i + 1)) + pB (l.xs.drop (i + 1)) := by
      conv => lhs; rw [e1]
      unfold pB; rw [List.map_append, List.sum_append]
    omega
  obtain ⟨ad, hpa, ci⟩ := D3 i hlt
  have ci : Cells h3 (ad.add (i * 2)) [.int .i64 l.xs[i].Dir, .string (bs l.xs[i].S)] := ci
  have get : ∀ {K : Addr → Prop}, K ad → idxA (i : Int) l.xs.length (nn l.p fun a => K a) := fun {K} hK => by
    rw [hpa]; exact idxA_mk i rfl hlt (nn_mk hK)
  have hadlt : ad.block < h.size := by
    obtain ⟨ad', hpa', ci'⟩ := D i hlt
    rw [hpa] at hpa'
    cases hpa'
    have := hcell_lt (ci'.at0 (v := .int .i64 l.xs[i].Dir) rfl)
    rw [add_block] at this; exact this
  refine get ?_
  rw [Int.toNat_natCast]
  refine ldI_mk (ci.at0 rfl) (get (ldS_mk (ci.at (j := 1) rfl) (get (ldI_mk (ci.at0 rfl) (get (ldS_mk (ci.at (j := 1) rfl) ?_))))))
  have fin : ∀ {o' : Tag} {h' : Heap} {st' : PS} {r' : RS}, SesF o' 100 h' p st' → NoO o' 100 → RSesF o' 200 h' x r' → RelR st' r' → (∀ x, x < h.size → o' x = 0) → Fr (fun _ => False) h h' → wt st' ≤ pB (l.xs.take (i + 1)) → r'.rp + r'.it ≤ (i + 1) * 2 ^ 24 →
      CallT Tryd.prog fn_smtp_Session_Opaque #[.pointer (some p.a)] h' fun v h9 => ∃ t49 : Bool, v = .bool t49 ∧ CallT Tryd.prog fn_ref30_Session_Opaque #[.pointer (some x.a)] h9 fun v h10 => ∃ t51 : Bool, v = .bool t51 ∧ if (!(t49 == t51)) = true then (Q (.bool false) h10) else (Kn (wrap .i64 ((i : Int) + 1)) h10) := fun {o' h' st' r'} S N X Re Z F hw hr => by
    refine Opaque_c S ⟨_, rfl, ROpaque_c X ⟨_, rfl, ?_⟩⟩
    rw [Re.op, if_neg (by simp), wr (by omega) (by omega)]
    exact hK (l.xs.length - (i + 1)) _ _ (by omega) ⟨i + 1, st', r', o', rfl, hlt, rfl, S, N, X, Re, Z, F, hw, hr⟩
  rcases Dir_case l.xs[i].Dir with ⟨d, hd⟩ | ⟨hd1, hd2⟩
  · rw [hd]
    have z3 := F3.size
    refine FeedT_c S3 N3 d l.xs[i].S (by omega) 1 (by omega) fun o4 h4 q4 c4 hO4 hn4 hr4 f4 S4 R4 hq4 => ⟨_, _, _, rfl, ?_⟩
    have hnot : ∀ x, x < h.size → ¬ SR o 100 x := fun x hx hh => by have := Z3 x hx; unfold SR at hh; omega
    have ci4 : Cells h4 (ad.add (i * 2)) [.int .i64 l.xs[i].Dir, .string (bs l.xs[i].S)] := ci.fr f4 (by rw [add_block]; exact hnot _ hadlt)
    refine ⟨ldI_ (by rw [← hd]; exact ci4.at0 rfl), ldS_ (ci4.at (j := 1) rfl), ?_⟩
    have z4 := f4.size
    have F4 : Fr (fun _ => False) h h4 := F3.tr f4 fun x hx hh => hnot x hx hh
    have X4 := X3.fr f4 (fun x hx hh => by unfold SR at hh; omega) hO4
    refine RFeed_c X4 Re d l.xs[i].S (by omega) (by omega) 2 (by omega) fun o5 h5 q5 c5 r' hO5 hr5 f5 X5 Re5 hn5 R5 hq5 => ⟨_, _, _, rfl, ?_⟩
    have z5 := f5.size
    have R45 : Row 4 evV h5 q4 c4 (feedP st d l.xs[i].S).2 := R4.fr f5 fun x hx hh => by have := hq4 x hx; unfold RR at hh; omega
    have hel : (feedP st d l.xs[i].S).2.length ≤ 2 ^ 60 := by
      by_cases h0 : (feedP st d l.xs[i].S).2.length ≤ 2 ^ 60
      · exact h0
      · exact absurd (feedP_len st d l.xs[i].S) (by omega)
    refine Same_c (R45.rd evV_len (by omega)) (R5.rd evV_len (by omega)) hel ⟨_, rfl, ?_⟩
    rw [if_neg (by decide)]
    have hfw := feedP_wt st d l.xs[i].S
    refine fin (o' := o5) (S4.fr f5 (fun x hx hh => by unfold RR at hh; omega) hO5) (fun x => ?_) X5 Re5 (fun x hx => by rw [hO5 x (by omega), hO4 x (by omega)]; exact Z3 x hx) (F4.tr f5 fun x hx hh => ?_) (by omega) (by omega)
    · by_cases hx : x < h4.size
      · rw [hO5 x hx]; exact hn4 x
      · have := hr5 x (by omega); omega
    · have := Z3 x hx; unfold RR at hh; rw [hO4 x (by omega)] at hh; omega
  · refine Feed_no _ hd1 hd2 _ ⟨_, _, _, rfl, ldI_ (ci.at0 rfl), ldS_ (ci.at (j := 1) rfl), ?_⟩
    refine RFeed_no _ hd1 hd2 _ ⟨_, _, _, rfl, ?_⟩
    refine Same_c (L := []) (fun i hi => absurd hi (Nat.not_lt_zero _)) (fun i hi => absurd hi (Nat.not_lt_zero _)) (by simp) ⟨_, rfl, ?_⟩
    rw [if_neg (by decide)]
    exact fin S3 N3 X3 Re Z3 F3 (by omega) (Nat.le_trans hr3 (Nat.mul_le_mul_right _ (Nat.le_succ i)))
end Go.Proofs.YtdpimhlppflidaaDoor
