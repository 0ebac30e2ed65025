/-
  The program's session: Feed, whole; New.
-/
import Derived.Test.YtdpimhlppflidaaDoorSmH
namespace Go.Proofs.YtdpimhlppflidaaDoor
set_option linter.unusedSimpArgs false
set_option linter.unusedVariables false
set_option maxRecDepth 20000
open Go
open Go.IntKind (wrap)
def pushD (st : PS) (d : Bool) (s : Nm) : PS := setSide st d { sideOf st d with q := (sideOf st d).q ++ (feedL 512 (sideOf st d).B s).1, B := (feedL 512 (sideOf st d).B s).2 }
def pendD (r : PS × List Ev) (d : Bool) : PS × List Ev := if lw (sideOf r.1 d).q > 8192 ∧ (sideOf r.1 d).f = false ∧ r.1.op = false then (setSide r.1 d { sideOf r.1 d with f := true }, r.2 ++ [err (dI2 d)]) else r
def feedP (st : PS) (d : Bool) (s : Nm) : PS × List Ev := pendD (runP (pushD st d s)) d
theorem feedL_lw (mx : Nat) : ∀ (l B : Nm), lw (feedL mx B l).1 + (feedL mx B l).2.length ≤ B.length + l.length
  | [], B => by simp [feedL, lw]
  | c :: l, B => by
    unfold feedL
    split
    · have := feedL_lw mx l []
      have hb := bareL_le B
      have hl : (lineL mx (bareL B)).1.length ≤ (bareL B).length := by unfold lineL; rw [List.length_take]; omega
      simp only [lw_cons, List.length_cons, List.length_nil] at this ⊢; omega
    · have := feedL_lw mx l (B ++ [c])
      simp only [List.length_append, List.length_cons, List.length_nil] at this ⊢; omega
theorem pushD_wt (st : PS) (d : Bool) (s : Nm) : wt (pushD st d s) ≤ wt st + s.length := by
  have := feedL_lw 512 s (sideOf st d).B
  cases d
  · show wt { st with s := _ } ≤ _
    unfold wt sideOf at *
    simp only [lw_append, Bool.false_eq_true, if_false] at this ⊢; omega
  · show wt { st with c := _ } ≤ _
    unfold wt sideOf at *
    simp only [lw_append, if_true] at this ⊢; omega
theorem qn_wt (st : PS) : qn st ≤ wt st := by
  have h1 := lw_len st.c.q
  have h2 := lw_len st.s.q
  unfold qn wt; omega
/-- No block is an output's. -/
def NoO (o : Tag) (k : Nat) : Prop := ∀ x, o x ≠ k + 30 ∧ o x ≠ k + 31
section
variable {o : Tag} {k : Nat} {h : Heap} {p : SesA} {st : PS}
theorem SideF.re {o' : Tag} {ad : Addr} {sd : SD} (S : SideF o k h ad sd) (hr : ∀ x, k ≤ o x → o x < k + 3 → o' x = o x) : SideF o' k h ad sd := by
  obtain ⟨l, qp, qc, ow, q, hq, sp⟩ := S.ex
  have tg := S.tag
  refine ⟨⟨l, qp, qc, ow, q, fun x hx => ?_, sp.to fun x _ h => ?_⟩, ?_⟩
  · have := hq x hx; rw [hr x (by omega) (by omega)]; exact this
  · rw [hr x (by omega) (by omega)]; exact h
  · rw [hr _ (by omega) (by omega)]; exact tg
theorem SesF.re {o' : Tag} (S : SesF o k h p st) (hr : ∀ x, k ≤ o x → o x < k + 30 → o' x = o x) : SesF o' k h p st := by
  obtain ⟨ip, ic, tp, tc, os, I, hi, T, ht, C, D⟩ := S.ex
  have tg := S.tag
  refine ⟨⟨ip, ic, tp, tc, os, I, fun x hx => ?_, T, fun x hx => ?_, C.re fun x h1 h2 => hr x (by omega) (by omega), D.re fun x h1 h2 => hr x (by omega) (by omega)⟩, ?_⟩
  · have := hi x hx; rw [hr x (by omega) (by omega)]; exact this
  · have := ht x hx; rw [hr x (by omega) (by omega)]; exact this
  · rw [hr _ (by omega) (by omega)]; exact tg
theorem appLnQ [Gh] {h : Heap} {p q : Option Addr} {cap qc : Nat} {L M : List Ln} (R : Que 2 lnV h p cap L) (R2 : Row 2 lnV h q qc M) (hl : L.length + M.length ≤ 2 ^ 30) {K : Value → Heap → Prop}
    (hk : ∀ p' cap' h', Que 2 lnV h' p' cap' (L ++ M) → Fr (InA p) h h' → (∀ b, InA p' b → InA p b ∨ h.size ≤ b) → K (.slice p' (L ++ M).length cap') h') :
    bltV Tryd.prog .append #[T_sl_api_Line, T_sl_api_Line] T_sl_api_Line #[false, false] #[.slice p L.length cap, .slice q M.length qc] h K :=
  R.appL el_ln Tryd.underlying53 (by intro k e; cases e) (by kernel_rfl) (by decide +kernel) lnV_len (fun _ => rfl) (R2.src lnV_len (by omega)) hl hk
/-- The bytes of a direction are added to its lines. -/
theorem push_c [Gh] (S : SesF o k h p st) (d : Bool) (s : Nm) (hw : wt st + s.length ≤ 2 ^ 25) {K : Heap → Prop}
    (hk : ∀ o' h', Old h o o' → Fr (SR o k) h h' → (∀ x, o' x = k + 30 ∨ o' x = k + 31 → o x = o' x) → SesF o' k h' p (pushD st d s) → K h') :
    nn (some (sideA p d)) fun t44 => ldL h (Addr.add t44 1) fun t46a t46n t46c => nn (some (sideA p d)) fun t48 => ldP h t48 fun t50 => CallT Tryd.prog fn_lines_Splitter_Feed #[.pointer t50, .string (bs s)] h fun v h1 => ∃ t52a : Option Addr, ∃ t52n : Nat, ∃ t52c : Nat, v = .slice t52a t52n t52c ∧ (ldL h1 (Addr.add t44 1) fun t946a t946n t946c => (.slice t946a t946n t946c : Value) = .slice t46a t46n t46c) ∧ bltV Tryd.prog .append #[T_sl_api_Line, T_sl_api_Line] T_sl_api_Line #[false, false] #[.slice t46a t46n t46c, .slice t52a t52n t52c] h1 fun v h2 => ∃ t53a : Option Addr, ∃ t53n : Nat, ∃ t53c : Nat, v = .slice t53a t53n t53c ∧ nn (some (sideA p d)) fun t54 => st1 h2 (Addr.add t54 1) (.slice t53a t53n t53c) K := by
  obtain ⟨hc, D⟩ := S.side d
  obtain ⟨lb, qp, qc, ow, Q0, hqt, sp⟩ := D.ex
  have tg := D.tag
  have hr := kd_rng (k := k) d
  have la := ow.lt
  have hwq : lw (sideOf st d).q + (sideOf st d).B.length ≤ wt st := by
    unfold wt; cases d
    · have e1 : (sideOf st false) = st.s := rfl
      rw [e1]; omega
    · have e1 : (sideOf st true) = st.c := rfl
      rw [e1]; omega
  have hql := lw_len (sideOf st d).q
  have hfl := feedL_len 512 s (sideOf st d).B
  refine nn_mk (ldL_mk (ow.cells.at (j := 1) rfl) (nn_mk (ldP_mk (ow.cells.at0 rfl) ?_)))
  refine lnFeed_c sp s (by omega) fun h1 r c f1 sp1 R1 => ⟨_, _, _, rfl, ?_⟩
  have z1 := f1.size
  have ow1 := ow.fr f1 fun h => by omega
  have Q1 := Q0.fr f1 fun x hx h => by have := hqt x hx; omega
  refine ⟨ldL_ (ow1.cells.at (j := 1) rfl), ?_⟩
  refine appLnQ Q1 R1 (by omega) fun p2 c2 h2 Q2 f2 hn2 => ⟨_, _, _, rfl, ?_⟩
  have z2 := f2.size
  have ow2 := ow1.fr f2 fun hx => by have := hqt _ hx; omega
  refine nn_mk (st1_own ow2 1 (by simp) rfl fun h3 f3 s3 o3 => ?_)
  have F : Fr (fun x => kd k d ≤ o x ∧ o x < kd k d + 3) h h3 := ((f1.mono fun x hx => by omega).tr f2 fun x hx hr => by have := hqt x hr; omega).tr f3 fun x hx hr => by subst hr; omega
  have ho : Old h o (upT (upT o h.size (kd k d + 2)) h1.size (kd k d + 1)) := fun x hx => by rw [upT_lt (by omega), upT_lt hx]
  have new : ∀ x, InA p2 x → upT (upT o h.size (kd k d + 2)) h1.size (kd k d + 1) x = kd k d + 1 := fun x hx => by
    rcases hn2 x hx with h | h
    · rw [ho x (Q0.lt h)]; exact hqt x h
    · exact upT_ge h
  have sp1' : SplF (fun x => upT (upT o h.size (kd k d + 2)) h1.size (kd k d + 1) x = kd k d + 2) h1 lb 512 (feedL 512 (sideOf st d).B s).2 := sp1.to fun x hx hh => by
    rw [upT_lt hx]
    by_cases hx2 : x < h.size
    · rw [upT_lt hx2]
      rcases hh with hh | hh
      · exact hh
      · omega
    · exact upT_ge (by omega)
  have sp3 := (sp1'.fr f2 fun x hx hq hk => by have := hqt x hq; rw [ho x (Q0.lt hq)] at hk; omega).fr f3 fun x hx hq hk => by subst hq; rw [ho _ la] at hk; omega
  refine hk (upT (upT o h.size (kd k d + 2)) h1.size (kd k d + 1)) h3 ho (F.mono fun x hx => by unfold SR; omega) (fun x hx => ?_) (S.setSide d F (fun x hx hr => hr) ho ⟨⟨lb, p2, c2, o3, Q2.fr f3 fun x hx hb => ?_, new, sp3⟩, ?_⟩)
  · by_cases h1x : x < h1.size
    · by_cases h0x : x < h.size
      · exact (ho x h0x).symm
      · rw [upT_lt h1x, upT_ge (by omega)] at hx; omega
    · rw [upT_ge (by omega)] at hx; omega
  · subst hb
    have := new _ hx
    rw [ho _ la] at this
    omega
  · rw [ho _ la]; exact tg
def wsum (q : List Ln) : Int := (lw q : Int)
theorem lw_take (q : List Ln) (i : Nat) (hi : i < q.length) : lw (q.take (i + 1)) = lw (q.take i) + (q[i].1.length + 1) := by
  rw [show q.take (i + 1) = q.take i ++ [q[i]] by rw [List.take_append_getElem], lw_append, lw_cons]
  show _ + (_ + lw []) = _
  rfl
theorem lw_take_le (q : List Ln) (i : Nat) : lw (q.take i) ≤ lw q := by
  conv => rhs; rw [← List.take_append_drop i q, lw_append]
  omega
theorem lw_get (q : List Ln) (i : Nat) (hi : i < q.length) : q[i].1.length + 1 ≤ lw q := by
  have h1 := lw_take q i hi
  have h2 := lw_take_le q (i + 1)
  omega
theorem Feed_c [Gh] (S : SesF o k h p st) (hno : NoO o k) (d : Bool) (s : Nm) (hw : wt st + s.length ≤ 2 ^ 24) (t : Nat) (ht1 : t ≠ k + 30) (ht2 : t ≠ k + 31) {Q : Value → Heap → Prop}
    (hk : ∀ o' h' q c, Old h o o' → NoO o' k → Fr (SR o k) h h' → SesF o' k h' p (feedP st d s).1 → Row 4 evV h' q c (feedP st d s).2 → (∀ x, InA q x → h.size ≤ x ∧ o' x = t) → Q (.slice q (feedP st d s).2.length c) h') :
    CallT Tryd.prog fn_smtp_Session_Feed #[.pointer (some p.a), .int .i64 (dI2 d), .string (bs s)] h Q := by
  apply smtp_Session_Feed_s
  unfold smtp_Session_Feed_v
  obtain ⟨hc, D⟩ := S.side d
  have hdn : (dI2 d).toNat * 1 = dN d := by cases d <;> rfl
  have b7 : smtp_Session_Feed_b7 (some p.a) (dI2 d) (bs s) Q h := by
    unfold smtp_Session_Feed_b7
    refine nn_mk (idxA_mk (dN d) (by cases d <;> rfl) (by cases d <;> decide) ?_)
    rw [hdn]
    refine ldP_mk hc ?_
    refine push_c S d s (by omega) fun o1 h1 ho1 f1 hno1 S1 => ?_
    have hw1 := pushD_wt st d s
    have z1 := f1.size
    refine al_mk (vs := [.slice none 0 0]) fun t8 h2 f2 e2 o2 => ?_
    have z2 := f2.size
    have hno1 : NoO o1 k := fun x => by
      by_cases hx : o1 x = k + 30 ∨ o1 x = k + 31
      · have := hno1 x hx; have := hno x; omega
      · omega
    have S2 : SesF (upT o1 h1.size (k + 30)) k h2 p (pushD st d s) := S1.fr f2 (fun _ _ h => h.elim) (Old.up (Nat.le_refl _))
    have A2 : OutF (upT o1 h1.size (k + 30)) k h2 t8 [] := ⟨⟨none, 0, o2, Row.nil, fun x hx => (notInA hx).elim⟩, upT_ge (by omega)⟩
    have hO2 : Old h o (upT o1 h1.size (k + 30)) := fun x hx => by rw [upT_lt (by omega)]; exact ho1 x hx
    have F2 : Fr (SR o k) h h2 := f1.tr f2 fun _ _ h => h.elim
    generalize hst1 : pushD st d s = st1 at *
    have hqn := qn_wt st1
    refine LoopV.go (fun n _ h' => ∃ stc evs o', n = qn stc ∧ SesF o' k h' p stc ∧ OutF o' k h' t8 evs ∧ Old h o o' ∧ Fr (SR o k) h h' ∧ wt stc ≤ wt st1 ∧ evs.length + 2 * qn stc ≤ 2 * qn st1 ∧ runP st1 = ((runP stc).1, evs ++ (runP stc).2)) (qn st1)
      ⟨st1, [], _, rfl, S2, A2, hO2, F2, Nat.le_refl _, by simp, rfl⟩ ?_
    rintro n - h3 ⟨stc, evs, o3, rfl, S3, A3, hO3, F3, hw3, he3, hrun⟩ Kn hK
    have hil : stc.items.length ≤ 2 ^ 26 := by unfold wt at *; omega
    have z3 := F3.size
    -- the end
    have fin : ¬ canC stc = true → ¬ canS stc = true → ∀ {h4 : Heap}, Fr (fun _ => False) h3 h4 → smtp_Session_Feed_b3 (some p.a) (dI2 d) (some (sideA p d)) t8 t8 Q h4 := fun hc1 hc2 {h4} f4 => by
      rw [runP_end hc1 hc2, List.append_nil] at hrun
      have hfe : feedP st d s = pendD (stc, evs) d := by unfold feedP; rw [hst1, hrun]
      rw [hfe] at hk
      have S4 := S3.fr f4 (fun _ _ h => h.elim) (Old.refl _ _)
      have A4 := A3.fr f4 (fun _ _ h => h.elim) (Old.refl _ _)
      have F4 : Fr (SR o k) h h4 := F3.tr f4 fun _ _ h => h.elim
      unfold smtp_Session_Feed_b3
      obtain ⟨hc4, D4⟩ := S4.side d
      obtain ⟨lb, qp, qc, ow, Q0, hqt, sp⟩ := D4.ex
      have hlwq : lw (sideOf stc d).q ≤ wt st1 := by
        have : lw (sideOf stc d).q ≤ wt stc := by
          unfold wt; cases d
          · have e1 : (sideOf stc false) = stc.s := rfl
            rw [e1]; omega
          · have e1 : (sideOf stc true) = stc.c := rfl
            rw [e1]; omega
        omega
      refine nn_mk (ldL_mk (ow.cells.at (j := 1) rfl) ?_)
      refine LoopV.go (fun n sx h' => ∃ i : Nat, sx.2 = (i : Int) ∧ sx.1 = ((lw ((sideOf stc d).q.take i) : Nat) : Int) ∧ i ≤ (sideOf stc d).q.length ∧ n = (sideOf stc d).q.length - i ∧ Fr (fun _ => False) h4 h') (sideOf stc d).q.length ⟨0, rfl, by rw [List.take_zero]; rfl, by omega, rfl, Fr.refl _ _⟩ ?_
      rintro n ⟨w1, i1⟩ h5 ⟨i, hi1, hw1', hi, rfl, f5⟩ Kn5 hK5
      have hi1 : i1 = (i : Int) := hi1
      have hw1' : w1 = ((lw ((sideOf stc d).q.take i) : Nat) : Int) := hw1'
      subst hi1 hw1'
      dsimp only
      unfold smtp_Session_Feed_l5
      refine ifD (fun e => ?_) fun e => ?_
      · have hlt : i < (sideOf stc d).q.length := by omega
        refine (Que.fr0 f5 Q0).idx lnV_len (by omega) i rfl hlt fun ad ci => ?_
        have ci : Cells h5 (ad.add (i * 2)) [.string (bs (sideOf stc d).q[i].1), .bool (sideOf stc d).q[i].2] := ci
        rw [Int.toNat_natCast]
        refine ldS_mk (ci.at0 rfl) (ldB_mk (ci.at (j := 1) rfl) ?_)
        refine al_mk (vs := [.string (bs []), .bool false]) fun t16 h6 f6 e6 o6 => ?_
        refine stN_own o6 (ws := [.string (bs (sideOf stc d).q[i].1), .bool (sideOf stc d).q[i].2]) (by rfl) (by rfl) fun h7 f7 s7 o7 => ?_
        refine ldS_mk (o7.cells.at0 rfl) ?_
        have hlt2 := lw_take (sideOf stc d).q i hlt
        have hle2 := lw_take_le (sideOf stc d).q (i + 1)
        have hql := lw_len (sideOf stc d).q
        rw [bs_size, wr (x := (((sideOf stc d).q[i].1.length : Nat) : Int) + 1) (by omega) (by omega), wr (by omega) (by omega), wr (by omega) (by omega)]
        refine hK5 ((sideOf stc d).q.length - (i + 1)) _ _ (by omega) ⟨i + 1, rfl, by dsimp only; omega, hlt, rfl, f5.trans (f6.tr f7 fun b hb hi => by omega)⟩
      have hil5 : i = (sideOf stc d).q.length := by omega
      subst hil5
      rw [List.take_length]
      have S5 := S4.fr f5 (fun _ _ h => h.elim) (Old.refl _ _)
      have A5 := A4.fr f5 (fun _ _ h => h.elim) (Old.refl _ _)
      have F5 : Fr (SR o k) h h5 := F4.tr f5 fun _ _ h => h.elim
      have hcl : ∀ {o' h' evs' st'}, (pendD (stc, evs) d) = (st', evs') → Old h o o' → Fr (SR o k) h h' → SesF o' k h' p st' → OutF o' k h' t8 evs' → ldL h' t8 fun a n c => Q (.slice a n c) h' := fun {o' h' evs' st'} hp hO F S' A' => by
        rw [hp] at hk
        obtain ⟨q, c, ow', R', hq'⟩ := A'.ex
        refine ldL_mk (ow'.cells.at0 rfl) ?_
        have hge : ∀ x, o' x = k + 30 ∨ o' x = k + 31 → h.size ≤ x := fun x hx => by
          by_cases hlt : x < h.size
          · have := hO x hlt; have := hno x; omega
          · omega
        refine hk (fun x => if o' x = k + 30 ∨ o' x = k + 31 then t else o' x) h' q c (fun x hx => ?_) (fun x => ?_) F (S'.re fun x h1 h2 => ?_) R' fun x hx => ⟨hge x (.inr (hq' x hx)), ?_⟩
        · show (if _ then _ else _) = _
          rw [if_neg fun hh => by have := hge x hh; omega]; exact hO x hx
        · show (if _ then _ else _) ≠ _ ∧ (if _ then _ else _) ≠ _
          split
          · exact ⟨ht1, ht2⟩
          · omega
        · show (if _ then _ else _) = _
          rw [if_neg (by omega)]
        · show (if _ then _ else _) = _
          rw [if_pos (.inr (hq' x hx))]
      have no : ¬ (lw (sideOf stc d).q > 8192 ∧ (sideOf stc d).f = false ∧ stc.op = false) → ldL h5 t8 fun a n c => Q (.slice a n c) h5 := fun hn => hcl (by unfold pendD; rw [if_neg hn]) hO3 F5 S5 A5
      obtain ⟨hc5, D5⟩ := S5.side d
      obtain ⟨lb5, qp5, qc5, ow5, _⟩ := D5.ex
      unfold smtp_Session_Feed_b6
      refine ifD (fun e1 => ?_) fun e1 => no fun hh => e1 (by omega)
      refine nn_mk (ldB_mk (ow5.cells.at (j := 2) rfl) (ifN (fun e2 => ?_) fun e2 => no fun hh => by rw [e2] at hh; cases hh.2.1))
      refine nn_mk (S5.cellB.2.1 (ifN (fun e3 => ?_) fun e3 => no fun hh => by rw [e3] at hh; cases hh.2.2))
      refine nn_mk (fail_c S5 A5 d fun h6 f6 S6 A6 => ?_)
      refine add_c A6 (err (dI2 d)) (by omega) fun o7 h7 ho7 f7 A7 => ⟨rfl, ?_⟩
      have z6 := f6.size
      have z5 := F5.size
      have z6' := f5.size
      have z4 := f4.size
      refine hcl (o' := o7) (st' := setSide stc d { sideOf stc d with f := true }) (evs' := evs ++ [err (dI2 d)]) (by unfold pendD; rw [if_pos ⟨by dsimp only; omega, e2, e3⟩]) (fun x hx => by rw [ho7 x (by omega)]; exact hO3 x hx) ?_ (S6.fr f7 (fun x hx hr => by omega) ho7) A7
      refine (F5.tr f6 fun x hx hr => ?_).tr f7 fun x hx hr => ?_
      · unfold SR at *; rw [hO3 x hx] at hr; exact hr
      · rw [hO3 x hx] at hr; unfold SR; omega
    unfold smtp_Session_Feed_l1
    refine readC_c S3 hil fun h4 f4 => ⟨_, rfl, ?_⟩
    have S4 := S3.fr f4 (fun _ _ h => h.elim) (Old.refl _ _)
    have A4 := A3.fr f4 (fun _ _ h => h.elim) (Old.refl _ _)
    have F4 : Fr (SR o k) h h4 := F3.tr f4 fun _ _ h => h.elim
    have z4 := f4.size
    have step : ∀ (dd : Bool), (sideOf stc dd).q ≠ [] → runP stc = ((runP (readD stc dd).1).1, (readD stc dd).2 ++ (runP (readD stc dd).1).2) → ∀ {h5 : Heap}, Fr (fun _ => False) h4 h5 → ∀ o' h', Old h5 o3 o' → Fr (SR o3 k) h5 h' → SesF o' k h' p (readD stc dd).1 → OutF o' k h' t8 (evs ++ (readD stc dd).2) → Kn () h' := fun dd hne hr {h5} f5 o' h' hO F S' A' => by
      have z5 := f5.size
      have hq : qn (readD stc dd).1 + 1 ≤ qn stc ∧ wt (readD stc dd).1 ≤ wt stc ∧ (readD stc dd).2.length ≤ 2 := by
        cases dd
        · have hne : stc.s.q ≠ [] := hne
          have h1 := readS_q stc
          have h2 := readS_wt stc hne
          have h3 := List.length_pos_iff.2 hne
          refine ⟨?_, h2⟩
          show qn (readS stc).1 + 1 ≤ _
          unfold qn; rw [h1.1, h1.2, List.length_tail]; omega
        · have hne : stc.c.q ≠ [] := hne
          have h1 := readC_q stc
          have h2 := readC_wt stc hne
          have h3 := List.length_pos_iff.2 hne
          refine ⟨?_, h2⟩
          show qn (readC stc).1 + 1 ≤ _
          unfold qn; rw [h1.1, h1.2, List.length_tail]; omega
      refine hK (qn (readD stc dd).1) () h' (by omega) ⟨_, _, o', rfl, S', A', fun x hx => by rw [hO x (by omega)]; exact hO3 x hx, ?_, by omega, by rw [List.length_append]; omega, by rw [hrun, hr]; simp⟩
      exact (F4.tr f5 fun _ _ h => h.elim).tr F fun x hx hr => by unfold SR at *; rw [hO3 x hx] at hr; exact hr
    refine ifN (fun e => ?_) fun e => ?_
    · unfold smtp_Session_Feed_b2
      refine readS_c S4 fun h5 f5 => ⟨_, rfl, ?_⟩
      have S5 := S4.fr f5 (fun _ _ h => h.elim) (Old.refl _ _)
      have A5 := A4.fr f5 (fun _ _ h => h.elim) (Old.refl _ _)
      refine ifN (fun e2 => fin (by rw [e]; decide) (by rw [e2]; decide) (f4.trans f5)) fun e2 => ?_
      exact feed_read S5 A5 false (canS_ne e2) (by omega) (by omega) rfl (step false (canS_ne e2) (runP_S (by rw [e]; decide) e2) f5)
    · unfold smtp_Session_Feed_b2
      refine readC_c S4 hil fun h5 f5 => ⟨_, rfl, ?_⟩
      have S5 := S4.fr f5 (fun _ _ h => h.elim) (Old.refl _ _)
      have A5 := A4.fr f5 (fun _ _ h => h.elim) (Old.refl _ _)
      refine ifN (fun e2 => by rw [e] at e2; cases e2) fun e2 => ?_
      exact feed_read S5 A5 true (canC_ne e2) (by omega) (by omega) rfl (step true (canC_ne e2) (runP_C e2) f5)
  rw [if_neg (by simp)]
  have pre : nn (some p.a) fun t30 => idxA (dI2 d) 3 (ldP h (Addr.add t30 ((dI2 d).toNat * 1)) fun t33 => if (Option.isNone t33) = true then (Q (.slice none 0 0) h) else (smtp_Session_Feed_b7 (some p.a) (dI2 d) (bs s) Q h)) := by
    refine nn_mk (idxA_mk (dN d) (by cases d <;> rfl) (by cases d <;> decide) ?_)
    rw [hdn]
    exact ldP_mk hc (ifNS b7)
  cases d
  · rw [if_pos (by rfl), if_neg (by decide)]; exact pre
  · rw [if_neg (by decide)]; exact pre
theorem Feed_no [Gh] (dir : Int) (h1 : dir ≠ 1) (h2 : dir ≠ 2) (s : Nm) {q : Option Addr} {Q : Value → Heap → Prop} (hk : Q (.slice none 0 0) h) : CallT Tryd.prog fn_smtp_Session_Feed #[.pointer q, .int .i64 dir, .string (bs s)] h Q := by
  apply smtp_Session_Feed_s
  unfold smtp_Session_Feed_v
  cases q with
  | none => rw [if_pos (by rfl)]; exact hk
  | some a =>
    rw [if_neg (by simp)]
    refine ifNe (fun _ => ?_) fun h => absurd h h1
    refine ifNe (fun _ => hk) fun h => absurd h h2
theorem Opaque_c [Gh] (S : SesF o k h p st) {Q : Value → Heap → Prop} (hk : Q (.bool st.op) h) : CallT Tryd.prog fn_smtp_Session_Opaque #[.pointer (some p.a)] h Q := by
  apply smtp_Session_Opaque_s
  unfold smtp_Session_Opaque_v
  rw [if_pos (by rfl)]
  refine nn_mk (S.cellB.2.1 hk)
end
end Go.Proofs.YtdpimhlppflidaaDoor
