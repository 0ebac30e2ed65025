/-
  The reference's session: memory, can, client, server, read, waiting.
-/
import Derived.Test.YtdpimhlppflidaaDoorSmR
namespace Go.Proofs.YtdpimhlppflidaaDoor
set_option linter.unusedSimpArgs false
set_option linter.unusedVariables false
set_option maxRecDepth 20000
open Go
open Go.IntKind (wrap)
def rcl (p : SesA) (r : RS) (q1 : Option Addr) (c1 : Nat) (q2 : Option Addr) (c2 : Nat) : List Value :=
  [.pointer none, .pointer (some p.s1), .pointer (some p.s2), .slice none 0 0, .slice q1 r.c.q.length c1, .slice q2 r.s.q.length c2, .bool false, .bool r.c.f, .bool r.s.f, .int .i64 r.rp, .int .i64 r.it, .string (bs r.vb), .bool r.im, .string (bs r.num), .string (bs r.tx), .bool r.op]
structure RSesF (o : Tag) (k : Nat) (h : Heap) (p : SesA) (r : RS) : Prop where
  ex : ∃ q1 c1 q2 c2, Own h p.a (rcl p r q1 c1 q2 c2) T_intrusionref30_Session ∧ Que 2 lnV h q1 c1 r.c.q ∧ (∀ x, InA q1 x → o x = k + 2) ∧ Que 2 lnV h q2 c2 r.s.q ∧ (∀ x, InA q2 x → o x = k + 3) ∧ RSpl h p.s1 512 r.c.B ∧ RSpl h p.s2 512 r.s.B
  tag : o p.a.block = k + 1
  t1 : o p.s1.block = k + 4
  t2 : o p.s2.block = k + 5
def RR (o : Tag) (k : Nat) (x : Nat) : Prop := k < o x ∧ o x < k + 6
section
variable {o o' : Tag} {k : Nat} {h h' : Heap} {R : Nat → Prop} {p : SesA} {r : RS}
theorem RSpl.lt {b : Addr} {mx : Nat} {B : Nm} (S : RSpl h b mx B) : b.block < h.size := Own.lt S
theorem RSpl.fr {b : Addr} {mx : Nat} {B : Nm} (S : RSpl h b mx B) (f : Fr R h h') (hn : ¬ R b.block) : RSpl h' b mx B := Own.fr S f hn
theorem RSesF.lt (S : RSesF o k h p r) : p.a.block < h.size := by obtain ⟨q1, c1, q2, c2, ow, _⟩ := S.ex; exact ow.lt
theorem RSesF.fr (S : RSesF o k h p r) (f : Fr R h h') (hR : ∀ x, x < h.size → R x → o x ≤ k ∨ k + 6 ≤ o x) (ho : Old h o o') : RSesF o' k h' p r := by
  obtain ⟨q1, c1, q2, c2, ow, Q1, i1, Q2, i2, S1, S2⟩ := S.ex
  have tg := S.tag
  have t1 := S.t1
  have t2 := S.t2
  have l1 := S1.lt
  have l2 := S2.lt
  exact ⟨⟨q1, c1, q2, c2, ow.fr f fun hr => by have := hR _ ow.lt hr; omega, Q1.fr f fun x hx hr => by have := hR _ (Q1.lt hx) hr; have := i1 x hx; omega, fun x hx => by rw [ho x (Q1.lt hx)]; exact i1 x hx, Q2.fr f fun x hx hr => by have := hR _ (Q2.lt hx) hr; have := i2 x hx; omega, fun x hx => by rw [ho x (Q2.lt hx)]; exact i2 x hx, S1.fr f fun hr => by have := hR _ l1 hr; omega, S2.fr f fun hr => by have := hR _ l2 hr; omega⟩, by rw [ho _ ow.lt]; exact tg, by rw [ho _ l1]; exact t1, by rw [ho _ l2]; exact t2⟩
theorem RSesF.fr0 (S : RSesF o k h p r) (f : Fr (fun _ => False) h h') : RSesF o k h' p r := S.fr f (fun _ _ h => h.elim) (Old.refl _ _)
/-- A cell is written. -/
theorem RSesF.put (S : RSesF o k h p r) (r' : RS) (j : Nat) (v : Value) (hj : j < 16) (hv : cellV v = true) (h1 : r'.c.q = r.c.q) (h2 : r'.c.B = r.c.B) (h3 : r'.s.q = r.s.q) (h4 : r'.s.B = r.s.B)
    (he : ∀ q1 c1 q2 c2, (rcl p r q1 c1 q2 c2).set j v = rcl p r' q1 c1 q2 c2) {K : Heap → Prop} (hk : ∀ h', Fr (fun x => x = p.a.block) h h' → RSesF o k h' p r' → K h') : st1 h (p.a.add j) v K := by
  obtain ⟨q1, c1, q2, c2, ow, Q1, i1, Q2, i2, S1, S2⟩ := S.ex
  have tg := S.tag
  have t1 := S.t1
  have t2 := S.t2
  refine st1_own ow j hj hv fun h5 f5 s5 o5 => hk h5 f5 ⟨⟨q1, c1, q2, c2, ?_, ?_, i1, ?_, i2, ?_, ?_⟩, tg, t1, t2⟩
  · rw [← he]; exact o5
  · rw [h1]; exact Q1.fr f5 fun x hx hh => by subst hh; have := i1 _ hx; omega
  · rw [h3]; exact Q2.fr f5 fun x hx hh => by subst hh; have := i2 _ hx; omega
  · rw [h2]; exact S1.fr f5 fun hh => by rw [hh] at t1; omega
  · rw [h4]; exact S2.fr f5 fun hh => by rw [hh] at t2; omega
theorem RSesF.cell (S : RSesF o k h p r) {j : Nat} {v : Value} (he : ∀ q1 c1 q2 c2, (rcl p r q1 c1 q2 c2)[j]? = some v) : hcell h (p.a.add j) = some v := by
  obtain ⟨q1, c1, q2, c2, ow, _⟩ := S.ex
  exact ow.cells.at (he q1 c1 q2 c2)
theorem answered_c [Gh] (S : RSesF o k h p r) (hb : r.rp < 2 ^ 60) {Q : Value → Heap → Prop} (hk : Q (.int .i64 (rans r)) h) : CallT Tryd.prog fn_ref30_Session_answered #[.pointer (some p.a)] h Q := by
  apply ref30_Session_answered_s
  unfold ref30_Session_answered_v
  refine nn_mk (ldI_mk (S.cell (j := 9) fun _ _ _ _ => rfl) ?_)
  rw [wr (by omega) (by omega)]
  refine Qeq hk ?_
  congr 1
  unfold rans
  split <;> omega
theorem canC_c [Gh] (S : RSesF o k h p r) (hb : r.rp < 2 ^ 60) {Q : Value → Heap → Prop} (hk : Q (.bool (rcanC r)) h) : CallT Tryd.prog fn_ref30_Session_can #[.pointer (some p.a), .int .i64 1] h Q := by
  apply ref30_Session_can_s
  unfold ref30_Session_can_v
  unfold rcanC at hk
  obtain ⟨q1, c1, q2, c2, ow, Q1, i1, Q2, i2, S1, S2⟩ := S.ex
  refine nn_mk (ldB_mk (S.cell (j := 15) fun _ _ _ _ => rfl) (ifB (fun e => ?_) fun e => ?_))
  · rw [e] at hk; exact hk
  rw [e] at hk
  refine nn_mk (idxA_mk 1 rfl (by omega) ?_)
  have e67 : (p.a.add 6).add ((1 : Int).toNat * 1) = p.a.add 7 := add_add _ _ _
  have e34 : (p.a.add 3).add ((1 : Int).toNat * 1) = p.a.add 4 := add_add _ _ _
  rw [e67]
  refine ldB_mk (S.cell (j := 7) fun _ _ _ _ => rfl) (ifB (fun e2 => ?_) fun e2 => ?_)
  · rw [e2] at hk; exact hk
  rw [e2] at hk
  refine nn_mk (idxA_mk 1 rfl (by omega) ?_)
  rw [e34]
  refine ldL_mk (ow.cells.at (j := 4) rfl) (ifE (fun e3 => ?_) fun e3 => ?_)
  · have : r.c.q = [] := List.length_eq_zero_iff.1 (by omega)
    rw [this] at hk; exact hk
  have hne : r.c.q ≠ [] := fun h => e3 (by rw [h]; rfl)
  rw [decide_eq_true hne] at hk
  have hk : Q (.bool (!decide (r.it > rans r) || decide (r.vb ≠ kDATA) && decide (r.vb ≠ kTLS))) h := hk
  refine nn_mk (ldI_mk (S.cell (j := 10) fun _ _ _ _ => rfl) ?_)
  refine answered_c S hb ⟨_, rfl, ldI_ (S.cell (j := 10) fun _ _ _ _ => rfl), ?_⟩
  rw [if_pos (by rfl)]
  by_cases hgt : r.it > rans r
  · rw [decide_eq_true hgt] at hk
    rw [if_neg (by rw [decide_eq_true (by omega)]; decide)]
    refine nn_mk (ldS_mk (S.cell (j := 11) fun _ _ _ _ => rfl) (ifSn (m := kDATA) (fun e5 => ?_) fun e5 => ?_))
    · rw [decide_eq_true e5] at hk
      refine nn_mk (ldS_mk (S.cell (j := 11) fun _ _ _ _ => rfl) (Qeq hk ?_))
      have e1 : (⟨#[83, 84, 65, 82, 84, 84, 76, 83]⟩ : ByteArray) = bs kTLS := rfl
      rw [e1, bs_toList, bs_toList]
      congr 1
      by_cases hv : r.vb = kTLS
      · rw [hv]; rfl
      · rw [decide_eq_true hv]; simp [hv]
    · rw [decide_eq_false (fun h => h e5)] at hk; exact hk
  · rw [decide_eq_false hgt] at hk
    rw [if_pos (by rw [decide_eq_false (by omega)]; decide)]; exact hk
theorem canS_c [Gh] (S : RSesF o k h p r) (hb : r.rp < 2 ^ 60) {Q : Value → Heap → Prop} (hk : Q (.bool (rcanS r)) h) : CallT Tryd.prog fn_ref30_Session_can #[.pointer (some p.a), .int .i64 2] h Q := by
  apply ref30_Session_can_s
  unfold ref30_Session_can_v
  unfold rcanS at hk
  obtain ⟨q1, c1, q2, c2, ow, Q1, i1, Q2, i2, S1, S2⟩ := S.ex
  refine nn_mk (ldB_mk (S.cell (j := 15) fun _ _ _ _ => rfl) (ifB (fun e => ?_) fun e => ?_))
  · rw [e] at hk; exact hk
  rw [e] at hk
  refine nn_mk (idxA_mk 2 rfl (by omega) ?_)
  have e67 : (p.a.add 6).add ((2 : Int).toNat * 1) = p.a.add 8 := add_add _ _ _
  have e34 : (p.a.add 3).add ((2 : Int).toNat * 1) = p.a.add 5 := add_add _ _ _
  rw [e67]
  refine ldB_mk (S.cell (j := 8) fun _ _ _ _ => rfl) (ifB (fun e2 => ?_) fun e2 => ?_)
  · rw [e2] at hk; exact hk
  rw [e2] at hk
  refine nn_mk (idxA_mk 2 rfl (by omega) ?_)
  rw [e34]
  refine ldL_mk (ow.cells.at (j := 5) rfl) (ifE (fun e3 => ?_) fun e3 => ?_)
  · have : r.s.q = [] := List.length_eq_zero_iff.1 (by omega)
    rw [this] at hk; exact hk
  have hne : r.s.q ≠ [] := fun h => e3 (by rw [h]; rfl)
  rw [decide_eq_true hne] at hk
  have hk : Q (.bool (decide (r.num ≠ []) || decide (r.rp = 0) || decide (r.it > rans r))) h := hk
  refine nn_mk (ldI_mk (S.cell (j := 10) fun _ _ _ _ => rfl) ?_)
  refine answered_c S hb ⟨_, rfl, ldI_ (S.cell (j := 10) fun _ _ _ _ => rfl), ?_⟩
  rw [if_neg (by decide)]
  refine nn_mk (ldS_mk (S.cell (j := 13) fun _ _ _ _ => rfl) (ifSn (m := []) (fun e5 => ?_) fun e5 => ?_))
  · rw [decide_eq_true e5] at hk; exact hk
  · rw [decide_eq_false (fun h => h e5), Bool.false_or] at hk
    refine nn_mk (ldI_mk (S.cell (j := 9) fun _ _ _ _ => rfl) (ifE (fun e6 => ?_) fun e6 => ?_))
    · rw [decide_eq_true (show r.rp = 0 by omega)] at hk; exact hk
    · rw [decide_eq_false (show ¬ r.rp = 0 by omega), Bool.false_or] at hk
      refine Qeq hk ?_
      congr 1
      rw [decide_eq_decide]; omega
/-- What a function gives back: the session and the events in a row of their own. -/
def GivesR (o : Tag) (k : Nat) (h : Heap) (p : SesA) (x : RS × List Ev) (Q : Value → Heap → Prop) : Prop :=
  ∀ h' q c, Fr (fun x => x = p.a.block) h h' → RSesF o k h' p x.1 → Row 4 evV h' q c x.2 → (∀ x, InA q x → h.size ≤ x) → Q (.slice q x.2.length c) h'
theorem one_ev {T : TypeId} {h : Heap} {t : Addr} {e : Ev} (ow : Own h t (evV e) T) : Row 4 evV h (some t) 1 [e] := Row.of_own evV_len (L := [e]) ow
theorem failC_c [Gh] (S : RSesF o k h p r) {Q : Value → Heap → Prop} (hk : GivesR o k h p (rfailC r) Q) : CallT Tryd.prog fn_ref30_Session_fail #[.pointer (some p.a), .int .i64 1] h Q := by
  apply ref30_Session_fail_s
  unfold ref30_Session_fail_v
  refine nn_mk (idxA_mk 1 rfl (by omega) ?_)
  have e67 : (p.a.add 6).add ((1 : Int).toNat * 1) = p.a.add 7 := add_add _ _ _
  rw [e67]
  refine S.put (rfailC r).1 7 (.bool true) (by omega) rfl rfl rfl rfl rfl (fun _ _ _ _ => rfl) fun h1 f1 S1 => ?_
  refine al_mk (vs := evV (err 1)) fun t12 h2 f2 e2 o2 => ?_
  have z1 := f1.size
  exact hk h2 _ _ (f1.tr f2 fun _ _ h => h.elim) (S1.fr0 f2) (one_ev o2) fun x hx => by obtain ⟨a, h1, h2⟩ := hx; cases h1; omega
theorem failS_c [Gh] (S : RSesF o k h p r) {Q : Value → Heap → Prop} (hk : GivesR o k h p (rfailS r) Q) : CallT Tryd.prog fn_ref30_Session_fail #[.pointer (some p.a), .int .i64 2] h Q := by
  apply ref30_Session_fail_s
  unfold ref30_Session_fail_v
  refine nn_mk (idxA_mk 2 rfl (by omega) ?_)
  have e67 : (p.a.add 6).add ((2 : Int).toNat * 1) = p.a.add 8 := add_add _ _ _
  rw [e67]
  refine S.put (rfailS r).1 8 (.bool true) (by omega) rfl rfl rfl rfl rfl (fun _ _ _ _ => rfl) fun h1 f1 S1 => ?_
  refine al_mk (vs := evV (err 2)) fun t12 h2 f2 e2 o2 => ?_
  have z1 := f1.size
  exact hk h2 _ _ (f1.tr f2 fun _ _ h => h.elim) (S1.fr0 f2) (one_ev o2) fun x hx => by obtain ⟨a, h1, h2⟩ := hx; cases h1; omega
theorem GivesR.of {x : RS × List Ev} {Q : Value → Heap → Prop} {h1 : Heap} (hk : GivesR o k h p x Q) (f : Fr (fun x => x = p.a.block) h h1) : GivesR o k h1 p x Q := fun h' q c f' S R hq => by
  have := f.size
  exact hk h' q c (f.trans f') S R fun x hx => by have := hq x hx; omega
theorem rclient_c [Gh] (S : RSesF o k h p r) (s : Nm) (lo : Bool) (hs : s.length ≤ 2 ^ 26) (hb : r.it < 2 ^ 60) {Q : Value → Heap → Prop} (hk : GivesR o k h p (rclient r s) Q) :
    CallT Tryd.prog fn_ref30_Session_client #[.pointer (some p.a), .agg #[.string (bs s), .bool lo]] h Q := by
  apply ref30_Session_client_s
  unfold ref30_Session_client_v
  refine al_mk (vs := [.string (bs s), .bool lo]) fun t3 h1 f1 e1 o1 => ?_
  have S1 := S.fr0 f1
  have hk := hk.of (f1.mono fun _ h => h.elim)
  refine ldS_mk (o1.cells.at0 rfl) (nn_mk (ldB_mk (S1.cell (j := 12) fun _ _ _ _ => rfl) ?_))
  have ret : ∀ {h2 : Heap} {rn : RS} (e : Ev), RSesF o k h2 p rn → GivesR o k h2 p (rn, [e]) Q → alV h2 (.cells (evV e).toArray T_api_SmtpEvent) fun t h3 => Q (.slice (some t) 1 1) h3 := fun {h2 rn} e S2 hk => by
    refine al_mk (vs := evV e) fun t12 h3 f3 e3 o3 => ?_
    exact hk h3 _ _ (f3.mono fun _ h => h.elim) (S2.fr0 f3) (one_ev o3) fun x hx => by obtain ⟨a, h1, h2⟩ := hx; cases h1; omega
  unfold rclient at hk
  refine ifB (fun e => ?_) fun e => ?_
  · rw [if_pos e] at hk
    refine ifS (m := [46]) (fun e2 => ?_) fun e2 => ?_
    · rw [if_pos e2] at hk
      refine nn_mk (S1.put { r with im := false } 12 (.bool false) (by omega) rfl rfl rfl rfl rfl (fun _ _ _ _ => rfl) fun h2 f2 S2 => nn_mk ?_)
      refine ldI_mk (S2.cell (j := 10) fun _ _ _ _ => rfl) (nn_mk ?_)
      dsimp only
      rw [wr (by omega) (by omega)]
      refine S2.put { r with im := false, it := r.it + 1 } 10 (.int .i64 ((r.it : Int) + 1)) (by omega) rfl rfl rfl rfl rfl (fun _ _ _ _ => rfl) fun h3 f3 S3 => nn_mk ?_
      refine S3.put { r with im := false, it := r.it + 1, vb := [] } 11 (.string (bs [])) (by omega) rfl rfl rfl rfl rfl (fun _ _ _ _ => rfl) fun h4 f4 S4 => ?_
      exact ret ⟨4, 1, [], []⟩ S4 (hk.of ((f2.trans f3).trans f4))
    · rw [if_neg e2] at hk
      have fin : ∀ u : Nm, undotL s = u → ref30_Session_client_b1 (bs u) Q h1 := fun u hu => by
        unfold ref30_Session_client_b1
        rw [hu] at hk
        exact ret ⟨3, 1, [], u⟩ S1 hk
      refine ifSn (m := []) (fun e3 => ?_) fun e3 => fin s (by rw [e3]; rfl)
      have hpos := List.length_pos_iff.2 e3
      refine ixS s 0 rfl hpos (ifE (fun e4 => ?_) fun e4 => ?_)
      · refine slF s 1 rfl (by omega) (fin _ ?_)
        unfold undotL
        rw [if_pos]
        match s, hpos, e4 with
        | c :: u, _, e4 => exact congrArg (fun c => [c]) (byteI_inj e4)
      · refine fin s ?_
        unfold undotL
        rw [if_neg]
        match s, hpos, e4 with
        | c :: u, _, e4 =>
          intro hh
          have : c = 46 := by simpa using hh
          exact e4 (by show byteI c = 46; rw [this]; rfl)
  · rw [if_neg (by rw [e]; decide)] at hk
    refine Command_c s hs fun h2 f2 => ?_
    have S2 := S1.fr0 f2
    have hk := hk.of (f2.mono fun _ h => h.elim)
    cases hc : cmdL s with
    | none =>
      rw [hc] at hk
      dsimp only
      refine ⟨_, _, _, rfl, ?_⟩
      rw [if_pos (by rfl)]
      exact failC_c S2 fun h' q c f' S' R' hq => ⟨_, _, _, rfl, hk h' q c f' S' R' hq⟩
    | some vt =>
      obtain ⟨v, t⟩ := vt
      rw [hc] at hk
      dsimp only at hk ⊢
      refine ⟨_, _, _, rfl, ?_⟩
      rw [if_neg (by decide)]
      refine nn_mk (ldI_mk (S2.cell (j := 10) fun _ _ _ _ => rfl) (nn_mk ?_))
      rw [wr (by omega) (by omega)]
      refine S2.put { r with it := r.it + 1 } 10 (.int .i64 ((r.it : Int) + 1)) (by omega) rfl rfl rfl rfl rfl (fun _ _ _ _ => rfl) fun h3 f3 S3 => nn_mk ?_
      refine S3.put { r with it := r.it + 1, vb := v } 11 (.string (bs v)) (by omega) rfl rfl rfl rfl rfl (fun _ _ _ _ => rfl) fun h4 f4 S4 => ?_
      exact ret ⟨1, 1, v, t⟩ S4 (hk.of (f3.trans f4))
theorem rserver_c [Gh] (S : RSesF o k h p r) (s : Nm) (lo : Bool) (hs : s.length ≤ 2 ^ 26) (hb : r.rp < 2 ^ 59) (htx : r.tx.length ≤ 2 ^ 30) {Q : Value → Heap → Prop} (hk : GivesR o k h p (rserver r s) Q) :
    CallT Tryd.prog fn_ref30_Session_server #[.pointer (some p.a), .agg #[.string (bs s), .bool lo]] h Q := by
  apply ref30_Session_server_s
  unfold ref30_Session_server_v
  refine al_mk (vs := [.string (bs s), .bool lo]) fun t3 h1 f1 e1 o1 => ?_
  have S1 := S.fr0 f1
  have hk := hk.of (f1.mono fun _ h => h.elim)
  refine ldS_mk (o1.cells.at0 rfl) (Reply_c s (by omega) ?_)
  unfold rserver at hk
  by_cases hbad : badR s = true
  · rw [if_pos (.inl hbad)] at hk
    rw [if_pos hbad]
    refine ⟨_, _, _, _, rfl, ?_⟩
    rw [if_pos (by rfl)]
    exact failS_c S1 fun h' q c f' S' R' hq => ⟨_, _, _, rfl, hk h' q c f' S' R' hq⟩
  rw [if_neg hbad]
  refine ⟨_, _, _, _, rfl, ?_⟩
  rw [if_neg (by decide)]
  have htl : (s.take 3).length ≤ 3 := List.length_take_le ..
  have hdl : ((s.drop 3).drop 1).length ≤ s.length := by rw [List.length_drop, List.length_drop]; omega
  generalize s.take 3 = number at *
  generalize moreR (s.drop 3) = more at *
  generalize (s.drop 3).drop 1 = text at *
  have b1 : ¬ (r.num ≠ [] ∧ r.num ≠ number) → ref30_Session_server_b1 (some p.a) (bs number) (bs (rtext r text)) more Q h1 := fun hn => by
    rw [if_neg (by rintro (h | h); exact hbad h; exact hn h)] at hk
    unfold ref30_Session_server_b1
    refine nn_mk (S1.put { r with num := number } 13 (.string (bs number)) (by omega) rfl rfl rfl rfl rfl (fun _ _ _ _ => rfl) fun h2 f2 S2 => nn_mk ?_)
    refine S2.put { r with num := number, tx := rtext r text } 14 (.string (bs (rtext r text))) (by omega) rfl rfl rfl rfl rfl (fun _ _ _ _ => rfl) fun h3 f3 S3 => ?_
    have F3 := f2.trans f3
    refine ifB (fun em => ?_) fun em => ?_
    · rw [if_pos em] at hk
      exact hk h3 none 0 F3 S3 Row.nil fun x hx => (notInA hx).elim
    rw [if_neg (by rw [em]; decide)] at hk
    refine nn_mk (S3.put { r with num := [], tx := rtext r text } 13 (.string (bs [])) (by omega) rfl rfl rfl rfl rfl (fun _ _ _ _ => rfl) fun h4 f4 S4 => nn_mk ?_)
    refine S4.put { r with num := [], tx := [] } 14 (.string (bs [])) (by omega) rfl rfl rfl rfl rfl (fun _ _ _ _ => rfl) fun h5 f5 S5 => nn_mk ?_
    refine ldI_mk (S5.cell (j := 9) fun _ _ _ _ => rfl) (nn_mk ?_)
    dsimp only
    rw [wr (by omega) (by omega)]
    refine S5.put { r with num := [], tx := [], rp := r.rp + 1 } 9 (.int .i64 ((r.rp : Int) + 1)) (by omega) rfl rfl rfl rfl rfl (fun _ _ _ _ => rfl) fun h6 f6 S6 => nn_mk ?_
    have F6 := ((F3.trans f4).trans f5).trans f6
    refine ldI_mk (S6.cell (j := 9) fun _ _ _ _ => rfl) ?_
    have fin : ∀ {h7 : Heap} {rn : RS}, Fr (fun x => x = p.a.block) h1 h7 → RSesF o k h7 p rn → rn = rdone r number → ref30_Session_server_b3 (bs number) (bs (rtext r text)) Q h7 := fun {h7 rn} f7 S7 e7 => by
      subst e7
      unfold ref30_Session_server_b3
      refine al_mk (vs := evV ⟨2, 2, number, rtext r text⟩) fun t h8 f8 e8 o8 => ?_
      have z := f7.size
      exact hk h8 _ _ (f7.tr f8 fun _ _ h => h.elim) (S7.fr0 f8) (one_ev o8) fun x hx => by obtain ⟨a, h1, h2⟩ := hx; cases h1; omega
    have hdn : ¬ (r.rp + 1 > 1 ∧ r.rp = r.it) → rdone r number = { r with num := [], tx := [], rp := r.rp + 1 } := fun h => by unfold rdone; rw [if_neg h]
    have hdy : (r.rp + 1 > 1 ∧ r.rp = r.it) → rdone r number = { r with num := [], tx := [], rp := r.rp + 1, im := r.im || (decide (r.vb = kDATA) && decide (number = k354)), op := r.op || (decide (r.vb = kTLS) && decide (number = k220)) } := fun h => by unfold rdone; rw [if_pos h]
    refine ifD (fun e7 => ?_) fun e7 => fin F6 S6 (hdn fun h => by dsimp only at e7; omega).symm
    refine nn_mk (ldI_mk (S6.cell (j := 10) fun _ _ _ _ => rfl) (answered_c S6 (by show r.rp + 1 < _; omega) ⟨_, rfl, ldI_ (S6.cell (j := 10) fun _ _ _ _ => rfl), ?_⟩))
    have hans : rans { r with num := [], tx := [], rp := r.rp + 1 } = r.rp := rfl
    rw [hans]
    refine ifE (fun e8 => ?_) fun e8 => fin F6 S6 (hdn fun h => e8 (by rw [h.2])).symm
    have hyy := hdy ⟨by dsimp only at e7; omega, by dsimp only at e8; omega⟩
    have b2 : ∀ {h7 : Heap} {im : Bool}, Fr (fun x => x = p.a.block) h1 h7 → RSesF o k h7 p { r with num := [], tx := [], rp := r.rp + 1, im := im } → im = (r.im || (decide (r.vb = kDATA) && decide (number = k354))) → ref30_Session_server_b2 (some p.a) (bs number) (bs (rtext r text)) Q h7 := fun {h7 im} f7 S7 e9 => by
      unfold ref30_Session_server_b2
      have no : ∀ b : Bool, b = (decide (r.vb = kTLS) && decide (number = k220)) → b = false → ref30_Session_server_b3 (bs number) (bs (rtext r text)) Q h7 := fun b hb hf => fin f7 S7 (by rw [hyy, ← hb, hf, Bool.or_false, e9])
      refine nn_mk (ldS_mk (S7.cell (j := 11) fun _ _ _ _ => rfl) (ifS (m := kTLS) (fun ev => ?_) fun ev => no _ rfl (by rw [decide_eq_false ev]; rfl)))
      refine ifS (m := k220) (fun en => ?_) fun en => no _ rfl (by rw [decide_eq_false en, Bool.and_false])
      refine nn_mk (S7.put { r with num := [], tx := [], rp := r.rp + 1, im := im, op := true } 15 (.bool true) (by omega) rfl rfl rfl rfl rfl (fun _ _ _ _ => rfl) fun h8 f8 S8 => ?_)
      exact fin (f7.trans f8) S8 (by rw [hyy, decide_eq_true ev, decide_eq_true en, e9]; simp)
    have no : ∀ b : Bool, b = (decide (r.vb = kDATA) && decide (number = k354)) → b = false → ref30_Session_server_b2 (some p.a) (bs number) (bs (rtext r text)) Q h6 := fun b hb hf => b2 F6 S6 (by rw [← hb, hf, Bool.or_false])
    refine nn_mk (ldS_mk (S6.cell (j := 11) fun _ _ _ _ => rfl) (ifS (m := kDATA) (fun ev => ?_) fun ev => no _ rfl (by rw [decide_eq_false ev]; rfl)))
    refine ifS (m := k354) (fun en => ?_) fun en => no _ rfl (by rw [decide_eq_false en, Bool.and_false])
    refine nn_mk (S6.put { r with num := [], tx := [], rp := r.rp + 1, im := true } 12 (.bool true) (by omega) rfl rfl rfl rfl rfl (fun _ _ _ _ => rfl) fun h8 f8 S8 => ?_)
    exact b2 (F6.trans f8) S8 (by rw [decide_eq_true ev, decide_eq_true en]; simp)
  have b4 : ¬ (r.num ≠ [] ∧ r.num ≠ number) → ref30_Session_server_b4 (some p.a) (bs number) (bs text) more Q h1 := fun hn => by
    have b1 := b1 hn
    unfold ref30_Session_server_b4
    refine nn_mk (ldS_mk (S1.cell (j := 13) fun _ _ _ _ => rfl) (ifSn (m := []) (fun e5 => nn_mk ?_) fun e5 => ?_))
    · refine ldS_mk (S1.cell (j := 14) fun _ _ _ _ => rfl) ?_
      have e32 : (⟨#[32]⟩ : ByteArray) = bs [32] := rfl
      rw [e32, bs_append, bs_append, bs_size, bs_size, bs_size, bs_size]
      refine ⟨Int.le_trans (b := 2 ^ 40) (by rw [List.length_singleton]; omega) (by decide), Int.le_trans (b := 2 ^ 40) (by rw [List.length_append, List.length_singleton]; omega) (by decide), ?_⟩
      have : rtext r text = r.tx ++ [32] ++ text := by unfold rtext; rw [if_pos e5]
      rw [this] at b1; exact b1
    · have : rtext r text = text := by unfold rtext; rw [if_neg (fun h => h e5)]
      rw [this] at b1; exact b1
  refine nn_mk (ldS_mk (S1.cell (j := 13) fun _ _ _ _ => rfl) (ifSn (m := []) (fun e5 => nn_mk ?_) fun e5 => b4 fun h => h.1 e5))
  refine ldS_mk (S1.cell (j := 13) fun _ _ _ _ => rfl) (ifSn (fun e6 => ?_) fun e6 => b4 fun h => h.2 e6)
  rw [if_pos (.inr ⟨e5, e6⟩)] at hk
  exact failS_c S1 fun h' q c f' S' R' hq => ⟨_, _, _, rfl, hk h' q c f' S' R' hq⟩
end
end Go.Proofs.YtdpimhlppflidaaDoor
