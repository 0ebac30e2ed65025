/-
  The reference's session: Feed.
-/
import Derived.Test.YtdpimhlppflidaaDoorSmS
namespace Go.Proofs.YtdpimhlppflidaaDoor
set_option linter.unusedSimpArgs false
set_option linter.unusedVariables false
set_option maxRecDepth 20000
open Go
open Go.IntKind (wrap)
def rside (r : RS) (d : Bool) : SD := if d = true then r.c else r.s
def rset (r : RS) (d : Bool) (sd : SD) : RS := if d = true then { r with c := sd } else { r with s := sd }
def rread (r : RS) (d : Bool) : RS × List Ev := if d = true then rreadC r else rreadS r
def rfail (r : RS) (d : Bool) : RS × List Ev := if d = true then rfailC r else rfailS r
theorem RelR.side {st : PS} {r : RS} (R : RelR st r) (d : Bool) : rside r d = sideOf st d := by
  cases d
  · exact R.s
  · exact R.c
theorem RelR.set {st : PS} {r : RS} (R : RelR st r) (d : Bool) (sd : SD) : RelR (setSide st d sd) (rset r d sd) := by
  cases d
  · exact ⟨R.c, rfl, R.im, R.op, R.gr, R.it, R.vb, R.num, R.tx, R.lo, R.gx, R.nx⟩
  · exact ⟨rfl, R.s, R.im, R.op, R.gr, R.it, R.vb, R.num, R.tx, R.lo, R.gx, R.nx⟩
theorem RelR.txl {st : PS} {r : RS} (R : RelR st r) : r.tx.length ≤ wt st := by
  have h1 := joinL_le st.tx
  rw [R.tx]
  unfold wt
  split
  · simp
  · omega
theorem rclient_n (r : RS) (s : Nm) : (rclient r s).1.rp + (rclient r s).1.it ≤ r.rp + r.it + 1 := by
  unfold rclient
  split
  · split
    · dsimp only; omega
    · show r.rp + r.it ≤ _; omega
  · split
    · show r.rp + r.it ≤ _; omega
    · dsimp only; omega
theorem rdone_n (r : RS) (n : Nm) : (rdone r n).rp = r.rp + 1 ∧ (rdone r n).it = r.it := by unfold rdone; split <;> exact ⟨rfl, rfl⟩
theorem rserver_n (r : RS) (s : Nm) : (rserver r s).1.rp + (rserver r s).1.it ≤ r.rp + r.it + 1 := by
  unfold rserver
  split
  · show r.rp + r.it ≤ _; omega
  · split
    · dsimp only; omega
    · dsimp only
      rw [(rdone_n _ _).1, (rdone_n _ _).2]; omega
theorem rread_n (r : RS) (d : Bool) : (rread r d).1.rp + (rread r d).1.it ≤ r.rp + r.it + 1 := by
  cases d
  · show (rreadS r).1.rp + (rreadS r).1.it ≤ _
    unfold rreadS
    split
    · dsimp only; omega
    · split
      · show r.rp + r.it ≤ _; omega
      · exact rserver_n (rpopS r) _
  · show (rreadC r).1.rp + (rreadC r).1.it ≤ _
    unfold rreadC
    split
    · dsimp only; omega
    · split
      · show r.rp + r.it ≤ _; omega
      · exact rclient_n (rpopC r) _
section
variable {o o' : Tag} {k : Nat} {h h' : Heap} {R : Nat → Prop} {p : SesA} {r : RS}
theorem RSesF.side (S : RSesF o k h p r) (d : Bool) : ∃ q c, hcell h (p.a.add (3 + dN d)) = some (.slice q (rside r d).q.length c) ∧ hcell h (p.a.add (dN d)) = some (.pointer (some (sideA p d))) ∧ Que 2 lnV h q c (rside r d).q ∧ (∀ x, InA q x → o x = k + 1 + dN d) ∧ RSpl h (sideA p d) 512 (rside r d).B ∧ o (sideA p d).block = k + 3 + dN d := by
  obtain ⟨q1, c1, q2, c2, ow, Q1, i1, Q2, i2, S1, S2⟩ := S.ex
  cases d
  · exact ⟨q2, c2, ow.cells.at (j := 5) rfl, ow.cells.at (j := 2) rfl, Q2, i2, S2, S.t2⟩
  · exact ⟨q1, c1, ow.cells.at (j := 4) rfl, ow.cells.at (j := 1) rfl, Q1, i1, S1, S.t1⟩
theorem RSesF.setq (S : RSesF o k h p r) (d : Bool) {h2 : Heap} {o2 : Tag} (f : Fr R h h2) (hR : ∀ x, x < h.size → R x → o x = k + 1 + dN d ∨ o x = k + 3 + dN d) (hO : Old h o o2) {sd : SD} {q : Option Addr} {c : Nat} (Q : Que 2 lnV h2 q c sd.q) (hq : ∀ x, InA q x → o2 x = k + 1 + dN d) (Sp : RSpl h2 (sideA p d) 512 sd.B) (hf : sd.f = (rside r d).f) {K : Heap → Prop}
    (hk : ∀ h3, Fr (fun x => x = p.a.block) h2 h3 → RSesF o2 k h3 p (rset r d sd) → K h3) : st1 h2 (p.a.add (3 + dN d)) (.slice q sd.q.length c) K := by
  obtain ⟨q1, c1, q2, c2, ow, Q1, i1, Q2, i2, S1, S2⟩ := S.ex
  have tg := S.tag
  have t1 := S.t1
  have t2 := S.t2
  have l1 := S1.lt
  have l2 := S2.lt
  have lp := ow.lt
  have z := f.size
  have hd : dN d = 1 ∨ dN d = 2 := by cases d
                                      · exact .inr rfl
                                      · exact .inl rfl
  have ow2 := ow.fr f fun hr => by have := hR _ lp hr; omega
  have tg2 : o2 p.a.block = k + 1 := by rw [hO _ lp]; exact tg
  have t12 : o2 p.s1.block = k + 4 := by rw [hO _ l1]; exact t1
  have t22 : o2 p.s2.block = k + 5 := by rw [hO _ l2]; exact t2
  cases d with
  | true =>
    have e1 : dN true = 1 := rfl
    have e2 : sideA p true = p.s1 := rfl
    rw [e1] at hq hR
    rw [e2] at Sp
    have i2' : ∀ x, InA q2 x → o2 x = k + 3 := fun x hx => by rw [hO x (Q2.lt hx)]; exact i2 x hx
    refine st1_own ow2 4 (by unfold rcl; simp) rfl fun h3 f3 s3 o3 => hk h3 f3 ⟨⟨q, c, q2, c2, ?_, Q.fr f3 fun x hx hh => ?_, hq, ?_, i2', Sp.fr f3 fun hh => ?_, ?_⟩, tg2, t12, t22⟩
    · rw [show rcl p (rset r true sd) q c q2 c2 = (rcl p r q1 c1 q2 c2).set 4 (.slice q sd.q.length c) by
        have hf : sd.f = r.c.f := hf
        show rcl p { r with c := sd } q c q2 c2 = _
        unfold rcl; dsimp only; rw [hf]; rfl]
      exact o3
    · subst hh; have := hq _ hx; omega
    · exact (Q2.fr f fun x hx hh => by have := hR x (Q2.lt hx) hh; have := i2 x hx; omega).fr f3 fun x hx hh => by subst hh; have := i2 _ hx; omega
    · rw [hh] at t12; omega
    · exact (S2.fr f fun hh => by have := hR _ l2 hh; omega).fr f3 fun hh => by rw [hh] at t22; omega
  | false =>
    have e1 : dN false = 2 := rfl
    have e2 : sideA p false = p.s2 := rfl
    rw [e1] at hq hR
    rw [e2] at Sp
    have i1' : ∀ x, InA q1 x → o2 x = k + 2 := fun x hx => by rw [hO x (Q1.lt hx)]; exact i1 x hx
    refine st1_own ow2 5 (by unfold rcl; simp) rfl fun h3 f3 s3 o3 => hk h3 f3 ⟨⟨q1, c1, q, c, ?_, ?_, i1', Q.fr f3 fun x hx hh => ?_, hq, ?_, Sp.fr f3 fun hh => ?_⟩, tg2, t12, t22⟩
    · rw [show rcl p (rset r false sd) q1 c1 q c = (rcl p r q1 c1 q2 c2).set 5 (.slice q sd.q.length c) by
        have hf : sd.f = r.s.f := hf
        show rcl p { r with s := sd } q1 c1 q c = _
        unfold rcl; dsimp only; rw [hf]; rfl]
      exact o3
    · exact (Q1.fr f fun x hx hh => by have := hR x (Q1.lt hx) hh; have := i1 x hx; omega).fr f3 fun x hx hh => by subst hh; have := i1 _ hx; omega
    · subst hh; have := hq _ hx; omega
    · exact (S1.fr f fun hh => by have := hR _ l1 hh; omega).fr f3 fun hh => by rw [hh] at t12; omega
    · rw [hh] at t22; omega
theorem dI2_nat (d : Bool) : (dI2 d).toNat * 1 = dN d := by cases d <;> rfl
theorem rread_c [Gh] (S : RSesF o k h p r) (d : Bool) (hne : (rside r d).q ≠ []) (hlw : lw (rside r d).q ≤ 2 ^ 26) (hb : r.rp + r.it < 2 ^ 59) (htx : r.tx.length ≤ 2 ^ 30) {Q : Value → Heap → Prop} (hk : GivesR o k h p (rread r d) Q) :
    CallT Tryd.prog fn_ref30_Session_read #[.pointer (some p.a), .int .i64 (dI2 d)] h Q := by
  apply ref30_Session_read_s
  unfold ref30_Session_read_v
  obtain ⟨q0, c0, hc, _, Q0, i0, Sp, t0⟩ := S.side d
  have hidx : ∀ {K : Prop}, K → idxA (dI2 d) 3 K := fun {K} hK => idxA_mk (dN d) (by cases d <;> rfl) (by cases d <;> decide) hK
  have had : ∀ a : Addr, (a.add 3).add ((dI2 d).toNat * 1) = a.add (3 + dN d) := fun a => by rw [dI2_nat]; exact add_add _ _ _
  cases hq : (rside r d).q with
  | nil => exact absurd hq hne
  | cons l q =>
    rw [hq] at Q0 hc
    have hll : l.1.length + 1 ≤ 2 ^ 26 := by rw [hq, lw_cons] at hlw; omega
    refine nn_mk (hidx ?_)
    rw [had]
    refine ldL_mk hc (Q0.idx lnV_len (by omega) 0 rfl (by simp) fun ad ci => ?_)
    have ci : Cells h (ad.add (0 * 2)) [.string (bs l.1), .bool l.2] := ci
    refine ldS_mk (ci.at0 rfl) (ldB_mk (ci.at (j := 1) rfl) ?_)
    refine al_mk (vs := [.string (bs []), .bool false]) fun t5 h1 f1 e1 o1 => ?_
    refine stN_own o1 (ws := [.string (bs l.1), .bool l.2]) (by rfl) (by rfl) fun h2 f2 s2 o2 => nn_mk (hidx ?_)
    rw [had]
    have F2 : Fr (fun _ => False) h h2 := f1.tr f2 fun b hb hi => by omega
    have z2 := F2.size
    have lp := S.lt
    refine ldL_mk (F2.hcell hc id) ((Que.fr0 F2 Q0).pop lnV_len (by omega) fun q2 c2 hp2 Q2 => nn_mk (hidx ?_))
    rw [had]
    refine S.setq d (sd := { rside r d with q := q }) F2 (fun _ _ h => h.elim) (Old.refl _ _) Q2 (fun x hx => i0 x (hp2 x hx)) (Sp.fr F2 id) rfl fun h3 f3 S3 => ?_
    have o3 := o2.fr f3 (by omega)
    have F3 : Fr (fun x => x = p.a.block) h h3 := (F2.mono fun _ h => h.elim).trans f3
    have hk := hk.of F3
    refine ldB_mk (o3.cells.at (j := 1) rfl) ?_
    cases d with
    | true =>
      have hq' : r.c.q = l :: q := hq
      have hpop : rset r true { rside r true with q := q } = rpopC r := by
        show ({ r with c := { r.c with q := q } } : RS) = { r with c := { r.c with q := r.c.q.tail } }
        rw [hq']; rfl
      rw [hpop] at S3
      have hr : rread r true = if l.2 = true then rfailC (rpopC r) else rclient (rpopC r) l.1 := by
        show rreadC r = _
        unfold rreadC; rw [hq']
      rw [hr] at hk
      refine ifB (fun e => ?_) fun e => ?_
      · rw [if_pos e] at hk
        exact failC_c S3 fun h' q c f' S' R' hq => ⟨_, _, _, rfl, hk h' q c f' S' R' hq⟩
      · rw [if_neg (by rw [e]; decide)] at hk
        rw [if_pos (by rfl)]
        refine ldS_mk (o3.cells.at0 rfl) (ldB_mk (o3.cells.at (j := 1) rfl) ?_)
        exact rclient_c S3 l.1 l.2 (by omega) (by show r.it < _; omega) fun h' q c f' S' R' hq => ⟨_, _, _, rfl, hk h' q c f' S' R' hq⟩
    | false =>
      have hq' : r.s.q = l :: q := hq
      have hpop : rset r false { rside r false with q := q } = rpopS r := by
        show ({ r with s := { r.s with q := q } } : RS) = { r with s := { r.s with q := r.s.q.tail } }
        rw [hq']; rfl
      rw [hpop] at S3
      have hr : rread r false = if l.2 = true then rfailS (rpopS r) else rserver (rpopS r) l.1 := by
        show rreadS r = _
        unfold rreadS; rw [hq']
      rw [hr] at hk
      refine ifB (fun e => ?_) fun e => ?_
      · rw [if_pos e] at hk
        exact failS_c S3 fun h' q c f' S' R' hq => ⟨_, _, _, rfl, hk h' q c f' S' R' hq⟩
      · rw [if_neg (by rw [e]; decide)] at hk
        rw [if_neg (by decide)]
        refine ldS_mk (o3.cells.at0 rfl) (ldB_mk (o3.cells.at (j := 1) rfl) ?_)
        exact rserver_c S3 l.1 l.2 (by omega) (by show r.rp < _; omega) htx fun h' q c f' S' R' hq => ⟨_, _, _, rfl, hk h' q c f' S' R' hq⟩
theorem waiting_c [Gh] (S : RSesF o k h p r) (d : Bool) (hlw : lw (rside r d).q ≤ 2 ^ 40) {Q : Value → Heap → Prop} (hk : Q (.int .i64 (lw (rside r d).q)) h) : CallT Tryd.prog fn_ref30_Session_waiting #[.pointer (some p.a), .int .i64 (dI2 d)] h Q := by
  apply ref30_Session_waiting_s
  unfold ref30_Session_waiting_v
  obtain ⟨q0, c0, hc, _, Q0, i0, Sp, t0⟩ := S.side d
  have hidx : ∀ {K : Prop}, K → idxA (dI2 d) 3 K := fun {K} hK => idxA_mk (dN d) (by cases d <;> rfl) (by cases d <;> decide) hK
  have had : ∀ a : Addr, (a.add 3).add ((dI2 d).toNat * 1) = a.add (3 + dN d) := fun a => by rw [dI2_nat]; exact add_add _ _ _
  generalize (rside r d).q = L at *
  refine LoopV.go (fun n s h' => ∃ i : Nat, s.2 = (i : Int) ∧ s.1 = ((lw (L.take i) : Nat) : Int) ∧ i ≤ L.length ∧ n = L.length - i ∧ h' = h) L.length ⟨0, rfl, rfl, by omega, rfl, rfl⟩ ?_
  rintro n ⟨w, t⟩ h1 ⟨i, ht, hw, hi, rfl, rfl⟩ Kn hK
  have ht : t = (i : Int) := ht
  have hw : w = ((lw (L.take i) : Nat) : Int) := hw
  subst ht hw
  dsimp only
  unfold ref30_Session_waiting_l1
  refine nn_mk (hidx ?_)
  rw [had]
  refine ldL_mk hc (ifD (fun e => nn_mk (hidx ?_)) fun e => ?_)
  · rw [had]
    have hlt : i < L.length := by omega
    refine ldL_mk hc (Q0.idx lnV_len (by omega) i rfl hlt fun ad ci => ?_)
    have ci : Cells h1 (ad.add (i * 2)) [.string (bs L[i].1), .bool L[i].2] := ci
    rw [Int.toNat_natCast]
    refine ldS_mk (ci.at0 rfl) ?_
    have h1' := lw_take L i hlt
    have h2' := lw_take_le L (i + 1)
    have h3' := lw_len L
    rw [bs_size, wr (x := ((L[i].1.length : Nat) : Int) + 1) (by omega) (by omega), wr (by omega) (by omega), wr (by omega) (by omega)]
    exact hK (L.length - (i + 1)) _ _ (by omega) ⟨i + 1, rfl, by dsimp only; omega, hlt, rfl, rfl⟩
  · have : i = L.length := by omega
    subst this
    rw [List.take_length]; exact hk
theorem ROpaque_c [Gh] (S : RSesF o k h p r) {Q : Value → Heap → Prop} (hk : Q (.bool r.op) h) : CallT Tryd.prog fn_ref30_Session_Opaque #[.pointer (some p.a)] h Q := by
  apply ref30_Session_Opaque_s
  unfold ref30_Session_Opaque_v
  rw [if_pos (by rfl)]
  exact nn_mk (ldB_mk (S.cell (j := 15) fun _ _ _ _ => rfl) hk)
theorem RFeed_no [Gh] (dir : Int) (h1 : dir ≠ 1) (h2 : dir ≠ 2) (s : Nm) {q : Option Addr} {Q : Value → Heap → Prop} (hk : Q (.slice none 0 0) h) : CallT Tryd.prog fn_ref30_Session_Feed #[.pointer q, .int .i64 dir, .string (bs s)] h Q := by
  apply ref30_Session_Feed_s
  unfold ref30_Session_Feed_v
  cases q with
  | none => rw [if_pos (by rfl)]; exact hk
  | some a =>
    rw [if_neg (by simp)]
    refine ifNe (fun _ => ?_) fun h => absurd h h1
    refine ifNe (fun _ => hk) fun h => absurd h h2
end
end Go.Proofs.YtdpimhlppflidaaDoor
