/-
  The law ThresholdPlays.
-/
import Derived.Test.YtfcnplakgmdfiaaThrT
namespace Go.Proofs.Ytfcnplakgmdfiaa
set_option linter.unusedSimpArgs false
set_option linter.unusedVariables false
set_option maxRecDepth 20000
open Go
open Go.IntKind (wrap)
theorem fine_c [Gh] (f : Fl) {h : Heap} {Q : Value → Heap → Prop} (hk : ∀ b h', Fr (fun _ => False) h h' → Q (.bool b) h') :
    CallT Try.prog fn_law51_fine #[.agg #[.int .i64 f.proto, .bool f.src.v6, .int .u64 f.src.hi, .int .u64 f.src.lo, .bool f.dst.v6, .int .u64 f.dst.hi, .int .u64 f.dst.lo, .int .i64 f.sport, .int .i64 f.dport]] h Q := by
  apply law51_fine_s
  unfold law51_fine_v
  refine al_mk (vs := f.vals) fun t h1 f1 e1 o => ?_
  have k : ∀ b, Q (.bool b) h1 := fun b => hk b h1 f1
  have s4 : ldB h1 (Addr.add t 4) fun t21 => if t21 = true then (Q (.bool true) h1) else (ldI h1 (Addr.add (Addr.add t 4) 1) .u64 fun t25 => if (t25 == 0) = true then (ldI h1 (Addr.add (Addr.add t 4) 2) .u64 fun t30 => Q (.bool (decide (t30 < 4294967296))) h1) else (Q (.bool false) h1)) := by
    refine ldB_mk (o.cells.at rfl) (ifB (fun _ => k _) fun _ => ?_)
    refine ldI_mk ((o.sub 4).at rfl) (ifE (fun _ => ?_) fun _ => k _)
    exact ldI_mk ((o.sub 4).at rfl) (k _)
  refine ldB_mk (o.cells.at rfl) (ifB (fun _ => s4) fun _ => ?_)
  refine ldI_mk ((o.sub 1).at rfl) (ifE (fun _ => ?_) fun _ => k _)
  refine ldI_mk ((o.sub 1).at rfl) (ifD (fun _ => s4) fun _ => k _)
/-- The program keeps some counters, the reference not yet. -/
def MidK (lo N n0 : Nat) (h : Heap) (t x : Addr) (T : Int) (rs : List Ru) : Prop :=
  ∃ (okP okR : Nat → Prop) (r : Nat) (S : List Ct) (L : List Tri), TabR okP N h t r T S ∧ RefR okR h x T L ∧ (S.map Ct.tri).Perm (L.filter fun e => hasR rs e.1) ∧ (∀ b, okP b → okR b → False) ∧ (∀ b, okP b ∨ okR b → lo ≤ b ∧ b < n0) ∧ S.length ≤ 256 ∧ L.length ≤ 256
theorem both_kp [Gh] {lo N : Nat} {h0 h : Heap} {t x : Addr} {T : Int} (B : Both lo h0.size N h0 t x T) (f : Fr (fun b => h0.size ≤ b) h0 h) {rs : List Ru} {p : Option Addr} {cap : Nat} (Rr : Row 21 ruleV h p cap rs) (hl : rs.length ≤ 100) (hp : ∀ b, InA p b → h0.size ≤ b) {Q : Value → Heap → Prop}
    (hk : ∀ h', Fr (fun b => lo ≤ b ∧ b < h0.size) h h' → MidK lo N h0.size h' t x T rs → Q (.tuple #[]) h') : CallT Try.prog fn_threshold_Table_Keep #[.pointer (some t), .slice p rs.length cap] h Q := by
  obtain ⟨okP, okR, r, S, L, RP, RR, pm, dj, lt, hl2⟩ := B
  have RP := RP.fr f fun b _ h1 h2 => by have := (lt b (.inl h2)).2; omega
  have RR := RR.fr f fun b _ h1 h2 => by have := (lt b (.inr h2)).2; omega
  have lr := (lt r (.inl RP.lr)).2
  refine keep_c RP Rr hl (fun b hb => by have := hp b hb; omega) fun h' f' R' => hk h' (f'.mono fun b hb => hb ▸ lt r (.inl RP.lr)) ⟨okP, okR, r, _, L, R', ?_, ?_, dj, lt, Nat.le_trans (List.length_filter_le ..) hl2, ?_⟩
  · exact RR.fr f' fun b _ h1 h2 => dj b (h1 ▸ RP.lr) h2
  · have e : (S.filter fun c => hasR rs c.key).map Ct.tri = (S.map Ct.tri).filter fun e => hasR rs e.1 := by rw [List.filter_map]; rfl
    rw [e]; exact pm.filter _
  · rw [← pm.length_eq, List.length_map]; exact hl2
theorem both_kr [Gh] {lo N n0 : Nat} {h : Heap} {t x : Addr} {T : Int} {rs : List Ru} (B : MidK lo N n0 h t x T rs) (h0 : n0 ≤ h.size) (hlo : lo ≤ n0) {p : Option Addr} {cap : Nat} (Rr : Row 21 ruleV h p cap rs) (hl : rs.length ≤ 100) (hp : ∀ b, InA p b → n0 ≤ b) {Q : Value → Heap → Prop}
    (hk : ∀ h', Fr (fun b => lo ≤ b) h h' → Both lo h'.size N h' t x T → Q (.tuple #[]) h') : CallT Try.prog fn_ref51_Table_Keep #[.pointer (some x), .slice p rs.length cap] h Q := by
  obtain ⟨okP, okR, r, S, L, RP, RR, pm, dj, lt, hl1, hl2⟩ := B
  have okx := RR.okx
  have lx := (lt _ (.inr okx)).2
  have RR1 : RefR (fun b => okR b ∨ h.size ≤ b) h x T L := by
    obtain ⟨⟨q, cap, ox, rr, hp⟩, okx⟩ := RR
    exact ⟨⟨q, cap, ox, rr, fun b hb => ⟨(hp b hb).1, .inl (hp b hb).2⟩⟩, .inl okx⟩
  refine rKeep_c RR1 (fun b hb => .inr hb) (by omega) Rr hl (fun b hb => by have := hp b hb; omega) fun h' f' R' => ?_
  have z := f'.size
  refine hk h' (f'.mono fun b hb => by rw [hb]; exact (lt _ (.inr okx)).1) ⟨okP, fun b => (okR b ∨ h.size ≤ b) ∧ b < h'.size, r, S, _, ?_, ?_, pm, fun b hb hr => ?_, fun b hb => ?_, hl1⟩
  · refine RP.fr f' fun b hb h1 h2 => ?_
    rw [h1] at h2; exact dj _ h2 okx
  · obtain ⟨⟨q, cap, ox, rr, hp⟩, okx'⟩ := R'
    exact ⟨⟨q, cap, ox, rr, fun b hb => ⟨(hp b hb).1, (hp b hb).2, rr.own.lt hb⟩⟩, okx', ox.lt⟩
  · rcases hr.1 with h | h
    · exact dj b hb h
    · have := (lt b (.inl hb)).2; omega
  · rcases hb with h | h
    · have := lt b (.inl h); omega
    · refine ⟨?_, h.2⟩
      rcases h.1 with h | h
      · exact (lt b (.inr h)).1
      · omega
theorem el_rule : ElemT Try.prog T_sl_api_Rule T_api_Rule Try.t54 (.agg (ruleV (0, ⟨0, 0, 0, 0⟩)).toArray) :=
  ⟨Try.underlying47, by kernel_rfl, by kernel_rfl, by kernel_rfl, by decide +kernel⟩
theorem chk9 {h : Heap} {a : Addr} {c : List Value} {p1 : Int} {p2 : Bool} {p3 p4 : Int} {p5 : Bool} {p6 p7 p8 p9 : Int} (o : Cells h a (.int .i64 p1 :: .bool p2 :: .int .u64 p3 :: .int .u64 p4 :: .bool p5 :: .int .u64 p6 :: .int .u64 p7 :: .int .i64 p8 :: .int .i64 p9 :: c)) :
    ldI h a .i64 fun t59_0 => ldB h (Addr.add a 1) fun t59_1 => ldI h (Addr.add a 2) .u64 fun t59_2 => ldI h (Addr.add a 3) .u64 fun t59_3 => ldB h (Addr.add a 4) fun t59_4 => ldI h (Addr.add a 5) .u64 fun t59_5 => ldI h (Addr.add a 6) .u64 fun t59_6 => ldI h (Addr.add a 7) .i64 fun t59_7 => ldI h (Addr.add a 8) .i64 fun t59_8 =>
      (.agg #[.int .i64 t59_0, .bool t59_1, .int .u64 t59_2, .int .u64 t59_3, .bool t59_4, .int .u64 t59_5, .int .u64 t59_6, .int .i64 t59_7, .int .i64 t59_8] : Value) = .agg #[.int .i64 p1, .bool p2, .int .u64 p3, .int .u64 p4, .bool p5, .int .u64 p6, .int .u64 p7, .int .i64 p8, .int .i64 p9] := by
  refine (ldI_mk (o.at0 rfl) (ldB_mk (o.at rfl) (ldI_mk (o.at rfl) (ldI_mk (o.at rfl) (ldB_mk (o.at rfl) (ldI_mk (o.at rfl) (ldI_mk (o.at rfl) (ldI_mk (o.at rfl) (ldI_mk (o.at rfl) ?_)))))))))
  rfl
theorem plays_b2 [Gh] {la : Option Addr} {ln lc : Nat} {t y : Addr} {i : Int} {lo n0 N : Nat} {h : Heap} {T : Int} (B : Both lo n0 N h t y T) {Q : Value → Heap → Prop} {Kn : Int → Heap → Prop} (hk : Kn (wrap .i64 (i + 1)) h) :
    law51_ThresholdPlays_b2 la ln lc (some t) (some y) i Q Kn h := by
  unfold law51_ThresholdPlays_b2
  obtain ⟨m, hm, lp, lr⟩ := B.len
  refine lp _ ⟨_, rfl, lr _ ⟨_, rfl, ?_⟩⟩
  rw [if_neg (by simp)]
  exact hk
theorem ThresholdPlays_c [Gh] (w : Sl S_intrusionlaw51_Call) {h : Heap} (ow : SlOk 17 S_intrusionlaw51_Call.vals S_intrusionlaw51_Call.ok h w) {Q : Value → Heap → Prop} (hk : ∀ h', Fr (fun _ => False) h h' → Q (.bool true) h') :
    CallT Try.prog fn_law51_ThresholdPlays #[.slice w.p w.xs.length w.cap] h Q := by
  apply law51_ThresholdPlays_s
  unfold law51_ThresholdPlays_v
  have aw : ∀ {h1 : Heap}, Fr (fun _ => False) h h1 → CallT Try.prog fn_law51_awake #[] h1 fun v h2 => ∃ t55 : Bool, v = .bool t55 ∧ Q (.bool t55) h2 := fun f1 => awake_c fun h' f => ⟨_, rfl, hk h' (f1.trans f)⟩
  refine ifD (fun _ => aw (Fr.refl _ _)) fun hn => ?_
  refine new_c fun t r h2 f2 R2 => ⟨_, rfl, ?_⟩
  rw [if_neg (by simp)]
  have z2 := f2.size
  refine rNew_c fun y h3 f3 R3 => ⟨_, rfl, ?_⟩
  have z3 := f3.size
  have B3 : Both h.size h3.size 0 h3 t y 0 := both_new z2 (R2.to ⟨R2.lt, R2.own.lt⟩ ⟨R2.lr, R2.map.lt⟩ fun c hc => by cases hc) f3 R3
  have f13 : Fr (fun _ => False) h h3 := f2.trans f3
  refine LoopV.mk (fun st h' => ∃ (i : Nat) (T : Int), st = (i : Int) ∧ i ≤ w.xs.length ∧ Fr (fun b => h.size ≤ b) h3 h' ∧ Both h.size h'.size i h' t y T)
    (fun st _ => w.xs.length - st.toNat) ⟨0, 0, rfl, by omega, Fr.refl _ _, B3⟩ ?_
  rintro - h4 ⟨i, T, rfl, hin, f4, B4⟩
  have f14 : Fr (fun _ => False) h h4 := f13.tr f4 fun b hb hi => by omega
  have z4 := f4.size
  unfold law51_ThresholdPlays_l1
  refine ifD (fun hi => ?_) fun hi => ?_
  · have hlt : i < w.xs.length := by omega
    refine idx_sl (SlOk.fr0 S_intrusionlaw51_Call.ok_fr f14 ow) i rfl hlt fun ad c ok => ?_
    rw [Int.toNat_natCast]
    generalize w.xs[i] = cl at *
    refine (ldI_mk (c.at0 rfl) (ldI_mk (c.at rfl) (ldI_mk (c.at rfl) (ldI_mk (c.at rfl) (ldI_mk (c.at rfl) (ldI_mk (c.at rfl) (ldI_mk (c.at rfl) (ldI_mk (c.at rfl) (ldB_mk (c.at rfl) (ldI_mk (c.at rfl) (ldI_mk (c.at rfl) (ldB_mk (c.at rfl) (ldI_mk (c.at rfl) (ldI_mk (c.at rfl) (ldI_mk (c.at rfl) (ldI_mk (c.at rfl) (ldL_mk (c.at rfl) ?_)))))))))))))))))
    refine cp_mk (vs := cl.vals) rfl rfl fun t6 h5 f5 e5 o6 => ?_
    have z5 := f5.size
    have l6 := o6.lt
    have f45 : Fr (fun b => h.size ≤ b) h3 h5 := f4.trans (f5.mono fun _ h => h.elim)
    have f15 := f14.trans f5
    obtain ⟨fl, hfl⟩ : ∃ fl : Fl, fl = ⟨cl.F.Proto, ⟨cl.F.Src.V6, cl.F.Src.Hi, cl.F.Src.Lo⟩, ⟨cl.F.Dst.V6, cl.F.Dst.Hi, cl.F.Dst.Lo⟩, cl.F.Sport, cl.F.Dport⟩ := ⟨_, rfl⟩
    obtain ⟨th, hth⟩ : ∃ th : Th, th = ⟨cl.H.Kind, cl.H.By, cl.H.Count, cl.H.Seconds⟩ := ⟨_, rfl⟩
    have ok5 := S_intrusionlaw51_Call.ok_fr _ _ _ f5 ok
    have osid := ok5.k5
    have e6 : cl.vals = [.int .i64 cl.Kind, .int .i64 cl.At, .int .i64 cl.Sid, .int .i64 th.kind, .int .i64 th.by_, .int .i64 th.count, .int .i64 th.secs, .int .i64 fl.proto, .bool fl.src.v6, .int .u64 fl.src.hi, .int .u64 fl.src.lo, .bool fl.dst.v6, .int .u64 fl.dst.hi, .int .u64 fl.dst.lo, .int .i64 fl.sport, .int .i64 fl.dport, .slice cl.Sids.p cl.Sids.xs.length cl.Sids.cap] := by rw [hfl, hth]; rfl
    rw [e6] at o6
    clear e6 hfl hth ok5 ok c
    generalize cl.Sids = sids at *
    generalize cl.Kind = kd at *
    generalize cl.At = at_ at *
    generalize cl.Sid = sid at *
    have c7 := o6.sub 7
    refine (ldI_mk (c7.at0 rfl) (ldB_mk (c7.at rfl) (ldI_mk (c7.at rfl) (ldI_mk (c7.at rfl) (ldB_mk (c7.at rfl) (ldI_mk (c7.at rfl) (ldI_mk (c7.at rfl) (ldI_mk (c7.at rfl) (ldI_mk (c7.at rfl) ?_)))))))))
    refine fine_c fl fun b h6 f6 => ⟨_, rfl, ?_⟩
    have z6 := f6.size
    have f46 := f45.trans (f6.mono fun _ h => h.elim)
    have f16 := f15.trans f6
    have o6 := o6.fr0 f6
    have c7 := c7.fr0 f6
    have c3 := o6.sub 3
    have B6 := (B4.fr0 f5).fr0 f6
    have osid := SlOk.fr0 fr_c f6 osid
    refine ifN (fun _ => aw f16) fun _ => ?_
    refine ldL_mk (o6.cells.at rfl) (ifD (fun _ => aw f16) fun hs10 => ?_)
    refine ldI_mk (o6.cells.at0 rfl) ?_
    refine ifE (fun _ => ?_) fun _ => ?_
    · refine ldI_mk (o6.cells.at rfl) (ldI_mk (o6.cells.at rfl) ?_)
      refine (ldI_mk (c3.at0 rfl) (ldI_mk (c3.at rfl) (ldI_mk (c3.at rfl) (ldI_mk (c3.at rfl) ?_))))
      refine (ldI_mk (c7.at0 rfl) (ldB_mk (c7.at rfl) (ldI_mk (c7.at rfl) (ldI_mk (c7.at rfl) (ldB_mk (c7.at rfl) (ldI_mk (c7.at rfl) (ldI_mk (c7.at rfl) (ldI_mk (c7.at rfl) (ldI_mk (c7.at rfl) ?_)))))))))
      refine ldI_mk (o6.cells.at rfl) (ldI_mk (o6.cells.at rfl) ?_)
      refine (ldI_mk (c3.at0 rfl) (ldI_mk (c3.at rfl) (ldI_mk (c3.at rfl) (ldI_mk (c3.at rfl) ?_))))
      refine (ldI_mk (c7.at0 rfl) (ldB_mk (c7.at rfl) (ldI_mk (c7.at rfl) (ldI_mk (c7.at rfl) (ldB_mk (c7.at rfl) (ldI_mk (c7.at rfl) (ldI_mk (c7.at rfl) (ldI_mk (c7.at rfl) (ldI_mk (c7.at rfl) ?_)))))))))
      have hlo : h.size ≤ h4.size := f14.size
      refine pX B6 (by omega) (by omega) (by omega) at_ sid th fl fun h7 v f7 M7 => ?_
      have z7 := f7.size
      have o7 := o6.fr f7 (by omega)
      refine ⟨_, rfl, ⟨ldI_mk (o7.cells.at rfl) rfl, ldI_mk (o7.cells.at rfl) rfl, chk4 (o7.sub 3), chk9 (o7.sub 7), ?_⟩⟩
      refine rX M7 (by omega) (by omega) (by omega) fun h8 T' f8 B8 => ⟨_, rfl, ?_⟩
      rw [if_neg (by simp)]
      refine plays_b2 B8 ?_
      rw [wr (by omega) (by omega)]
      exact ⟨⟨i + 1, T', rfl, hlt, (f46.trans (f7.mono fun _ h => h.1)).trans (f8.mono fun _ h => h.1), B8⟩, by omega⟩
    · refine LoopV.mk (fun st h' => ∃ (k : Nat) (p : Option Addr) (cap : Nat), st = (p, ((sids.xs.take k).map fun s => ((s, th) : Ru)).length, cap, (k : Int)) ∧ k ≤ sids.xs.length ∧ Fr (fun b => h6.size ≤ b) h6 h' ∧ Own h' t6 [.int .i64 kd, .int .i64 at_, .int .i64 sid, .int .i64 th.kind, .int .i64 th.by_, .int .i64 th.count, .int .i64 th.secs, .int .i64 fl.proto, .bool fl.src.v6, .int .u64 fl.src.hi, .int .u64 fl.src.lo, .bool fl.dst.v6, .int .u64 fl.dst.hi, .int .u64 fl.dst.lo, .int .i64 fl.sport, .int .i64 fl.dport, .slice sids.p sids.xs.length sids.cap] T_intrusionlaw51_Call ∧
          Row 21 ruleV h' p cap ((sids.xs.take k).map fun s => ((s, th) : Ru)) ∧ ∀ b, InA p b → h6.size ≤ b)
        (fun st _ => sids.xs.length - st.2.2.2.toNat) ⟨0, none, 0, rfl, by omega, Fr.refl _ _, o6, Row.nil, fun b hb => (notInA hb).elim⟩ ?_
      rintro - h7 ⟨k, p, cap, rfl, hkl, f7, o7, R7, hp⟩
      have z7 := f7.size
      unfold law51_ThresholdPlays_l3
      dsimp only
      refine ldL_mk (o7.cells.at rfl) ?_
      have f67 : Fr (fun _ => False) h6 h7 := f7.mono' fun b hb hi => by omega
      refine ifD (fun e => ?_) fun e => ?_
      · have hlk : k < sids.xs.length := by omega
        refine ldL_mk (o7.cells.at rfl) ?_
        refine idx_sl (SlOk.fr0 fr_c f67 osid) k rfl hlk fun ad cd _ => ?_
        rw [Int.toNat_natCast]
        refine ldI_mk (cd.at0 rfl) ?_
        have c3 := o7.sub 3
        refine (ldI_mk (c3.at0 rfl) (ldI_mk (c3.at rfl) (ldI_mk (c3.at rfl) (ldI_mk (c3.at rfl) ?_))))
        have htk : (sids.xs.take (k + 1)).map (fun s => ((s, th) : Ru)) = (sids.xs.take k).map (fun s => ((s, th) : Ru)) ++ [(sids.xs[k], th)] := by
          have htk0 : sids.xs.take (k + 1) = sids.xs.take k ++ [sids.xs[k]] := by rw [List.take_append_getElem]
          rw [htk0, List.map_append]; rfl
        refine al_mk (vs := ruleV (sids.xs[k], th)) fun b h8 f8 e8 ob => ?_
        have z8 := f8.size
        refine (R7.fr0 f8).app el_rule Try.underlying47 (by intro k e; cases e) (by kernel_rfl) (by decide +kernel) ruleV_len (fun _ => rfl) (e := (sids.xs[k], th)) ob 1 (by simp; omega) fun p' c' h9 R9 f9 hn9 => ⟨_, _, _, rfl, ?_⟩
        rw [← htk] at R9 ⊢
        rw [wr (by omega) (by omega)]
        refine ⟨⟨k + 1, p', c', rfl, hlk, (f7.trans (f8.mono fun _ h => h.elim)).trans (f9.mono fun b hb => hp b hb), (o7.fr0 f8).fr f9 (fun hb => by have := hp _ hb; have := o6.lt; omega), R9, fun b hb => ?_⟩, by first | omega | (simp only; omega)⟩
        rcases hn9 b hb with h | h
        · exact hp b h
        · omega
      · unfold law51_ThresholdPlays_b4
        rw [List.take_of_length_le (show sids.xs.length ≤ k by omega)] at R7 ⊢
        have hlo : h.size ≤ h4.size := f14.size
        have B6 := B6.up (n1 := h6.size) (by omega)
        refine both_kp B6 f7 R7 (by simp; omega) hp fun h8 f8 M8 => ⟨rfl, ?_⟩
        have z8 := f8.size
        have R8 := R7.fr f8 fun b hb h => by have := hp b hb; omega
        refine both_kr M8 (by omega) (by omega) R8 (by simp; omega) hp fun h9 f9 B9 => ⟨rfl, ?_⟩
        refine plays_b2 B9 ?_
        rw [wr (by omega) (by omega)]
        refine ⟨⟨i + 1, T, rfl, hlt, ((f46.tr f7 fun b _ hb => by omega).trans (f8.mono fun _ h => h.1)).trans f9, B9.mono (by omega)⟩, by omega⟩
  · unfold law51_ThresholdPlays_b5
    exact aw f14
end Go.Proofs.Ytfcnplakgmdfiaa
