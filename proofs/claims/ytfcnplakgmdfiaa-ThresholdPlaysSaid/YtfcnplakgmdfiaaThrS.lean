/-
  Both tables: any alert; the law ThresholdFull.
-/
import Derived.Test.YtfcnplakgmdfiaaThrR
import Derived.Test.YtfcnplakgmdfiaaThrJ
namespace Go.Proofs.Ytfcnplakgmdfiaa
set_option linter.unusedSimpArgs false
set_option linter.unusedVariables false
set_option maxRecDepth 20000
open Go
open Go.IntKind (wrap)
theorem wf16 {n : Int} (h : (Lit.int .u16 n).wf = true) : 0 ≤ n ∧ n ≤ 65535 := by
  simp [Lit.wf, IntKind.min, IntKind.max, IntKind.signed, IntKind.bits] at h
  omega
theorem Both.up {lo n0 n1 N : Nat} {h : Heap} {t x : Addr} {T : Int} (B : Both lo n0 N h t x T) (hn : n0 ≤ n1) : Both lo n1 N h t x T := by
  obtain ⟨okP, okR, r, S, L, RP, RR, p, dj, lt, hl⟩ := B
  exact ⟨okP, okR, r, S, L, RP, RR, p, dj, fun b hb => by have := lt b hb; omega, hl⟩
/-- The program has answered v; the reference has not yet been asked. -/
def MidX (lo n0 N : Nat) (h : Heap) (t x : Addr) (at_ sid : Int) (th : Th) (f : Fl) (v : Bool) : Prop :=
  (countsB th = true ∧ ∃ T c, v = kindB th (c + 1) ∧ Mid lo n0 (N + 1) h t x T (timeL T at_) (keyL sid th f) th.secs c) ∨ (countsB th = false ∧ v = true ∧ ∃ T, Both lo n0 N h t x T)
theorem MidX.fr0 {lo n0 N : Nat} {h h' : Heap} {t x : Addr} {at_ sid : Int} {th : Th} {f : Fl} {v : Bool} (g : Fr (fun _ => False) h h') (B : MidX lo n0 N h t x at_ sid th f v) : MidX lo n0 N h' t x at_ sid th f v := by
  rcases B with ⟨h1, T, c, h2, h3⟩ | ⟨h1, h2, T, h3⟩
  · exact .inl ⟨h1, T, c, h2, h3.fr0 g⟩
  · exact .inr ⟨h1, h2, T, h3.fr0 g⟩
theorem pX [Gh] {lo n0 N : Nat} {h : Heap} {t x : Addr} {T : Int} (B : Both lo n0 N h t x T) (hn0 : n0 ≤ h.size) (hlo : lo ≤ h.size) (hN : N ≤ 2 ^ 39) (at_ sid : Int) (th : Th) (f : Fl) {Q : Value → Heap → Prop}
    (hk : ∀ h' v, Fr (fun b => lo ≤ b ∧ b < n0) h h' → MidX lo n0 N h' t x at_ sid th f v → Q (.bool v) h') :
    CallT Try.prog fn_threshold_Table_Filter #[.pointer (some t), .int .i64 at_, .int .i64 sid, .agg #[.int .i64 th.kind, .int .i64 th.by_, .int .i64 th.count, .int .i64 th.secs], .agg #[.int .i64 f.proto, .bool f.src.v6, .int .u64 f.src.hi, .int .u64 f.src.lo, .bool f.dst.v6, .int .u64 f.dst.hi, .int .u64 f.dst.lo, .int .i64 f.sport, .int .i64 f.dport]] h Q := by
  cases hc : countsB th with
  | true => exact both_p B hn0 hlo hN at_ sid th f hc fun h' c f' M => hk h' _ f' (.inl ⟨hc, T, c, rfl, M⟩)
  | false => exact both_p0 B hn0 hlo hN at_ sid th f hc fun h' f' M => hk h' _ f' (.inr ⟨hc, rfl, T, M⟩)
theorem rX [Gh] {lo n0 N : Nat} {h : Heap} {t x : Addr} {at_ sid : Int} {th : Th} {f : Fl} {v : Bool} (B : MidX lo n0 N h t x at_ sid th f v) (hn0 : n0 ≤ h.size) (hlo : lo ≤ h.size) (hN : N ≤ 2 ^ 39) {Q : Value → Heap → Prop}
    (hk : ∀ h' T, Fr (fun b => lo ≤ b ∧ b < n0) h h' → Both lo h'.size (N + 1) h' t x T → Q (.bool v) h') :
    CallT Try.prog fn_ref51_Table_Filter #[.pointer (some x), .int .i64 at_, .int .i64 sid, .agg #[.int .i64 th.kind, .int .i64 th.by_, .int .i64 th.count, .int .i64 th.secs], .agg #[.int .i64 f.proto, .bool f.src.v6, .int .u64 f.src.hi, .int .u64 f.src.lo, .bool f.dst.v6, .int .u64 f.dst.hi, .int .u64 f.dst.lo, .int .i64 f.sport, .int .i64 f.dport]] h Q := by
  rcases B with ⟨h1, T, c, rfl, h3⟩ | ⟨h1, rfl, T, h3⟩
  · exact both_r h3 hn0 hlo h1 fun h' f' B' => hk h' _ f' B'
  · exact both_r0 h3 (by omega) at_ sid th f h1 fun h' f' B' => hk h' T (f'.mono fun _ h => h.elim) ((B'.mono (show N ≤ N + 1 by omega)).up (by have := f'.size; omega))
theorem Both.len [Gh] {lo n0 N : Nat} {h : Heap} {t x : Addr} {T : Int} (B : Both lo n0 N h t x T) : ∃ n : Nat, n ≤ 256 ∧
    (∀ Q : Value → Heap → Prop, Q (.int .i64 n) h → CallT Try.prog fn_threshold_Table_Len #[.pointer (some t)] h Q) ∧ (∀ Q : Value → Heap → Prop, Q (.int .i64 n) h → CallT Try.prog fn_ref51_Table_Len #[.pointer (some x)] h Q) := by
  obtain ⟨okP, okR, r, S, L, RP, RR, p, dj, lt, hl⟩ := B
  have e := p.length_eq
  rw [List.length_map] at e
  exact ⟨S.length, hl, fun Q hk => len_c RP hk, fun Q hk => rLen_c RR (by rw [← e]; exact hk)⟩
theorem ThresholdFull_c [Gh] (n : Int) (w : Sl Int) (x : S_api_Threshold) {h : Heap} (on : kOk .u16 h n) (ow : SlOk 1 (fun n : Int => [Value.int .u16 n]) (kOk .u16) h w) (_ : x.ok h) {Q : Value → Heap → Prop} (hk : ∀ h', Fr (fun _ => False) h h' → Q (.bool true) h') :
    CallT Try.prog fn_law51_ThresholdFull #[.int .u16 n, .slice w.p w.xs.length w.cap, .agg x.vals.toArray] h Q := by
  have hn : 0 ≤ n ∧ n ≤ 65535 := wf16 on
  apply law51_ThresholdFull_s
  unfold law51_ThresholdFull_v
  obtain ⟨th, hth⟩ : ∃ th : Th, th = ⟨x.Kind, x.By, x.Count, x.Seconds⟩ := ⟨_, rfl⟩
  refine al_mk (vs := x.vals) fun t2 h1 f1 e1 o2 => ?_
  have o2 : Own h1 t2 th.vals T_api_Threshold := by rw [hth]; exact o2
  clear hth
  have aw : CallT Try.prog fn_law51_awake #[] h1 fun v h2 => ∃ t55 : Bool, v = .bool t55 ∧ Q (.bool t55) h2 := awake_c fun h' f => ⟨_, rfl, hk h' (f1.trans f)⟩
  refine ifD (fun _ => aw) fun hn4 => ?_
  refine ifD (fun _ => aw) fun hw6 => ?_
  refine new_c fun t r h2 f2 R2 => ⟨_, rfl, ?_⟩
  rw [if_neg (by simp)]
  have l2 := o2.lt
  have z1 := f1.size
  have z2 := f2.size
  refine rNew_c fun y h3 f3 R3 => ⟨_, rfl, ?_⟩
  have z3 := f3.size
  have B3 : Both h1.size h3.size 0 h3 t y 0 := both_new z2 (R2.to ⟨R2.lt, R2.own.lt⟩ ⟨R2.lr, R2.map.lt⟩ fun c hc => by cases hc) f3 R3
  have f13 : Fr (fun _ => False) h h3 := (f1.trans f2).trans f3
  have o3 := (o2.fr0 f2).fr0 f3
  have hwr : wrap .i64 n = n := wr (by omega) (by omega)
  refine LoopV.mk (fun st h' => ∃ (i : Nat) (T : Int), st = (i : Int) ∧ (i : Int) ≤ n ∧ Fr (fun b => h1.size ≤ b) h3 h' ∧ Both h1.size h'.size i h' t y T)
    (fun st _ => n.toNat - st.toNat) ⟨0, 0, rfl, by omega, Fr.refl _ _, B3⟩ ?_
  rintro - h4 ⟨i, T, rfl, hin, f4, B4⟩
  have o4 := o3.fr f4 (by omega)
  have f14 : Fr (fun _ => False) h h4 := f13.tr f4 fun b hb hi => by omega
  have z4 := f4.size
  unfold law51_ThresholdFull_l1
  rw [hwr]
  refine ifD (fun hi => ?_) fun hi => ?_
  · refine ⟨by decide, ?_⟩
    refine (ldI_mk (o4.cells.at0 rfl) (ldI_mk (o4.cells.at rfl) (ldI_mk (o4.cells.at rfl) (ldI_mk (o4.cells.at rfl) ?_))))
    refine ⟨by decide, ?_⟩
    refine (ldI_mk (o4.cells.at0 rfl) (ldI_mk (o4.cells.at rfl) (ldI_mk (o4.cells.at rfl) (ldI_mk (o4.cells.at rfl) ?_))))
    rw [wr (x := 1000 + (i : Int)) (by omega) (by omega)]
    have ed : wrap .i64 (Int.tdiv (i : Int) 3) = Int.tdiv (i : Int) 3 := by
      rw [Int.tdiv_eq_ediv_of_nonneg (by omega)]; exact wr (by omega) (by omega)
    rw [ed]
    refine flow_c _ _ (by omega) (by omega) fun h5 f5 => ⟨_, _, _, _, _, _, _, _, _, rfl, chk4 (o4.fr0 f5).cells, chk4 (o4.fr0 f5).cells, ?_⟩
    have z5 := f5.size
    refine pX (B4.fr0 f5) (by omega) (by omega) (by omega) _ _ th _ fun h6 v f6 M6 => ⟨_, rfl, chk4 ((o4.fr0 f5).fr f6 (by omega)).cells, ?_⟩
    have o6 := (o4.fr0 f5).fr f6 (by omega)
    have z6 := f6.size
    refine flow_c _ _ (by omega) (by omega) fun h7 f7 => ⟨_, _, _, _, _, _, _, _, _, rfl, chk4 (o6.fr0 f7).cells, ?_⟩
    have z7 := f7.size
    refine rX (M6.fr0 f7) (by omega) (by omega) (by omega) fun h8 T' f8 B8 => ⟨_, rfl, ?_⟩
    rw [if_neg (by simp)]
    rw [wr (by omega) (by omega)]
    refine ⟨⟨i + 1, T', rfl, by omega, ?_, B8⟩, by omega⟩
    exact (((f4.trans (f5.mono fun _ h => h.elim)).trans (f6.mono fun _ h => h.1)).trans (f7.mono fun _ h => h.elim)).trans (f8.mono fun _ h => h.1)
  · unfold law51_ThresholdFull_b2
    refine LoopV.mk (fun st h' => ∃ (j : Nat) (T : Int), st = (j : Int) ∧ j ≤ w.xs.length ∧ Fr (fun b => h1.size ≤ b) h4 h' ∧ Both h1.size h'.size (i + j) h' t y T)
      (fun st _ => w.xs.length - st.toNat) ⟨0, T, rfl, by omega, Fr.refl _ _, B4⟩ ?_
    rintro - h5 ⟨j, T, rfl, hjn, f5, B5⟩
    have o5 := o4.fr f5 (by omega)
    have f15 : Fr (fun _ => False) h h5 := f14.tr f5 fun b hb hi => by omega
    have z5 := f5.size
    have ow5 : SlOk 1 (fun n : Int => [Value.int .u16 n]) (kOk .u16) h5 w := SlOk.fr0 fr_c f15 ow
    unfold law51_ThresholdFull_l3
    refine ifD (fun hj => ?_) fun hj => ?_
    · refine idx_sl ow5 j rfl (by omega) fun ad cd okd => ?_
      rw [Int.toNat_natCast]
      refine ldI_mk (cd.at0 rfl) ?_
      obtain ⟨d0, d1⟩ := wf16 okd
      generalize w.xs[j] = d at *
      have ek : Int.tmod (wrap .i64 d) 400 = d % 400 := by rw [wr (by omega) (by omega), Int.tmod_eq_emod_of_nonneg (by omega)]
      have hk4 : 0 ≤ d % 400 ∧ d % 400 < 400 := by omega
      rw [ek]
      generalize d % 400 = k at *
      rw [wr (x := 1000 + k) (by omega) (by omega)]
      refine ⟨by decide, ?_⟩
      refine (ldI_mk (o5.cells.at0 rfl) (ldI_mk (o5.cells.at rfl) (ldI_mk (o5.cells.at rfl) (ldI_mk (o5.cells.at rfl) ?_))))
      refine (ldI_mk (o5.cells.at0 rfl) (ldI_mk (o5.cells.at rfl) (ldI_mk (o5.cells.at rfl) (ldI_mk (o5.cells.at rfl) ?_))))
      refine flow_c _ _ (by omega) (by omega) fun h6 f6 => ⟨_, _, _, _, _, _, _, _, _, rfl, chk4 (o5.fr0 f6).cells, chk4 (o5.fr0 f6).cells, ?_⟩
      have z6 := f6.size
      refine pX (B5.fr0 f6) (by omega) (by omega) (by omega) _ _ th _ fun h7 v f7 M7 => ⟨_, rfl, chk4 ((o5.fr0 f6).fr f7 (by omega)).cells, ?_⟩
      have o7 := (o5.fr0 f6).fr f7 (by omega)
      have z7 := f7.size
      refine flow_c _ _ (by omega) (by omega) fun h8 f8 => ⟨_, _, _, _, _, _, _, _, _, rfl, chk4 (o7.fr0 f8).cells, ?_⟩
      have z8 := f8.size
      refine rX (M7.fr0 f8) (by omega) (by omega) (by omega) fun h9 T' f9 B9 => ⟨_, rfl, ?_⟩
      rw [if_neg (by simp)]
      have B9 : Both h1.size h9.size (i + j + 1) h9 t y T' := B9
      obtain ⟨m, hm, lp, lr⟩ := B9.len
      refine lp _ ⟨_, rfl, lr _ ⟨_, rfl, ?_⟩⟩
      rw [if_neg (by simp)]
      refine lp _ ⟨_, rfl, ?_⟩
      rw [if_neg (by simp; omega)]
      rw [wr (by omega) (by omega)]
      refine ⟨⟨j + 1, T', rfl, by omega, ?_, B9⟩, by omega⟩
      exact (((f5.trans (f6.mono fun _ h => h.elim)).trans (f7.mono fun _ h => h.1)).trans (f8.mono fun _ h => h.elim)).trans (f9.mono fun _ h => h.1)
    · unfold law51_ThresholdFull_b4
      exact awake_c fun h' f => ⟨_, rfl, hk h' (f15.trans f)⟩
end Go.Proofs.Ytfcnplakgmdfiaa
