/-
  The reference's Filter, New, Len.
-/
import Derived.Test.YtfcnplakgmdfiaaThrN
namespace Go.Proofs.Ytfcnplakgmdfiaa
set_option linter.unusedSimpArgs false
set_option linter.unusedVariables false
set_option maxRecDepth 20000
open Go
open Go.IntKind (wrap)
theorem RefR.fr {ok : Nat → Prop} {h h' : Heap} {x : Addr} {T : Int} {L : List Tri} (R : RefR ok h x T L) {P : Nat → Prop} (f : Fr P h h') (hP : ∀ b, b < h.size → P b → ¬ ok b) : RefR ok h' x T L := by
  obtain ⟨⟨p, cap, ox, r, hp⟩, okx⟩ := R
  exact ⟨⟨p, cap, ox.fr f (fun hh => hP _ ox.lt hh okx), r.fr f (fun b hb hh => hP b (r.own.lt hb) hh (hp b hb).2), hp⟩, okx⟩
theorem RefR.fr0 {ok : Nat → Prop} {h h' : Heap} {x : Addr} {T : Int} {L : List Tri} (f : Fr (fun _ => False) h h') (R : RefR ok h x T L) : RefR ok h' x T L := R.fr f fun _ _ h => h.elim
theorem chkF {h : Heap} {a : Addr} {f : Fl} (c : Cells h a f.vals) :
    (ldI h a .i64 fun x0 => ldB h (Addr.add a 1) fun x1 => ldI h (Addr.add a 2) .u64 fun x2 => ldI h (Addr.add a 3) .u64 fun x3 => ldB h (Addr.add a 4) fun x4 => ldI h (Addr.add a 5) .u64 fun x5 => ldI h (Addr.add a 6) .u64 fun x6 => ldI h (Addr.add a 7) .i64 fun x7 => ldI h (Addr.add a 8) .i64 fun x8 => (.agg #[.int .i64 x0, .bool x1, .int .u64 x2, .int .u64 x3, .bool x4, .int .u64 x5, .int .u64 x6, .int .i64 x7, .int .i64 x8] : Value) = .agg #[.int .i64 f.proto, .bool f.src.v6, .int .u64 f.src.hi, .int .u64 f.src.lo, .bool f.dst.v6, .int .u64 f.dst.hi, .int .u64 f.dst.lo, .int .i64 f.sport, .int .i64 f.dport]) := by
  refine (ldI_mk (c.at0 rfl) (ldB_mk (c.at rfl) (ldI_mk (c.at rfl) (ldI_mk (c.at rfl) (ldB_mk (c.at rfl) (ldI_mk (c.at rfl) (ldI_mk (c.at rfl) (ldI_mk (c.at rfl) (ldI_mk (c.at rfl) ?_)))))))))
  rfl
theorem rf_b2 [Gh] {ok : Nat → Prop} {h : Heap} {x : Addr} {T : Int} {L : List Tri} (R : RefR ok h x T L) (hok : ∀ b, h.size ≤ b → ok b) (hT : 0 ≤ T ∧ T ≤ 2 ^ 40) (num : ∀ e ∈ L, 0 ≤ e.2.1 ∧ e.2.1 ≤ 2 ^ 40 ∧ 0 ≤ e.2.2 ∧ e.2.2 ≤ 2 ^ 40) (nd : (L.map (·.1)).Nodup) {t8 t9 : Addr} {th : Th} {f : Fl} (hcB : countsB th = true)
    (o8 : Own h t8 th.vals T_api_Threshold) (o9 : Own h t9 f.vals T_api_Flow) (h8 : t8.block ≠ x.block) (hl : L.length ≤ 2 ^ 18) (sid : Int) {Q : Value → Heap → Prop}
    (hk : ∀ h' L', Fr (fun y => y = x.block) h h' → RefR ok h' x T L' → StepF L L' (keyL sid th f) T th.secs → Q (.bool (kindB th ((curL L (keyL sid th f) T th.secs).2 + 1))) h') :
    ref51_Table_Filter_b2 (some x) sid t8 t9 Q h := by
  unfold ref51_Table_Filter_b2
  obtain ⟨b1, b2, b3, b4, b5, b6, b7, b8⟩ := countsB_iff.1 hcB
  obtain ⟨⟨p, cap, ox, r, hp⟩, okx⟩ := R
  have lx := ox.lt
  have l8 := o8.lt
  have l9 := o9.lt
  refine (ldI_mk (o8.cells.at0 rfl) (ldI_mk (o8.cells.at rfl) (ldI_mk (o8.cells.at rfl) (ldI_mk (o8.cells.at rfl) ?_))))
  refine (ldI_mk (o9.cells.at0 rfl) (ldB_mk (o9.cells.at rfl) (ldI_mk (o9.cells.at rfl) (ldI_mk (o9.cells.at rfl) (ldB_mk (o9.cells.at rfl) (ldI_mk (o9.cells.at rfl) (ldI_mk (o9.cells.at rfl) (ldI_mk (o9.cells.at rfl) (ldI_mk (o9.cells.at rfl) ?_)))))))))
  refine nn_mk (ldI_mk (ox.cells.at0 rfl) ?_)
  have fin : ∀ h7 (t11 : Addr), Fr (fun _ => False) h h7 → h.size ≤ t11.block → Own h7 t11 (triV (keyL sid th f, T, 0)) T_intrusionref51_Counter → LoopV (fun (s : (Option Addr) × Nat × Nat × Int) h Kn => ref51_Table_Filter_l3 (some x) t8 t11 Q s.1 s.2.1 s.2.2.1 s.2.2.2 h Kn) (none, 0, 0, 0) h7 := by
    intro h7 t11 f7 e11 o11
    have z7 := f7.size
    refine rf_l3 (ox.fr0 f7) okx (fun b hb => hok b (by omega)) (r.fr f7 (fun _ _ => id)) hT num nd (fun b hb => ⟨(hp b hb).1, by have := r.own.lt hb; omega⟩) hcB (o8.fr0 f7) ⟨h8, by omega⟩ o11 (by omega) hl fun h' L' f' R' st => hk h' L' ?_ R' st
    exact (f7.mono fun _ h => h.elim).tr f' fun y hy hi => by rcases hi with h | h; exact h; omega
  refine ⟨?_, ?_⟩
  · refine rKeyOf_c sid th f ⟨by omega, by omega⟩ fun h5 f5 => ⟨_, _, _, _, _, _, _, _, _, _, _, rfl, ldI_mk ((ox.fr0 f5).cells.at0 rfl) rfl, ?_⟩
    refine al_mk (vs := triV (⟨0, ⟨0, 0, 0, 0⟩, noA, noA⟩, 0, 0)) fun t11 h6 f6 e6 o11 => ⟨chk4 ((o8.fr0 f5).fr0 f6).cells, chkF ((o9.fr0 f5).fr0 f6).cells, ldI_mk (((ox.fr0 f5).fr0 f6).cells.at0 rfl) rfl, ?_⟩
    have z5 := f5.size
    refine stN_own o11 (ws := triV (keyL sid th f, T, 0)) rfl rfl fun h7 f7 s7 o11 => fin h7 t11 ?_ (by omega) o11
    exact (f5.trans f6).tr f7 fun y hy hi => by omega
  · refine al_mk (vs := triV (⟨0, ⟨0, 0, 0, 0⟩, noA, noA⟩, 0, 0)) fun t11 h6 f6 e6 o11 => ⟨chk4 (o8.fr0 f6).cells, chkF (o9.fr0 f6).cells, ldI_mk ((ox.fr0 f6).cells.at0 rfl) rfl, ?_⟩
    refine rKeyOf_c sid th f ⟨by omega, by omega⟩ fun h5 f5 => ⟨_, _, _, _, _, _, _, _, _, _, _, rfl, ldI_mk (((ox.fr0 f6).fr0 f5).cells.at0 rfl) rfl, ?_⟩
    refine stN_own (o11.fr0 f5) (ws := triV (keyL sid th f, T, 0)) rfl rfl fun h7 f7 s7 o11 => fin h7 t11 ?_ (by omega) o11
    exact (f6.trans f5).tr f7 fun y hy hi => by omega
theorem rf_b1 [Gh] {ok : Nat → Prop} {h : Heap} {x : Addr} {T : Int} {L : List Tri} (R : RefR ok h x T L) (hok : ∀ b, h.size ≤ b → ok b) (at_ : Int) (hT : 0 ≤ T ∧ T ≤ 2 ^ 40) (ha : at_ ≤ 2 ^ 40) (num : ∀ e ∈ L, 0 ≤ e.2.1 ∧ e.2.1 ≤ 2 ^ 40 ∧ 0 ≤ e.2.2 ∧ e.2.2 ≤ 2 ^ 40) (nd : (L.map (·.1)).Nodup) {t8 t9 : Addr} {th : Th} {f : Fl} (hcB : countsB th = true)
    (o8 : Own h t8 th.vals T_api_Threshold) (o9 : Own h t9 f.vals T_api_Flow) (h8 : t8.block ≠ x.block) (h9 : t9.block ≠ x.block) (hl : L.length ≤ 2 ^ 18) (sid : Int) {Q : Value → Heap → Prop}
    (hk : ∀ h' L', Fr (fun y => y = x.block) h h' → RefR ok h' x (if at_ > T then at_ else T) L' → StepF L L' (keyL sid th f) (if at_ > T then at_ else T) th.secs → Q (.bool (kindB th ((curL L (keyL sid th f) (if at_ > T then at_ else T) th.secs).2 + 1))) h') :
    ref51_Table_Filter_b1 (some x) at_ sid t8 t9 Q h := by
  unfold ref51_Table_Filter_b1
  have R0 := R
  obtain ⟨⟨p, cap, ox, r, hp⟩, okx⟩ := R
  refine nn_mk (ldI_mk (ox.cells.at0 rfl) ?_)
  refine ifD (fun e => ?_) fun e => ?_
  · rw [if_pos e] at hk
    refine nn_mk (st1_own0 ox (by simp) rfl fun h1 f1 s1 o1 => ?_)
    have R1 : RefR ok h1 x at_ L := ⟨⟨p, cap, o1, r.fr f1 (fun b hb => (hp b hb).1), hp⟩, okx⟩
    exact rf_b2 R1 (fun b hb => hok b (by omega)) ⟨by omega, ha⟩ num nd hcB (o8.fr f1 h8) (o9.fr f1 h9) h8 hl sid fun h' L' f' R' st => hk h' L' (f1.trans f') R' st
  · rw [if_neg e] at hk
    exact rf_b2 R0 hok hT num nd hcB o8 o9 h8 hl sid hk
theorem rFilter_c [Gh] {ok : Nat → Prop} {h : Heap} {x : Addr} {T : Int} {L : List Tri} (R : RefR ok h x T L) (hok : ∀ b, h.size ≤ b → ok b) (hT : 0 ≤ T ∧ T ≤ 2 ^ 40) (num : ∀ e ∈ L, 0 ≤ e.2.1 ∧ e.2.1 ≤ 2 ^ 40 ∧ 0 ≤ e.2.2 ∧ e.2.2 ≤ 2 ^ 40) (nd : (L.map (·.1)).Nodup) (hl : L.length ≤ 2 ^ 18) (at_ sid : Int) (th : Th) (f : Fl) {Q : Value → Heap → Prop}
    (hk0 : countsB th = false → ∀ h', Fr (fun _ => False) h h' → RefR ok h' x T L → Q (.bool true) h')
    (hk : countsB th = true → ∀ h' L', Fr (fun y => y = x.block) h h' → RefR ok h' x (timeL T at_) L' → StepF L L' (keyL sid th f) (timeL T at_) th.secs → Q (.bool (kindB th ((curL L (keyL sid th f) (timeL T at_) th.secs).2 + 1))) h') :
    CallT Try.prog fn_ref51_Table_Filter #[.pointer (some x), .int .i64 at_, .int .i64 sid, .agg #[.int .i64 th.kind, .int .i64 th.by_, .int .i64 th.count, .int .i64 th.secs], .agg #[.int .i64 f.proto, .bool f.src.v6, .int .u64 f.src.hi, .int .u64 f.src.lo, .bool f.dst.v6, .int .u64 f.dst.hi, .int .u64 f.dst.lo, .int .i64 f.sport, .int .i64 f.dport]] h Q := by
  apply ref51_Table_Filter_s
  unfold ref51_Table_Filter_v
  have lx : x.block < h.size := by obtain ⟨⟨p, cap, ox, r, hp⟩, okx⟩ := R; exact ox.lt
  refine al_mk (vs := th.vals) fun t8 h1 f1 e1 o8 => ?_
  refine al_mk (vs := f.vals) fun t9 h2 f2 e2 o9 => ?_
  have z1 := f1.size
  have z2 := f2.size
  have o8 := o8.fr0 f2
  refine (ldI_mk (o8.cells.at0 rfl) (ldI_mk (o8.cells.at rfl) (ldI_mk (o8.cells.at rfl) (ldI_mk (o8.cells.at rfl) ?_))))
  refine rCounts_c th fun h3 f3 => ⟨_, rfl, ?_⟩
  have f03 := (f1.trans f2).trans f3
  have z3 := f03.size
  refine ifN (fun e => hk0 e h3 f03 (R.fr0 f03)) fun e => ?_
  have hk := hk e
  unfold timeL at hk
  refine ifD (fun e1 => ?_) fun e1 => ?_
  · rw [if_pos (show (1099511627776 : Int) < at_ by omega)] at hk
    exact rf_b1 (R.fr0 f03) (fun b hb => hok b (by omega)) _ hT (by omega) num nd e (o8.fr0 f3) (o9.fr0 f3) (by omega) (by omega) hl sid fun h' L' f' R' st => hk h' L' ((f03.mono fun _ h => h.elim).trans f') R' st
  · rw [if_neg (show ¬ (1099511627776 : Int) < at_ by omega)] at hk
    exact rf_b1 (R.fr0 f03) (fun b hb => hok b (by omega)) _ hT (by omega) num nd e (o8.fr0 f3) (o9.fr0 f3) (by omega) (by omega) hl sid fun h' L' f' R' st => hk h' L' ((f03.mono fun _ h => h.elim).trans f') R' st
theorem rNew_c [Gh] {h : Heap} {Q : Value → Heap → Prop} (hk : ∀ x h', Fr (fun _ => False) h h' → RefR (fun b => h.size ≤ b) h' x 0 [] → Q (.pointer (some x)) h') : CallT Try.prog fn_ref51_New #[] h Q := by
  apply ref51_New_s
  unfold ref51_New_v
  exact al_mk (vs := [.int .i64 0, .slice none 0 0]) fun x h1 f1 e1 o1 => hk x h1 f1 ⟨⟨none, 0, o1, ⟨⟨rfl, rfl⟩, Nat.le_refl _⟩, fun b hb => (notInA hb).elim⟩, by omega⟩
theorem rLen_c [Gh] {ok : Nat → Prop} {h : Heap} {x : Addr} {T : Int} {L : List Tri} (R : RefR ok h x T L) {Q : Value → Heap → Prop} (hk : Q (.int .i64 L.length) h) : CallT Try.prog fn_ref51_Table_Len #[.pointer (some x)] h Q := by
  apply ref51_Table_Len_s
  unfold ref51_Table_Len_v
  obtain ⟨⟨p, cap, ox, r, hp⟩, okx⟩ := R
  exact nn_mk (ldL_mk (ox.cells.at rfl) hk)
end Go.Proofs.Ytfcnplakgmdfiaa
