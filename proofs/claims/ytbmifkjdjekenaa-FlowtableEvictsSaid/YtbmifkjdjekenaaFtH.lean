/-
  The reference's table.
-/
import Derived.Test.YtbmifkjdjekenaaFtG
namespace Go.Proofs.Ytbmifkjdjekenaa
set_option linter.unusedSimpArgs false
set_option linter.unusedVariables false
set_option maxRecDepth 20000
open Go
open Go.IntKind (wrap)
attribute [local irreducible] Addr.add stN st1 idxA idxS alV sliceStr LoopV
def entV (e : FEn) : List Value := [.int .i64 e.id, .int .i64 e.value, .int .i64 e.last, .int .i64 e.f.proto, .bool e.f.src.v6, .int .u64 e.f.src.hi, .int .u64 e.f.src.lo, .bool e.f.dst.v6, .int .u64 e.f.dst.hi, .int .u64 e.f.dst.lo, .int .i64 e.f.sport, .int .i64 e.f.dport]
theorem entV_len (e : FEn) : (entV e).length = 12 := rfl
theorem el_ent : ElemT Try.prog T_sl_intrusionref22_Entry T_intrusionref22_Entry Try.t78 (.agg (entV ⟨0, 0, 0, zeroF⟩).toArray) := ⟨Try.underlying74, by kernel_rfl, by kernel_rfl, by kernel_rfl, by decide +kernel⟩
theorem appE [Gh] {h : Heap} {p : Option Addr} {cap : Nat} {L : List FEn} (R : Row 12 entV h p cap L) {e : FEn} {b : Addr} (ob : Own h b (entV e) T_intrusionref22_Entry) (hl : L.length ≤ 2 ^ 29) {K : Value → Heap → Prop}
    (hk : ∀ p' cap' h', Row 12 entV h' p' cap' (L ++ [e]) → Fr (InA p) h h' → (∀ b, InA p' b → InA p b ∨ h.size ≤ b) → K (.slice p' (L ++ [e]).length cap') h') :
    bltV Try.prog .append #[T_sl_intrusionref22_Entry, T_sl_intrusionref22_Entry] T_sl_intrusionref22_Entry #[false, false] #[.slice p L.length cap, .slice (some b) 1 1] h K :=
  R.app el_ent Try.underlying74 (by intro k e; cases e) (by kernel_rfl) (by decide +kernel) entV_len (fun _ => rfl) ob 1 hl hk
structure RefF (ok : Nat → Prop) (h : Heap) (x : Addr) (st : St) (p : Option Addr) (cap : Nat) : Prop where
  own : Own h x [.int .i64 st.most, .int .i64 st.timeout, .int .i64 st.time, .int .i64 st.used, .slice p st.L.length cap] T_intrusionref22_Table
  row : Row 12 entV h p cap st.L
  pb : ∀ b, InA p b → b ≠ x.block ∧ ok b
  okx : ok x.block
theorem RefF.fr {ok : Nat → Prop} {h h' : Heap} {x : Addr} {st : St} {p : Option Addr} {cap : Nat} (R : RefF ok h x st p cap) {P : Nat → Prop} (f : Fr P h h') (hP : ∀ b, b < h.size → P b → ¬ ok b) : RefF ok h' x st p cap :=
  ⟨R.own.fr f fun hp => hP _ R.own.lt hp R.okx, R.row.fr f fun b hb hp => hP _ (R.row.lt hb) hp (R.pb b hb).2, R.pb, R.okx⟩
theorem RefF.fr0 {ok : Nat → Prop} {h h' : Heap} {x : Addr} {st : St} {p : Option Addr} {cap : Nat} (f : Fr (fun _ => False) h h') (R : RefF ok h x st p cap) : RefF ok h' x st p cap := R.fr f fun _ _ h => h.elim
theorem wrong_c [Gh] {ok : Nat → Prop} {h : Heap} {x : Addr} {st : St} {p : Option Addr} {cap : Nat} (R : RefF ok h x st p cap) (at_ : Int) {Q : Value → Heap → Prop} (hk : Q (.bool (lateB st at_)) h) : CallT Try.prog fn_ref22_Table_wrong #[.pointer (some x), .int .i64 at_] h Q := by
  apply ref22_Table_wrong_s
  unfold ref22_Table_wrong_v
  have ct := R.own.cells
  repeat (first | (first | refine ldI_mk (by first | exact ct.at rfl | exact ct.at0 rfl) ?_ | refine ldB_mk (by first | exact ct.at rfl | exact ct.at0 rfl) ?_ | refine ldL_mk (by first | exact ct.at rfl | exact ct.at0 rfl) ?_ | refine ldP_mk (by first | exact ct.at rfl | exact ct.at0 rfl) ?_ | refine ldS_mk (by first | exact ct.at rfl | exact ct.at0 rfl) ?_ | refine ldM_mk (by first | exact ct.at rfl | exact ct.at0 rfl) ?_) | refine nn_mk ?_ | refine And.intro (by (repeat (first | refine ldI_mk (by first | exact ct.at rfl | exact ct.at0 rfl) ?_ | refine ldB_mk (by first | exact ct.at rfl | exact ct.at0 rfl) ?_ | refine ldL_mk (by first | exact ct.at rfl | exact ct.at0 rfl) ?_ | refine ldP_mk (by first | exact ct.at rfl | exact ct.at0 rfl) ?_ | refine ldS_mk (by first | exact ct.at rfl | exact ct.at0 rfl) ?_ | refine ldM_mk (by first | exact ct.at rfl | exact ct.at0 rfl) ?_)); exact rfl) ?_ | refine ifNS ?_ | refine And.intro (by decide) ?_)
  unfold lateB at hk
  refine ifD (fun e => ?_) fun e => ?_
  · rw [decide_eq_true e] at hk; exact hk
  · rw [decide_eq_false e] at hk; exact hk
theorem limit_c [Gh] (n most : Int) (hm : 1 ≤ most) {h : Heap} {Q : Value → Heap → Prop} (hk : Q (.int .i64 (boundI n most)) h) : CallT Try.prog fn_ref22_limit #[.int .i64 n, .int .i64 1, .int .i64 most] h Q := by
  apply ref22_limit_s
  unfold ref22_limit_v
  unfold boundI at hk
  refine ifD (fun e => ?_) fun e => ifD (fun e2 => ?_) fun e2 => ?_
  · rw [if_pos e] at hk; exact hk
  · rw [if_neg e, if_pos e2] at hk; exact hk
  · rw [if_neg e, if_neg e2] at hk; exact hk
theorem rNew_c [Gh] (most timeout : Int) {h : Heap} {Q : Value → Heap → Prop} (hk : ∀ x h', Fr (fun _ => False) h h' → RefF (fun b => h.size ≤ b) h' x (newS most timeout) none 0 → Q (.pointer (some x)) h') : CallT Try.prog fn_ref22_New #[.int .i64 most, .int .i64 timeout] h Q := by
  apply ref22_New_s
  unfold ref22_New_v
  refine limit_c _ _ (by omega) ⟨_, rfl, limit_c _ _ (by omega) ⟨_, rfl, ?_⟩⟩
  refine al_mk (vs := [.int .i64 (boundI most 64), .int .i64 (boundI timeout 1099511627776), .int .i64 0, .int .i64 0, .slice none 0 0]) fun x h1 f1 e1 o1 => ?_
  exact hk x h1 f1 ⟨o1, Row.nil, fun b hb => (notInA hb).elim, by omega⟩
/-- The flows without one. -/
theorem without_c [Gh] {ok : Nat → Prop} {h : Heap} {x : Addr} {st : St} {p : Option Addr} {cap : Nat} (R : RefF ok h x st p cap) (hok : ∀ b, h.size ≤ b → ok b) (hl : st.L.length ≤ 64) (id : Int) {Q : Value → Heap → Prop}
    (hk : ∀ h' p' cap', Fr (fun b => b = x.block) h h' → (st2 : St) → st2 = { st with L := without st.L id } → RefF ok h' x st2 p' cap' → (∀ b, InA p' b → h.size ≤ b) → Q (.bool (decide ((without st.L id).length < st.L.length))) h') :
    CallT Try.prog fn_ref22_Table_without #[.pointer (some x), .int .i64 id] h Q := by
  apply ref22_Table_without_s
  unfold ref22_Table_without_v
  have lx := R.own.lt
  refine LoopV.mk (fun s h' => ∃ (i : Nat), s.2.2.2 = (i : Int) ∧ i ≤ st.L.length ∧ s.2.1 = (without (st.L.take i) id).length ∧ Fr (fun _ => False) h h' ∧ Row 12 entV h' s.1 s.2.2.1 (without (st.L.take i) id) ∧ ∀ b, InA s.1 b → h.size ≤ b) (fun s _ => st.L.length - s.2.2.2.toNat)
    ⟨0, rfl, by omega, rfl, Fr.refl _ _, Row.nil, fun b hb => (notInA hb).elim⟩ ?_
  rintro ⟨a, n, c, j⟩ h1 ⟨i, hj, hi, hn, f1, Ra, ha⟩
  dsimp only at hj hn Ra ha
  subst hj hn
  unfold ref22_Table_without_l1
  dsimp only
  have R1 := R.fr0 f1
  have ct := R1.own.cells
  repeat (first | (first | refine ldI_mk (by first | exact ct.at rfl | exact ct.at0 rfl) ?_ | refine ldB_mk (by first | exact ct.at rfl | exact ct.at0 rfl) ?_ | refine ldL_mk (by first | exact ct.at rfl | exact ct.at0 rfl) ?_ | refine ldP_mk (by first | exact ct.at rfl | exact ct.at0 rfl) ?_ | refine ldS_mk (by first | exact ct.at rfl | exact ct.at0 rfl) ?_ | refine ldM_mk (by first | exact ct.at rfl | exact ct.at0 rfl) ?_) | refine nn_mk ?_ | refine And.intro (by (repeat (first | refine ldI_mk (by first | exact ct.at rfl | exact ct.at0 rfl) ?_ | refine ldB_mk (by first | exact ct.at rfl | exact ct.at0 rfl) ?_ | refine ldL_mk (by first | exact ct.at rfl | exact ct.at0 rfl) ?_ | refine ldP_mk (by first | exact ct.at rfl | exact ct.at0 rfl) ?_ | refine ldS_mk (by first | exact ct.at rfl | exact ct.at0 rfl) ?_ | refine ldM_mk (by first | exact ct.at rfl | exact ct.at0 rfl) ?_)); exact rfl) ?_ | refine ifNS ?_ | refine And.intro (by decide) ?_)
  refine ifD (fun e => ?_) fun e => ?_
  · have hlt : i < st.L.length := by omega
    have htk : st.L.take (i + 1) = st.L.take i ++ [st.L[i]] := by rw [List.take_append_getElem]
    repeat (first | (first | refine ldI_mk (by first | exact ct.at rfl | exact ct.at0 rfl) ?_ | refine ldB_mk (by first | exact ct.at rfl | exact ct.at0 rfl) ?_ | refine ldL_mk (by first | exact ct.at rfl | exact ct.at0 rfl) ?_ | refine ldP_mk (by first | exact ct.at rfl | exact ct.at0 rfl) ?_ | refine ldS_mk (by first | exact ct.at rfl | exact ct.at0 rfl) ?_ | refine ldM_mk (by first | exact ct.at rfl | exact ct.at0 rfl) ?_) | refine nn_mk ?_ | refine And.intro (by (repeat (first | refine ldI_mk (by first | exact ct.at rfl | exact ct.at0 rfl) ?_ | refine ldB_mk (by first | exact ct.at rfl | exact ct.at0 rfl) ?_ | refine ldL_mk (by first | exact ct.at rfl | exact ct.at0 rfl) ?_ | refine ldP_mk (by first | exact ct.at rfl | exact ct.at0 rfl) ?_ | refine ldS_mk (by first | exact ct.at rfl | exact ct.at0 rfl) ?_ | refine ldM_mk (by first | exact ct.at rfl | exact ct.at0 rfl) ?_)); exact rfl) ?_ | refine ifNS ?_ | refine And.intro (by decide) ?_)
    refine R1.row.idx entV_len (by omega) i rfl hlt fun ad ce => ?_
    rw [Int.toNat_natCast]
    refine ldI_mk (ce.at0 rfl) ?_
    have hwl : (without (st.L.take i) id).length ≤ 64 := Nat.le_trans (List.length_filter_le ..) (by rw [List.length_take]; omega)
    refine ifNe (fun e2 => ?_) fun e2 => ?_
    · repeat (first | (first | refine ldI_mk (by first | exact ct.at rfl | exact ct.at0 rfl) ?_ | refine ldB_mk (by first | exact ct.at rfl | exact ct.at0 rfl) ?_ | refine ldL_mk (by first | exact ct.at rfl | exact ct.at0 rfl) ?_ | refine ldP_mk (by first | exact ct.at rfl | exact ct.at0 rfl) ?_ | refine ldS_mk (by first | exact ct.at rfl | exact ct.at0 rfl) ?_ | refine ldM_mk (by first | exact ct.at rfl | exact ct.at0 rfl) ?_) | refine nn_mk ?_ | refine And.intro (by (repeat (first | refine ldI_mk (by first | exact ct.at rfl | exact ct.at0 rfl) ?_ | refine ldB_mk (by first | exact ct.at rfl | exact ct.at0 rfl) ?_ | refine ldL_mk (by first | exact ct.at rfl | exact ct.at0 rfl) ?_ | refine ldP_mk (by first | exact ct.at rfl | exact ct.at0 rfl) ?_ | refine ldS_mk (by first | exact ct.at rfl | exact ct.at0 rfl) ?_ | refine ldM_mk (by first | exact ct.at rfl | exact ct.at0 rfl) ?_)); exact rfl) ?_ | refine ifNS ?_ | refine And.intro (by decide) ?_)
      refine R1.row.idx entV_len (by omega) i rfl hlt fun ad2 ce2 => ?_
      have ce2 : Cells h1 (ad2.add (i * 12)) (entV st.L[i]) := ce2
      have hw : without (st.L.take (i + 1)) id = without (st.L.take i) id ++ [st.L[i]] := by
        unfold without; rw [htk, List.filter_append]
        congr 1
        rw [List.filter_cons, decide_eq_true e2]; rfl
      generalize st.L[i] = en at *
      repeat (first | (first | refine ldI_mk (by first | exact ce2.at rfl | exact ce2.at0 rfl) ?_ | refine ldB_mk (by first | exact ce2.at rfl | exact ce2.at0 rfl) ?_ | refine ldL_mk (by first | exact ce2.at rfl | exact ce2.at0 rfl) ?_ | refine ldP_mk (by first | exact ce2.at rfl | exact ce2.at0 rfl) ?_ | refine ldS_mk (by first | exact ce2.at rfl | exact ce2.at0 rfl) ?_ | refine ldM_mk (by first | exact ce2.at rfl | exact ce2.at0 rfl) ?_) | refine nn_mk ?_ | refine And.intro (by (repeat (first | refine ldI_mk (by first | exact ce2.at rfl | exact ce2.at0 rfl) ?_ | refine ldB_mk (by first | exact ce2.at rfl | exact ce2.at0 rfl) ?_ | refine ldL_mk (by first | exact ce2.at rfl | exact ce2.at0 rfl) ?_ | refine ldP_mk (by first | exact ce2.at rfl | exact ce2.at0 rfl) ?_ | refine ldS_mk (by first | exact ce2.at rfl | exact ce2.at0 rfl) ?_ | refine ldM_mk (by first | exact ce2.at rfl | exact ce2.at0 rfl) ?_)); exact rfl) ?_ | refine ifNS ?_ | refine And.intro (by decide) ?_)
      refine al_mk (vs := entV en) fun b h2 f2 e2' ob => ?_
      have z1 := f1.size
      have z2 := f2.size
      refine appE (Ra.fr0 f2) ob (by omega) fun p' c' h3 R3 f3 hn3 => ⟨_, _, _, rfl, ?_⟩
      rw [wr (by omega) (by omega)]
      rw [← hw] at R3 ⊢
      refine ⟨⟨i + 1, rfl, hlt, rfl, (f1.trans f2).tr f3 fun b hb hi => by have := ha b hi; omega, R3, fun b hb => ?_⟩, by omega⟩
      rcases hn3 b hb with h | h
      · exact ha b h
      · omega
    · have hw : without (st.L.take (i + 1)) id = without (st.L.take i) id := by
        unfold without; rw [htk, List.filter_append, List.filter_cons, decide_eq_false (by simpa using e2)]; simp
      rw [wr (by omega) (by omega)]
      rw [← hw] at Ra ⊢
      exact ⟨⟨i + 1, rfl, hlt, rfl, f1, Ra, ha⟩, by omega⟩
  · unfold ref22_Table_without_b2
    rw [List.take_of_length_le (show st.L.length ≤ i by omega)] at Ra ⊢
    repeat (first | (first | refine ldI_mk (by first | exact ct.at rfl | exact ct.at0 rfl) ?_ | refine ldB_mk (by first | exact ct.at rfl | exact ct.at0 rfl) ?_ | refine ldL_mk (by first | exact ct.at rfl | exact ct.at0 rfl) ?_ | refine ldP_mk (by first | exact ct.at rfl | exact ct.at0 rfl) ?_ | refine ldS_mk (by first | exact ct.at rfl | exact ct.at0 rfl) ?_ | refine ldM_mk (by first | exact ct.at rfl | exact ct.at0 rfl) ?_) | refine nn_mk ?_ | refine And.intro (by (repeat (first | refine ldI_mk (by first | exact ct.at rfl | exact ct.at0 rfl) ?_ | refine ldB_mk (by first | exact ct.at rfl | exact ct.at0 rfl) ?_ | refine ldL_mk (by first | exact ct.at rfl | exact ct.at0 rfl) ?_ | refine ldP_mk (by first | exact ct.at rfl | exact ct.at0 rfl) ?_ | refine ldS_mk (by first | exact ct.at rfl | exact ct.at0 rfl) ?_ | refine ldM_mk (by first | exact ct.at rfl | exact ct.at0 rfl) ?_)); exact rfl) ?_ | refine ifNS ?_ | refine And.intro (by decide) ?_)
    refine st1_own R1.own 4 (by simp) rfl fun h2 f2 s2 o2 => ?_
    have e : decide (((without st.L id).length : Int) < (st.L.length : Int)) = decide ((without st.L id).length < st.L.length) := by rw [Bool.eq_iff_iff]; simp
    rw [e]
    have z1 := f1.size
    refine hk h2 a c ((f1.mono fun _ h => h.elim).trans f2) _ rfl ⟨o2, Ra.fr f2 (fun b hb h => by have := ha b hb; omega), fun b hb => ⟨by have := ha b hb; omega, hok b (ha b hb)⟩, R.okx⟩ ha
theorem rFind_c [Gh] {ok : Nat → Prop} {h : Heap} {x : Addr} {st : St} {p : Option Addr} {cap : Nat} (R : RefF ok h x st p cap) (hl : st.L.length ≤ 64) (f : Fl) {Q : Value → Heap → Prop}
    (hk : ∀ h', Fr (fun _ => False) h h' → Q (.tuple #[.int .i64 (findS st.L f).1, .int .i64 (findS st.L f).2.1, .bool (findS st.L f).2.2]) h') :
    CallT Try.prog fn_ref22_Table_Find #[.pointer (some x), .agg #[.int .i64 f.proto, .bool f.src.v6, .int .u64 f.src.hi, .int .u64 f.src.lo, .bool f.dst.v6, .int .u64 f.dst.hi, .int .u64 f.dst.lo, .int .i64 f.sport, .int .i64 f.dport]] h Q := by
  apply ref22_Table_Find_s
  unfold ref22_Table_Find_v
  refine al_H (Hs.pure h) fun t3 h1 H l3 => ?_
  have R1 := R.fr0 H.fr0
  have ct := R1.own.cells
  have fnd : ∀ (g : Fl) (i : Nat) (hi : i < st.L.length), (st.L.take i).find? (fun e => decide (e.f = g)) = none → st.L[i].f = g → st.L.find? (fun e => decide (e.f = g)) = some st.L[i] := fun g i hi hn he => by
    have e : st.L.find? (fun e => decide (e.f = g)) = (st.L.take i ++ st.L.drop i).find? (fun e => decide (e.f = g)) := by rw [List.take_append_drop]
    rw [e, List.find?_append, hn, List.drop_eq_getElem_cons hi, List.find?_cons, decide_eq_true he]; rfl
  have nxt : ∀ (g : Fl) (i : Nat) (hi : i < st.L.length), (st.L.take i).find? (fun e => decide (e.f = g)) = none → st.L[i].f ≠ g → (st.L.take (i + 1)).find? (fun e => decide (e.f = g)) = none := fun g i hi hn he => by
    have htk : st.L.take (i + 1) = st.L.take i ++ [st.L[i]] := by rw [List.take_append_getElem]
    rw [htk, List.find?_append, hn]
    simp [he]
  unfold findS at hk
  refine LoopV.mk (fun s h' => ∃ (i : Nat), s = (i : Int) ∧ i ≤ st.L.length ∧ h' = h1 ∧ (st.L.take i).find? (fun e => decide (e.f = f)) = none) (fun s _ => st.L.length - s.toNat) ⟨0, rfl, by omega, rfl, rfl⟩ ?_
  rintro j h2 ⟨i, rfl, hi, hh, hn⟩
  subst h2
  unfold ref22_Table_Find_l1
  have C0 := (H.get 0 rfl).cells; repeat (first | (first | refine ldI_mk (by first | exact C0.at rfl | exact C0.at0 rfl | exact ct.at rfl | exact ct.at0 rfl) ?_ | refine ldB_mk (by first | exact C0.at rfl | exact C0.at0 rfl | exact ct.at rfl | exact ct.at0 rfl) ?_ | refine ldL_mk (by first | exact C0.at rfl | exact C0.at0 rfl | exact ct.at rfl | exact ct.at0 rfl) ?_ | refine ldP_mk (by first | exact C0.at rfl | exact C0.at0 rfl | exact ct.at rfl | exact ct.at0 rfl) ?_ | refine ldS_mk (by first | exact C0.at rfl | exact C0.at0 rfl | exact ct.at rfl | exact ct.at0 rfl) ?_ | refine ldM_mk (by first | exact C0.at rfl | exact C0.at0 rfl | exact ct.at rfl | exact ct.at0 rfl) ?_) | refine nn_mk ?_ | refine And.intro (by (repeat (first | refine ldI_mk (by first | exact C0.at rfl | exact C0.at0 rfl | exact ct.at rfl | exact ct.at0 rfl) ?_ | refine ldB_mk (by first | exact C0.at rfl | exact C0.at0 rfl | exact ct.at rfl | exact ct.at0 rfl) ?_ | refine ldL_mk (by first | exact C0.at rfl | exact C0.at0 rfl | exact ct.at rfl | exact ct.at0 rfl) ?_ | refine ldP_mk (by first | exact C0.at rfl | exact C0.at0 rfl | exact ct.at rfl | exact ct.at0 rfl) ?_ | refine ldS_mk (by first | exact C0.at rfl | exact C0.at0 rfl | exact ct.at rfl | exact ct.at0 rfl) ?_ | refine ldM_mk (by first | exact C0.at rfl | exact C0.at0 rfl | exact ct.at rfl | exact ct.at0 rfl) ?_)); exact rfl) ?_ | refine ifNS ?_ | refine And.intro (by decide) ?_)
  refine ifD (fun e => ?_) fun e => ?_
  · have hlt : i < st.L.length := by omega
    have C0 := (H.get 0 rfl).cells; repeat (first | (first | refine ldI_mk (by first | exact C0.at rfl | exact C0.at0 rfl | exact ct.at rfl | exact ct.at0 rfl) ?_ | refine ldB_mk (by first | exact C0.at rfl | exact C0.at0 rfl | exact ct.at rfl | exact ct.at0 rfl) ?_ | refine ldL_mk (by first | exact C0.at rfl | exact C0.at0 rfl | exact ct.at rfl | exact ct.at0 rfl) ?_ | refine ldP_mk (by first | exact C0.at rfl | exact C0.at0 rfl | exact ct.at rfl | exact ct.at0 rfl) ?_ | refine ldS_mk (by first | exact C0.at rfl | exact C0.at0 rfl | exact ct.at rfl | exact ct.at0 rfl) ?_ | refine ldM_mk (by first | exact C0.at rfl | exact C0.at0 rfl | exact ct.at rfl | exact ct.at0 rfl) ?_) | refine nn_mk ?_ | refine And.intro (by (repeat (first | refine ldI_mk (by first | exact C0.at rfl | exact C0.at0 rfl | exact ct.at rfl | exact ct.at0 rfl) ?_ | refine ldB_mk (by first | exact C0.at rfl | exact C0.at0 rfl | exact ct.at rfl | exact ct.at0 rfl) ?_ | refine ldL_mk (by first | exact C0.at rfl | exact C0.at0 rfl | exact ct.at rfl | exact ct.at0 rfl) ?_ | refine ldP_mk (by first | exact C0.at rfl | exact C0.at0 rfl | exact ct.at rfl | exact ct.at0 rfl) ?_ | refine ldS_mk (by first | exact C0.at rfl | exact C0.at0 rfl | exact ct.at rfl | exact ct.at0 rfl) ?_ | refine ldM_mk (by first | exact C0.at rfl | exact C0.at0 rfl | exact ct.at rfl | exact ct.at0 rfl) ?_)); exact rfl) ?_ | refine ifNS ?_ | refine And.intro (by decide) ?_)
    refine R1.row.idx entV_len (by omega) i rfl hlt fun ad ce => ?_
    rw [Int.toNat_natCast]
    have c3 := ce.sub 3
    have c3 : Cells h1 ((ad.add (i * 12)).add 3) (st.L[i].f.vals) := c3
    have C0 := (H.get 0 rfl).cells; repeat (first | (first | refine ldI_mk (by first | exact C0.at rfl | exact C0.at0 rfl | exact c3.at rfl | exact c3.at0 rfl | exact ce.at rfl | exact ce.at0 rfl) ?_ | refine ldB_mk (by first | exact C0.at rfl | exact C0.at0 rfl | exact c3.at rfl | exact c3.at0 rfl | exact ce.at rfl | exact ce.at0 rfl) ?_ | refine ldL_mk (by first | exact C0.at rfl | exact C0.at0 rfl | exact c3.at rfl | exact c3.at0 rfl | exact ce.at rfl | exact ce.at0 rfl) ?_ | refine ldP_mk (by first | exact C0.at rfl | exact C0.at0 rfl | exact c3.at rfl | exact c3.at0 rfl | exact ce.at rfl | exact ce.at0 rfl) ?_ | refine ldS_mk (by first | exact C0.at rfl | exact C0.at0 rfl | exact c3.at rfl | exact c3.at0 rfl | exact ce.at rfl | exact ce.at0 rfl) ?_ | refine ldM_mk (by first | exact C0.at rfl | exact C0.at0 rfl | exact c3.at rfl | exact c3.at0 rfl | exact ce.at rfl | exact ce.at0 rfl) ?_) | refine nn_mk ?_ | refine And.intro (by (repeat (first | refine ldI_mk (by first | exact C0.at rfl | exact C0.at0 rfl | exact c3.at rfl | exact c3.at0 rfl | exact ce.at rfl | exact ce.at0 rfl) ?_ | refine ldB_mk (by first | exact C0.at rfl | exact C0.at0 rfl | exact c3.at rfl | exact c3.at0 rfl | exact ce.at rfl | exact ce.at0 rfl) ?_ | refine ldL_mk (by first | exact C0.at rfl | exact C0.at0 rfl | exact c3.at rfl | exact c3.at0 rfl | exact ce.at rfl | exact ce.at0 rfl) ?_ | refine ldP_mk (by first | exact C0.at rfl | exact C0.at0 rfl | exact c3.at rfl | exact c3.at0 rfl | exact ce.at rfl | exact ce.at0 rfl) ?_ | refine ldS_mk (by first | exact C0.at rfl | exact C0.at0 rfl | exact c3.at rfl | exact c3.at0 rfl | exact ce.at rfl | exact ce.at0 rfl) ?_ | refine ldM_mk (by first | exact C0.at rfl | exact C0.at0 rfl | exact c3.at rfl | exact c3.at0 rfl | exact ce.at rfl | exact ce.at0 rfl) ?_)); exact rfl) ?_ | refine ifNS ?_ | refine And.intro (by decide) ?_)
    rw [add_add] at c3
    refine ifFl (x := st.L[i].f) (y := f) (fun e2 => ?_) fun e2 => ?_
    · have C0 := (H.get 0 rfl).cells; repeat (first | (first | refine ldI_mk (by first | exact C0.at rfl | exact C0.at0 rfl | exact ct.at rfl | exact ct.at0 rfl) ?_ | refine ldB_mk (by first | exact C0.at rfl | exact C0.at0 rfl | exact ct.at rfl | exact ct.at0 rfl) ?_ | refine ldL_mk (by first | exact C0.at rfl | exact C0.at0 rfl | exact ct.at rfl | exact ct.at0 rfl) ?_ | refine ldP_mk (by first | exact C0.at rfl | exact C0.at0 rfl | exact ct.at rfl | exact ct.at0 rfl) ?_ | refine ldS_mk (by first | exact C0.at rfl | exact C0.at0 rfl | exact ct.at rfl | exact ct.at0 rfl) ?_ | refine ldM_mk (by first | exact C0.at rfl | exact C0.at0 rfl | exact ct.at rfl | exact ct.at0 rfl) ?_) | refine nn_mk ?_ | refine And.intro (by (repeat (first | refine ldI_mk (by first | exact C0.at rfl | exact C0.at0 rfl | exact ct.at rfl | exact ct.at0 rfl) ?_ | refine ldB_mk (by first | exact C0.at rfl | exact C0.at0 rfl | exact ct.at rfl | exact ct.at0 rfl) ?_ | refine ldL_mk (by first | exact C0.at rfl | exact C0.at0 rfl | exact ct.at rfl | exact ct.at0 rfl) ?_ | refine ldP_mk (by first | exact C0.at rfl | exact C0.at0 rfl | exact ct.at rfl | exact ct.at0 rfl) ?_ | refine ldS_mk (by first | exact C0.at rfl | exact C0.at0 rfl | exact ct.at rfl | exact ct.at0 rfl) ?_ | refine ldM_mk (by first | exact C0.at rfl | exact C0.at0 rfl | exact ct.at rfl | exact ct.at0 rfl) ?_)); exact rfl) ?_ | refine ifNS ?_ | refine And.intro (by decide) ?_)
      refine R1.row.idx entV_len (by omega) i rfl hlt fun ad ce => ?_
      refine ldI_mk (ce.at0 rfl) ?_
      rw [fnd f i hlt hn e2] at hk
      exact hk h1 H.fr0
    · rw [wr (by omega) (by omega)]
      exact ⟨⟨i + 1, rfl, hlt, rfl, nxt f i hlt hn e2⟩, by omega⟩
  · rw [List.take_of_length_le (by omega)] at hn
    rw [hn] at hk
    unfold ref22_Table_Find_b2
    refine LoopV.mk (fun s h' => ∃ (i : Nat), s = (i : Int) ∧ i ≤ st.L.length ∧ Fr (fun _ => False) h1 h' ∧ (st.L.take i).find? (fun e => decide (e.f = f.rev)) = none) (fun s _ => st.L.length - s.toNat) ⟨0, rfl, by omega, Fr.refl _ _, rfl⟩ ?_
    rintro j h2 ⟨i, rfl, hi, f2, hn2⟩
    have H := H.call0 f2
    have R2 := R1.fr0 f2
    have ct := R2.own.cells
    unfold ref22_Table_Find_l3
    have C0 := (H.get 0 rfl).cells; repeat (first | (first | refine ldI_mk (by first | exact C0.at rfl | exact C0.at0 rfl | exact ct.at rfl | exact ct.at0 rfl) ?_ | refine ldB_mk (by first | exact C0.at rfl | exact C0.at0 rfl | exact ct.at rfl | exact ct.at0 rfl) ?_ | refine ldL_mk (by first | exact C0.at rfl | exact C0.at0 rfl | exact ct.at rfl | exact ct.at0 rfl) ?_ | refine ldP_mk (by first | exact C0.at rfl | exact C0.at0 rfl | exact ct.at rfl | exact ct.at0 rfl) ?_ | refine ldS_mk (by first | exact C0.at rfl | exact C0.at0 rfl | exact ct.at rfl | exact ct.at0 rfl) ?_ | refine ldM_mk (by first | exact C0.at rfl | exact C0.at0 rfl | exact ct.at rfl | exact ct.at0 rfl) ?_) | refine nn_mk ?_ | refine And.intro (by (repeat (first | refine ldI_mk (by first | exact C0.at rfl | exact C0.at0 rfl | exact ct.at rfl | exact ct.at0 rfl) ?_ | refine ldB_mk (by first | exact C0.at rfl | exact C0.at0 rfl | exact ct.at rfl | exact ct.at0 rfl) ?_ | refine ldL_mk (by first | exact C0.at rfl | exact C0.at0 rfl | exact ct.at rfl | exact ct.at0 rfl) ?_ | refine ldP_mk (by first | exact C0.at rfl | exact C0.at0 rfl | exact ct.at rfl | exact ct.at0 rfl) ?_ | refine ldS_mk (by first | exact C0.at rfl | exact C0.at0 rfl | exact ct.at rfl | exact ct.at0 rfl) ?_ | refine ldM_mk (by first | exact C0.at rfl | exact C0.at0 rfl | exact ct.at rfl | exact ct.at0 rfl) ?_)); exact rfl) ?_ | refine ifNS ?_ | refine And.intro (by decide) ?_)
    refine ifD (fun e => ?_) fun e => ?_
    · have hlt : i < st.L.length := by omega
      have C0 := (H.get 0 rfl).cells; repeat (first | (first | refine ldI_mk (by first | exact C0.at rfl | exact C0.at0 rfl | exact ct.at rfl | exact ct.at0 rfl) ?_ | refine ldB_mk (by first | exact C0.at rfl | exact C0.at0 rfl | exact ct.at rfl | exact ct.at0 rfl) ?_ | refine ldL_mk (by first | exact C0.at rfl | exact C0.at0 rfl | exact ct.at rfl | exact ct.at0 rfl) ?_ | refine ldP_mk (by first | exact C0.at rfl | exact C0.at0 rfl | exact ct.at rfl | exact ct.at0 rfl) ?_ | refine ldS_mk (by first | exact C0.at rfl | exact C0.at0 rfl | exact ct.at rfl | exact ct.at0 rfl) ?_ | refine ldM_mk (by first | exact C0.at rfl | exact C0.at0 rfl | exact ct.at rfl | exact ct.at0 rfl) ?_) | refine nn_mk ?_ | refine And.intro (by (repeat (first | refine ldI_mk (by first | exact C0.at rfl | exact C0.at0 rfl | exact ct.at rfl | exact ct.at0 rfl) ?_ | refine ldB_mk (by first | exact C0.at rfl | exact C0.at0 rfl | exact ct.at rfl | exact ct.at0 rfl) ?_ | refine ldL_mk (by first | exact C0.at rfl | exact C0.at0 rfl | exact ct.at rfl | exact ct.at0 rfl) ?_ | refine ldP_mk (by first | exact C0.at rfl | exact C0.at0 rfl | exact ct.at rfl | exact ct.at0 rfl) ?_ | refine ldS_mk (by first | exact C0.at rfl | exact C0.at0 rfl | exact ct.at rfl | exact ct.at0 rfl) ?_ | refine ldM_mk (by first | exact C0.at rfl | exact C0.at0 rfl | exact ct.at rfl | exact ct.at0 rfl) ?_)); exact rfl) ?_ | refine ifNS ?_ | refine And.intro (by decide) ?_)
      refine R2.row.idx entV_len (by omega) i rfl hlt fun ad ce => ?_
      rw [Int.toNat_natCast]
      have c3 : Cells h2 ((ad.add (i * 12)).add 3) (st.L[i].f.vals) := ce.sub 3
      have C0 := (H.get 0 rfl).cells; repeat (first | (first | refine ldI_mk (by first | exact C0.at rfl | exact C0.at0 rfl | exact c3.at rfl | exact c3.at0 rfl | exact ce.at rfl | exact ce.at0 rfl) ?_ | refine ldB_mk (by first | exact C0.at rfl | exact C0.at0 rfl | exact c3.at rfl | exact c3.at0 rfl | exact ce.at rfl | exact ce.at0 rfl) ?_ | refine ldL_mk (by first | exact C0.at rfl | exact C0.at0 rfl | exact c3.at rfl | exact c3.at0 rfl | exact ce.at rfl | exact ce.at0 rfl) ?_ | refine ldP_mk (by first | exact C0.at rfl | exact C0.at0 rfl | exact c3.at rfl | exact c3.at0 rfl | exact ce.at rfl | exact ce.at0 rfl) ?_ | refine ldS_mk (by first | exact C0.at rfl | exact C0.at0 rfl | exact c3.at rfl | exact c3.at0 rfl | exact ce.at rfl | exact ce.at0 rfl) ?_ | refine ldM_mk (by first | exact C0.at rfl | exact C0.at0 rfl | exact c3.at rfl | exact c3.at0 rfl | exact ce.at rfl | exact ce.at0 rfl) ?_) | refine nn_mk ?_ | refine And.intro (by (repeat (first | refine ldI_mk (by first | exact C0.at rfl | exact C0.at0 rfl | exact c3.at rfl | exact c3.at0 rfl | exact ce.at rfl | exact ce.at0 rfl) ?_ | refine ldB_mk (by first | exact C0.at rfl | exact C0.at0 rfl | exact c3.at rfl | exact c3.at0 rfl | exact ce.at rfl | exact ce.at0 rfl) ?_ | refine ldL_mk (by first | exact C0.at rfl | exact C0.at0 rfl | exact c3.at rfl | exact c3.at0 rfl | exact ce.at rfl | exact ce.at0 rfl) ?_ | refine ldP_mk (by first | exact C0.at rfl | exact C0.at0 rfl | exact c3.at rfl | exact c3.at0 rfl | exact ce.at rfl | exact ce.at0 rfl) ?_ | refine ldS_mk (by first | exact C0.at rfl | exact C0.at0 rfl | exact c3.at rfl | exact c3.at0 rfl | exact ce.at rfl | exact ce.at0 rfl) ?_ | refine ldM_mk (by first | exact C0.at rfl | exact C0.at0 rfl | exact c3.at rfl | exact c3.at0 rfl | exact ce.at rfl | exact ce.at0 rfl) ?_)); exact rfl) ?_ | refine ifNS ?_ | refine And.intro (by decide) ?_)
      refine rReverse_c f fun h3 f3 => ⟨_, _, _, _, _, _, _, _, _, rfl, ?_⟩
      have H := H.call0 f3
      have R3 := R2.fr0 f3
      have ct := R3.own.cells
      have ce := ce.fr0 f3
      have c3 := c3.fr0 f3
      have C0 := (H.get 0 rfl).cells; repeat (first | (first | refine ldI_mk (by first | exact C0.at rfl | exact C0.at0 rfl | exact ct.at rfl | exact ct.at0 rfl | exact c3.at rfl | exact c3.at0 rfl | exact ce.at rfl | exact ce.at0 rfl) ?_ | refine ldB_mk (by first | exact C0.at rfl | exact C0.at0 rfl | exact ct.at rfl | exact ct.at0 rfl | exact c3.at rfl | exact c3.at0 rfl | exact ce.at rfl | exact ce.at0 rfl) ?_ | refine ldL_mk (by first | exact C0.at rfl | exact C0.at0 rfl | exact ct.at rfl | exact ct.at0 rfl | exact c3.at rfl | exact c3.at0 rfl | exact ce.at rfl | exact ce.at0 rfl) ?_ | refine ldP_mk (by first | exact C0.at rfl | exact C0.at0 rfl | exact ct.at rfl | exact ct.at0 rfl | exact c3.at rfl | exact c3.at0 rfl | exact ce.at rfl | exact ce.at0 rfl) ?_ | refine ldS_mk (by first | exact C0.at rfl | exact C0.at0 rfl | exact ct.at rfl | exact ct.at0 rfl | exact c3.at rfl | exact c3.at0 rfl | exact ce.at rfl | exact ce.at0 rfl) ?_ | refine ldM_mk (by first | exact C0.at rfl | exact C0.at0 rfl | exact ct.at rfl | exact ct.at0 rfl | exact c3.at rfl | exact c3.at0 rfl | exact ce.at rfl | exact ce.at0 rfl) ?_) | refine nn_mk ?_ | refine And.intro (by (repeat (first | refine ldI_mk (by first | exact C0.at rfl | exact C0.at0 rfl | exact ct.at rfl | exact ct.at0 rfl | exact c3.at rfl | exact c3.at0 rfl | exact ce.at rfl | exact ce.at0 rfl) ?_ | refine ldB_mk (by first | exact C0.at rfl | exact C0.at0 rfl | exact ct.at rfl | exact ct.at0 rfl | exact c3.at rfl | exact c3.at0 rfl | exact ce.at rfl | exact ce.at0 rfl) ?_ | refine ldL_mk (by first | exact C0.at rfl | exact C0.at0 rfl | exact ct.at rfl | exact ct.at0 rfl | exact c3.at rfl | exact c3.at0 rfl | exact ce.at rfl | exact ce.at0 rfl) ?_ | refine ldP_mk (by first | exact C0.at rfl | exact C0.at0 rfl | exact ct.at rfl | exact ct.at0 rfl | exact c3.at rfl | exact c3.at0 rfl | exact ce.at rfl | exact ce.at0 rfl) ?_ | refine ldS_mk (by first | exact C0.at rfl | exact C0.at0 rfl | exact ct.at rfl | exact ct.at0 rfl | exact c3.at rfl | exact c3.at0 rfl | exact ce.at rfl | exact ce.at0 rfl) ?_ | refine ldM_mk (by first | exact C0.at rfl | exact C0.at0 rfl | exact ct.at rfl | exact ct.at0 rfl | exact c3.at rfl | exact c3.at0 rfl | exact ce.at rfl | exact ce.at0 rfl) ?_)); exact rfl) ?_ | refine ifNS ?_ | refine And.intro (by decide) ?_)
      refine ifFl (x := st.L[i].f) (y := f.rev) (fun e2 => ?_) fun e2 => ?_
      · have C0 := (H.get 0 rfl).cells; repeat (first | (first | refine ldI_mk (by first | exact C0.at rfl | exact C0.at0 rfl | exact ct.at rfl | exact ct.at0 rfl) ?_ | refine ldB_mk (by first | exact C0.at rfl | exact C0.at0 rfl | exact ct.at rfl | exact ct.at0 rfl) ?_ | refine ldL_mk (by first | exact C0.at rfl | exact C0.at0 rfl | exact ct.at rfl | exact ct.at0 rfl) ?_ | refine ldP_mk (by first | exact C0.at rfl | exact C0.at0 rfl | exact ct.at rfl | exact ct.at0 rfl) ?_ | refine ldS_mk (by first | exact C0.at rfl | exact C0.at0 rfl | exact ct.at rfl | exact ct.at0 rfl) ?_ | refine ldM_mk (by first | exact C0.at rfl | exact C0.at0 rfl | exact ct.at rfl | exact ct.at0 rfl) ?_) | refine nn_mk ?_ | refine And.intro (by (repeat (first | refine ldI_mk (by first | exact C0.at rfl | exact C0.at0 rfl | exact ct.at rfl | exact ct.at0 rfl) ?_ | refine ldB_mk (by first | exact C0.at rfl | exact C0.at0 rfl | exact ct.at rfl | exact ct.at0 rfl) ?_ | refine ldL_mk (by first | exact C0.at rfl | exact C0.at0 rfl | exact ct.at rfl | exact ct.at0 rfl) ?_ | refine ldP_mk (by first | exact C0.at rfl | exact C0.at0 rfl | exact ct.at rfl | exact ct.at0 rfl) ?_ | refine ldS_mk (by first | exact C0.at rfl | exact C0.at0 rfl | exact ct.at rfl | exact ct.at0 rfl) ?_ | refine ldM_mk (by first | exact C0.at rfl | exact C0.at0 rfl | exact ct.at rfl | exact ct.at0 rfl) ?_)); exact rfl) ?_ | refine ifNS ?_ | refine And.intro (by decide) ?_)
        refine R3.row.idx entV_len (by omega) i rfl hlt fun ad ce => ?_
        refine ldI_mk (ce.at0 rfl) ?_
        rw [fnd f.rev i hlt hn2 e2] at hk
        exact hk h3 H.fr0
      · rw [wr (by omega) (by omega)]
        exact ⟨⟨i + 1, rfl, hlt, f2.trans f3, nxt f.rev i hlt hn2 e2⟩, by omega⟩
    · rw [List.take_of_length_le (by omega)] at hn2
      rw [hn2] at hk
      exact hk h2 H.fr0
end Go.Proofs.Ytbmifkjdjekenaa
