/-
  The program's table in memory; Find, Key, Touch.
-/
import Derived.Test.YtbmifkjdjekenaaFtB
namespace Go.Proofs.Ytbmifkjdjekenaa
set_option linter.unusedSimpArgs false
set_option linter.unusedVariables false
set_option maxRecDepth 20000
open Go
open Go.IntKind (wrap)
attribute [local irreducible] Addr.add stN st1 idxA idxS alV sliceStr LoopV
structure PE where
  id : Int
  p : Addr
  f : Fl
  value : Int
  last : Int
def PE.ent (c : PE) : FEn := ⟨c.id, c.value, c.last, c.f⟩
def PE.vals (c : PE) : List Value := [.int .i64 c.f.proto, .bool c.f.src.v6, .int .u64 c.f.src.hi, .int .u64 c.f.src.lo, .bool c.f.dst.v6, .int .u64 c.f.dst.hi, .int .u64 c.f.dst.lo, .int .i64 c.f.sport, .int .i64 c.f.dport, .int .i64 c.value, .int .i64 c.last]
structure TabF (ok : Nat → Prop) (h : Heap) (t : Addr) (r1 r2 : Nat) (st : St) (S : List PE) : Prop where
  own : Own h t [.int .i64 st.most, .int .i64 st.timeout, .int .i64 st.time, .int .i64 (st.used + 1), .map (some r1), .map (some r2)] T_flowtable_Table
  m1 : MapI (intE .i64) h r1 (S.map fun c => (c.id, Value.pointer (some c.p)))
  m2 : MapI prE' h r2 (S.map fun c => (pairL c.f, Value.int .i64 c.id))
  cts : ∀ c ∈ S, Own h c.p c.vals T_flowtable_flow
  r12 : r1 ≠ r2
  tr : r1 ≠ t.block ∧ r2 ≠ t.block
  okt : ok t.block
  okr : ok r1 ∧ ok r2
  cp : ∀ c ∈ S, c.p.block ≠ t.block ∧ c.p.block ≠ r1 ∧ c.p.block ≠ r2 ∧ ok c.p.block
  nd : (S.map (·.p.block)).Nodup
  perm : (S.map PE.ent).Perm st.L
theorem TabF.fr {ok : Nat → Prop} {h h' : Heap} {t : Addr} {r1 r2 : Nat} {st : St} {S : List PE} (R : TabF ok h t r1 r2 st S) {P : Nat → Prop} (f : Fr P h h') (hP : ∀ b, b < h.size → P b → ¬ ok b) : TabF ok h' t r1 r2 st S :=
  { R with
    own := R.own.fr f fun hp => hP _ R.own.lt hp R.okt
    m1 := R.m1.fr f fun hp => hP _ R.m1.lt hp R.okr.1
    m2 := R.m2.fr f fun hp => hP _ R.m2.lt hp R.okr.2
    cts := fun c hc => (R.cts c hc).fr f fun hp => hP _ (R.cts c hc).lt hp (R.cp c hc).2.2.2 }
theorem TabF.fr0 {ok : Nat → Prop} {h h' : Heap} {t : Addr} {r1 r2 : Nat} {st : St} {S : List PE} (f : Fr (fun _ => False) h h') (R : TabF ok h t r1 r2 st S) : TabF ok h' t r1 r2 st S := R.fr f fun _ _ h => h.elim
theorem TabF.to {ok ok' : Nat → Prop} {h : Heap} {t : Addr} {r1 r2 : Nat} {st : St} {S : List PE} (R : TabF ok h t r1 r2 st S) (h1 : ok' t.block) (h2 : ok' r1) (h3 : ok' r2) (h4 : ∀ c ∈ S, ok' c.p.block) : TabF ok' h t r1 r2 st S :=
  { R with okt := h1, okr := ⟨h2, h3⟩, cp := fun c hc => ⟨(R.cp c hc).1, (R.cp c hc).2.1, (R.cp c hc).2.2.1, h4 c hc⟩ }
theorem TabF.ids {ok : Nat → Prop} {h : Heap} {t : Addr} {r1 r2 : Nat} {st : St} {S : List PE} (R : TabF ok h t r1 r2 st S) : (S.map (·.id)).Nodup := by
  have := R.m1.keys; rw [List.map_map] at this; exact this
theorem TabF.pairs {ok : Nat → Prop} {h : Heap} {t : Addr} {r1 r2 : Nat} {st : St} {S : List PE} (R : TabF ok h t r1 r2 st S) : (S.map fun c => pairL c.f).Nodup := by
  have := R.m2.keys; rw [List.map_map] at this; exact this
theorem TabF.mem {ok : Nat → Prop} {h : Heap} {t : Addr} {r1 r2 : Nat} {st : St} {S : List PE} (R : TabF ok h t r1 r2 st S) {e : FEn} : e ∈ st.L ↔ ∃ c ∈ S, c.ent = e := by
  rw [← R.perm.mem_iff, List.mem_map]
theorem TabF.get {ok : Nat → Prop} {h : Heap} {t : Addr} {r1 r2 : Nat} {st : St} {S : List PE} (R : TabF ok h t r1 r2 st S) {c : PE} (hc : c ∈ S) : getL (S.map fun c => (c.id, Value.pointer (some c.p))) c.id = some (.pointer (some c.p)) :=
  getL_of (m := S.map fun c => (c.id, Value.pointer (some c.p))) R.m1.keys (e := (c.id, .pointer (some c.p))) (List.mem_map_of_mem (f := fun c : PE => (c.id, Value.pointer (some c.p))) hc)
theorem pair_qt (b : Bool) (a : Pr) : qtB Try.prog (Instr.checkKey b 10000 T_flowtable_pair (prE' a)) = true := by kernel_rfl
section
attribute [local irreducible] Instr.checkKey
theorem pair_check (b : Bool) (a : Pr) {h : Heap} {K : Unit → Heap → Prop} (hk : K () h) : wpH Try.prog (Instr.checkKey b 10000 T_flowtable_pair (prE' a)) K h :=
  wpH_check (pair_qt b a) hk
end
theorem pair_eqB (a b : Pr) : eqB Try.prog 10000 T_flowtable_pair (prE' a) (prE' b) = some (decide (a = b)) := by
  have e : eqB Try.prog 10000 T_flowtable_pair (prE' a) (prE' b) = some (((a.1.proto == b.1.proto) && (((a.1.addr.v6 == b.1.addr.v6) && ((a.1.addr.hi == b.1.addr.hi) && ((a.1.addr.lo == b.1.addr.lo) && true))) && ((a.1.port == b.1.port) && true))) && (((a.2.proto == b.2.proto) && (((a.2.addr.v6 == b.2.addr.v6) && ((a.2.addr.hi == b.2.addr.hi) && ((a.2.addr.lo == b.2.addr.lo) && true))) && ((a.2.port == b.2.port) && true))) && true)) := by
    kernel_rfl
  rw [e]
  obtain ⟨⟨a1, ⟨a2, a3, a4⟩, a5⟩, b1, ⟨b2, b3, b4⟩, b5⟩ := a
  obtain ⟨⟨a1', ⟨a2', a3', a4'⟩, a5'⟩, b1', ⟨b2', b3', b4'⟩, b5'⟩ := b
  congr 1
  rw [Bool.eq_iff_iff]
  simp only [Bool.and_eq_true, beq_iff_eq, decide_eq_true_eq, Prod.mk.injEq, En.mk.injEq, Ad.mk.injEq, and_true]
theorem pair_equal (a b : Pr) {h : Heap} {K : Bool → Heap → Prop} (hk : K (decide (a = b)) h) : wpH Try.prog (Op.equal T_flowtable_pair (prE' a) (prE' b)) K h :=
  wpH_equal (pair_eqB a b) hk
theorem pair_findAsking (a : Pr) : ∀ (es : List (Ent Pr)) (i : Nat) {h : Heap} {K : Option (Nat × Value) → Heap → Prop}, K (findE a es i) h → wpH Try.prog (Instr.findAsking T_flowtable_pair (prE' a) (es.map (mkE prE')) i) K h
  | [], _, _, _, hk => hk
  | e :: es, i, h, K, hk => by
    unfold findE at hk
    rw [List.map_cons]
    unfold Instr.findAsking
    simp only [bind]
    rw [wpH_bind]
    refine pair_equal a e.1 ?_
    by_cases ha : a = e.1
    · rw [if_pos ha] at hk
      rw [decide_eq_true ha]; exact hk
    · rw [if_neg ha] at hk
      rw [decide_eq_false ha]
      exact pair_findAsking a es (i + 1) hk
attribute [local irreducible] Instr.checkKey in
theorem pairT : KeyT Try.prog T_flowtable_pair prE' := by
  refine ⟨fun a => ?_, pair_check, fun a es {h K} hk => ?_⟩
  · exact same_agg (vs := a.vals) rfl 9999
  · unfold Instr.findKey
    simp only [bind]
    rw [wpH_bind]
    refine wpH_underlying Try.underlying70 ?_
    cases es with
    | nil => exact hk
    | cons e es =>
      simp only [List.map_cons, Instr.findNow]
      exact pair_findAsking a (e :: es) 0 hk
theorem zeroI {h : Heap} {K : Value → Heap → Prop} (hk : K (.int .i64 0) h) : wpH Try.prog (zeroValue T_int) K h := zero_mk (i := Try.t3) (by kernel_rfl) (by kernel_rfl) hk
theorem zeroP {h : Heap} {K : Value → Heap → Prop} (hk : K (.pointer none) h) : wpH Try.prog (zeroValue T_p_flowtable_flow) K h := zero_mk (i := Try.t65) (by kernel_rfl) (by kernel_rfl) hk
theorem idT : KeyT Try.prog T_int (intE .i64) := intKeyT Try.underlying3
/-- A flow is looked up by its number. -/
theorem look1 [Gh] {ok : Nat → Prop} {h : Heap} {t : Addr} {r1 r2 : Nat} {st : St} {S : List PE} (R : TabF ok h t r1 r2 st S) (id : Int) {K : Value → Heap → Prop}
    (h0 : (∀ c ∈ S, c.id ≠ id) → K (.pointer none) h) (h1 : ∀ c ∈ S, c.id = id → K (.pointer (some c.p)) h) : lookV Try.prog T_map_int_p_flowtable_flow (.map (some r1)) (.int .i64 id) false h K := by
  refine look_mk idT Try.underlying56 zeroP R.m1 id false ?_
  cases hg : getL (S.map fun c => (c.id, Value.pointer (some c.p))) id with
  | none => exact h0 fun c hc => getL_none hg _ (List.mem_map_of_mem (f := fun c : PE => (c.id, Value.pointer (some c.p))) hc)
  | some v =>
    obtain ⟨c, hc, e⟩ := List.mem_map.1 (getL_some hg)
    simp only [Prod.mk.injEq] at e
    obtain ⟨rfl, rfl⟩ := e
    exact h1 c hc rfl
theorem look2 [Gh] {ok : Nat → Prop} {h : Heap} {t : Addr} {r1 r2 : Nat} {st : St} {S : List PE} (R : TabF ok h t r1 r2 st S) (f : Fl) {K : Value → Heap → Prop}
    (h0 : (∀ c ∈ S, pairL c.f ≠ pairL f) → K (.tuple #[.int .i64 0, .bool false]) h) (h1 : ∀ c ∈ S, pairL c.f = pairL f → K (.tuple #[.int .i64 c.id, .bool true]) h) : lookV Try.prog T_map_flowtable_pair_int (.map (some r2)) (prE' (pairL f)) true h K := by
  refine look_mk pairT Try.underlying57 zeroI R.m2 (pairL f) true ?_
  cases hg : getL (S.map fun c => (pairL c.f, Value.int .i64 c.id)) (pairL f) with
  | none => exact h0 fun c hc => getL_none hg _ (List.mem_map_of_mem (f := fun c : PE => (pairL c.f, Value.int .i64 c.id)) hc)
  | some v =>
    obtain ⟨c, hc, e⟩ := List.mem_map.1 (getL_some hg)
    simp only [Prod.mk.injEq] at e
    obtain ⟨e, rfl⟩ := e
    exact h1 c hc e
theorem late_c [Gh] {ok : Nat → Prop} {h : Heap} {t : Addr} {r1 r2 : Nat} {st : St} {S : List PE} (R : TabF ok h t r1 r2 st S) (at_ : Int) {Q : Value → Heap → Prop} (hk : Q (.bool (lateB st at_)) h) : CallT Try.prog fn_flowtable_Table_late #[.pointer (some t), .int .i64 at_] h Q := by
  apply flowtable_Table_late_s
  unfold flowtable_Table_late_v
  have ct := R.own.cells
  repeat (first | (first | refine ldI_mk (by first | exact ct.at rfl | exact ct.at0 rfl) ?_ | refine ldB_mk (by first | exact ct.at rfl | exact ct.at0 rfl) ?_ | refine ldL_mk (by first | exact ct.at rfl | exact ct.at0 rfl) ?_ | refine ldP_mk (by first | exact ct.at rfl | exact ct.at0 rfl) ?_ | refine ldS_mk (by first | exact ct.at rfl | exact ct.at0 rfl) ?_ | refine ldM_mk (by first | exact ct.at rfl | exact ct.at0 rfl) ?_) | refine nn_mk ?_ | refine And.intro (by (repeat (first | refine ldI_mk (by first | exact ct.at rfl | exact ct.at0 rfl) ?_ | refine ldB_mk (by first | exact ct.at rfl | exact ct.at0 rfl) ?_ | refine ldL_mk (by first | exact ct.at rfl | exact ct.at0 rfl) ?_ | refine ldP_mk (by first | exact ct.at rfl | exact ct.at0 rfl) ?_ | refine ldS_mk (by first | exact ct.at rfl | exact ct.at0 rfl) ?_ | refine ldM_mk (by first | exact ct.at rfl | exact ct.at0 rfl) ?_)); exact rfl) ?_ | refine ifNS ?_ | refine And.intro (by decide) ?_)
  unfold lateB at hk
  refine ifD (fun e => ?_) fun e => ?_
  · rw [decide_eq_true e] at hk; exact hk
  · rw [decide_eq_false e] at hk; exact hk
theorem port_c [Gh] (n : Int) {h : Heap} {Q : Value → Heap → Prop} (hk : Q (.bool (decide (0 ≤ n ∧ n ≤ 65535))) h) : CallT Try.prog fn_flowtable_port #[.int .i64 n] h Q := by
  apply flowtable_port_s
  unfold flowtable_port_v
  refine ifD (fun e => ?_) fun e => ?_
  · have : decide (n ≤ 65535) = decide (0 ≤ n ∧ n ≤ 65535) := by rw [Bool.eq_iff_iff]; simp only [decide_eq_true_eq]; omega
    rw [this]; exact hk
  · rw [decide_eq_false (by omega)] at hk; exact hk
theorem reverse_c [Gh] (f : Fl) {h : Heap} {Q : Value → Heap → Prop} (hk : ∀ h', Fr (fun _ => False) h h' → Q (.agg f.rev.vals.toArray) h') :
    CallT Try.prog fn_flowtable_Reverse #[.agg #[.int .i64 f.proto, .bool f.src.v6, .int .u64 f.src.hi, .int .u64 f.src.lo, .bool f.dst.v6, .int .u64 f.dst.hi, .int .u64 f.dst.lo, .int .i64 f.sport, .int .i64 f.dport]] h Q := by
  apply flowtable_Reverse_s
  unfold flowtable_Reverse_v
  refine al_H (Hs.pure h) fun t1 h1 H l1 => ?_
  refine al_H H fun t2 h2 H l2 => ?_
  have C0 := (H.get 0 rfl).cells; have C1 := (H.get 1 rfl).cells; repeat (first | (first | refine ldI_mk (by first | exact C0.at rfl | exact C0.at0 rfl | exact C1.at rfl | exact C1.at0 rfl) ?_ | refine ldB_mk (by first | exact C0.at rfl | exact C0.at0 rfl | exact C1.at rfl | exact C1.at0 rfl) ?_ | refine ldL_mk (by first | exact C0.at rfl | exact C0.at0 rfl | exact C1.at rfl | exact C1.at0 rfl) ?_ | refine ldP_mk (by first | exact C0.at rfl | exact C0.at0 rfl | exact C1.at rfl | exact C1.at0 rfl) ?_ | refine ldS_mk (by first | exact C0.at rfl | exact C0.at0 rfl | exact C1.at rfl | exact C1.at0 rfl) ?_ | refine ldM_mk (by first | exact C0.at rfl | exact C0.at0 rfl | exact C1.at rfl | exact C1.at0 rfl) ?_) | refine nn_mk ?_ | refine And.intro (by (repeat (first | refine ldI_mk (by first | exact C0.at rfl | exact C0.at0 rfl | exact C1.at rfl | exact C1.at0 rfl) ?_ | refine ldB_mk (by first | exact C0.at rfl | exact C0.at0 rfl | exact C1.at rfl | exact C1.at0 rfl) ?_ | refine ldL_mk (by first | exact C0.at rfl | exact C0.at0 rfl | exact C1.at rfl | exact C1.at0 rfl) ?_ | refine ldP_mk (by first | exact C0.at rfl | exact C0.at0 rfl | exact C1.at rfl | exact C1.at0 rfl) ?_ | refine ldS_mk (by first | exact C0.at rfl | exact C0.at0 rfl | exact C1.at rfl | exact C1.at0 rfl) ?_ | refine ldM_mk (by first | exact C0.at rfl | exact C0.at0 rfl | exact C1.at rfl | exact C1.at0 rfl) ?_)); exact rfl) ?_ | refine ifNS ?_ | refine And.intro (by decide) ?_)
  refine stN_H H 0 rfl (by rfl) (by rfl) fun h3 H => ?_
  have C0 := (H.get 0 rfl).cells; have C1 := (H.get 1 rfl).cells; repeat (first | (first | refine ldI_mk (by first | exact C0.at rfl | exact C0.at0 rfl | exact C1.at rfl | exact C1.at0 rfl) ?_ | refine ldB_mk (by first | exact C0.at rfl | exact C0.at0 rfl | exact C1.at rfl | exact C1.at0 rfl) ?_ | refine ldL_mk (by first | exact C0.at rfl | exact C0.at0 rfl | exact C1.at rfl | exact C1.at0 rfl) ?_ | refine ldP_mk (by first | exact C0.at rfl | exact C0.at0 rfl | exact C1.at rfl | exact C1.at0 rfl) ?_ | refine ldS_mk (by first | exact C0.at rfl | exact C0.at0 rfl | exact C1.at rfl | exact C1.at0 rfl) ?_ | refine ldM_mk (by first | exact C0.at rfl | exact C0.at0 rfl | exact C1.at rfl | exact C1.at0 rfl) ?_) | refine nn_mk ?_ | refine And.intro (by (repeat (first | refine ldI_mk (by first | exact C0.at rfl | exact C0.at0 rfl | exact C1.at rfl | exact C1.at0 rfl) ?_ | refine ldB_mk (by first | exact C0.at rfl | exact C0.at0 rfl | exact C1.at rfl | exact C1.at0 rfl) ?_ | refine ldL_mk (by first | exact C0.at rfl | exact C0.at0 rfl | exact C1.at rfl | exact C1.at0 rfl) ?_ | refine ldP_mk (by first | exact C0.at rfl | exact C0.at0 rfl | exact C1.at rfl | exact C1.at0 rfl) ?_ | refine ldS_mk (by first | exact C0.at rfl | exact C0.at0 rfl | exact C1.at rfl | exact C1.at0 rfl) ?_ | refine ldM_mk (by first | exact C0.at rfl | exact C0.at0 rfl | exact C1.at rfl | exact C1.at0 rfl) ?_)); exact rfl) ?_ | refine ifNS ?_ | refine And.intro (by decide) ?_)
  exact hk _ H.fr0
theorem rReverse_c [Gh] (f : Fl) {h : Heap} {Q : Value → Heap → Prop} (hk : ∀ h', Fr (fun _ => False) h h' → Q (.agg f.rev.vals.toArray) h') :
    CallT Try.prog fn_ref22_Reverse #[.agg #[.int .i64 f.proto, .bool f.src.v6, .int .u64 f.src.hi, .int .u64 f.src.lo, .bool f.dst.v6, .int .u64 f.dst.hi, .int .u64 f.dst.lo, .int .i64 f.sport, .int .i64 f.dport]] h Q := by
  apply ref22_Reverse_s
  unfold ref22_Reverse_v
  refine al_H (Hs.pure h) fun t1 h1 H l1 => ?_
  refine al_H H fun t2 h2 H l2 => ?_
  have C0 := (H.get 0 rfl).cells; have C1 := (H.get 1 rfl).cells; repeat (first | (first | refine ldI_mk (by first | exact C0.at rfl | exact C0.at0 rfl | exact C1.at rfl | exact C1.at0 rfl) ?_ | refine ldB_mk (by first | exact C0.at rfl | exact C0.at0 rfl | exact C1.at rfl | exact C1.at0 rfl) ?_ | refine ldL_mk (by first | exact C0.at rfl | exact C0.at0 rfl | exact C1.at rfl | exact C1.at0 rfl) ?_ | refine ldP_mk (by first | exact C0.at rfl | exact C0.at0 rfl | exact C1.at rfl | exact C1.at0 rfl) ?_ | refine ldS_mk (by first | exact C0.at rfl | exact C0.at0 rfl | exact C1.at rfl | exact C1.at0 rfl) ?_ | refine ldM_mk (by first | exact C0.at rfl | exact C0.at0 rfl | exact C1.at rfl | exact C1.at0 rfl) ?_) | refine nn_mk ?_ | refine And.intro (by (repeat (first | refine ldI_mk (by first | exact C0.at rfl | exact C0.at0 rfl | exact C1.at rfl | exact C1.at0 rfl) ?_ | refine ldB_mk (by first | exact C0.at rfl | exact C0.at0 rfl | exact C1.at rfl | exact C1.at0 rfl) ?_ | refine ldL_mk (by first | exact C0.at rfl | exact C0.at0 rfl | exact C1.at rfl | exact C1.at0 rfl) ?_ | refine ldP_mk (by first | exact C0.at rfl | exact C0.at0 rfl | exact C1.at rfl | exact C1.at0 rfl) ?_ | refine ldS_mk (by first | exact C0.at rfl | exact C0.at0 rfl | exact C1.at rfl | exact C1.at0 rfl) ?_ | refine ldM_mk (by first | exact C0.at rfl | exact C0.at0 rfl | exact C1.at rfl | exact C1.at0 rfl) ?_)); exact rfl) ?_ | refine ifNS ?_ | refine And.intro (by decide) ?_)
  refine stN_H H 0 rfl (by rfl) (by rfl) fun h3 H => ?_
  have C0 := (H.get 0 rfl).cells; have C1 := (H.get 1 rfl).cells; repeat (first | (first | refine ldI_mk (by first | exact C0.at rfl | exact C0.at0 rfl | exact C1.at rfl | exact C1.at0 rfl) ?_ | refine ldB_mk (by first | exact C0.at rfl | exact C0.at0 rfl | exact C1.at rfl | exact C1.at0 rfl) ?_ | refine ldL_mk (by first | exact C0.at rfl | exact C0.at0 rfl | exact C1.at rfl | exact C1.at0 rfl) ?_ | refine ldP_mk (by first | exact C0.at rfl | exact C0.at0 rfl | exact C1.at rfl | exact C1.at0 rfl) ?_ | refine ldS_mk (by first | exact C0.at rfl | exact C0.at0 rfl | exact C1.at rfl | exact C1.at0 rfl) ?_ | refine ldM_mk (by first | exact C0.at rfl | exact C0.at0 rfl | exact C1.at rfl | exact C1.at0 rfl) ?_) | refine nn_mk ?_ | refine And.intro (by (repeat (first | refine ldI_mk (by first | exact C0.at rfl | exact C0.at0 rfl | exact C1.at rfl | exact C1.at0 rfl) ?_ | refine ldB_mk (by first | exact C0.at rfl | exact C0.at0 rfl | exact C1.at rfl | exact C1.at0 rfl) ?_ | refine ldL_mk (by first | exact C0.at rfl | exact C0.at0 rfl | exact C1.at rfl | exact C1.at0 rfl) ?_ | refine ldP_mk (by first | exact C0.at rfl | exact C0.at0 rfl | exact C1.at rfl | exact C1.at0 rfl) ?_ | refine ldS_mk (by first | exact C0.at rfl | exact C0.at0 rfl | exact C1.at rfl | exact C1.at0 rfl) ?_ | refine ldM_mk (by first | exact C0.at rfl | exact C0.at0 rfl | exact C1.at rfl | exact C1.at0 rfl) ?_)); exact rfl) ?_ | refine ifNS ?_ | refine And.intro (by decide) ?_)
  exact hk _ H.fr0
theorem flEq (x y : Fl) : ((x.proto == y.proto) && (((x.src.v6 == y.src.v6) && ((x.src.hi == y.src.hi) && ((x.src.lo == y.src.lo) && true))) && (((x.dst.v6 == y.dst.v6) && ((x.dst.hi == y.dst.hi) && ((x.dst.lo == y.dst.lo) && true))) && ((x.sport == y.sport) && ((x.dport == y.dport) && true))))) = decide (x = y) := by
  obtain ⟨a1, ⟨a2, a3, a4⟩, ⟨a5, a6, a7⟩, a8, a9⟩ := x
  obtain ⟨b1, ⟨b2, b3, b4⟩, ⟨b5, b6, b7⟩, b8, b9⟩ := y
  rw [Bool.eq_iff_iff]
  simp only [Bool.and_eq_true, beq_iff_eq, decide_eq_true_eq, Fl.mk.injEq, Ad.mk.injEq, and_true]
theorem ifFl {x y : Fl} {X Y : Prop} (h1 : x = y → X) (h2 : x ≠ y → Y) : if ((x.proto == y.proto) && (((x.src.v6 == y.src.v6) && ((x.src.hi == y.src.hi) && ((x.src.lo == y.src.lo) && true))) && (((x.dst.v6 == y.dst.v6) && ((x.dst.hi == y.dst.hi) && ((x.dst.lo == y.dst.lo) && true))) && ((x.sport == y.sport) && ((x.dport == y.dport) && true))))) = true then X else Y := by
  rw [flEq]; exact ifD h1 h2
end Go.Proofs.Ytbmifkjdjekenaa
