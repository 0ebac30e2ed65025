/-
  The reference's table: Expire, Open.
-/
import Derived.Test.YtbmifkjdjekenaaFtI
namespace Go.Proofs.Ytbmifkjdjekenaa
set_option linter.unusedSimpArgs false
set_option linter.unusedVariables false
set_option maxRecDepth 20000
open Go
open Go.IntKind (wrap)
attribute [local irreducible] Addr.add stN st1 idxA idxS alV sliceStr LoopV
def cutL (L : List FEn) (out : List Int) : List FEn := L.filter fun e => !decide (e.id ∈ out)
theorem cut_step {L : List FEn} {out : List Int} {j : Nat} (hj : j < out.length) : without (cutL L (out.take j)) out[j] = cutL L (out.take (j + 1)) := by
  have ht : out.take (j + 1) = out.take j ++ [out[j]] := by rw [List.take_append_getElem]
  unfold without cutL
  rw [List.filter_filter]
  apply List.filter_congr
  intro e _
  have hm : e.id ∈ out.take (j + 1) ↔ e.id ∈ out.take j ∨ e.id = out[j] := by rw [ht, List.mem_append, List.mem_singleton]
  by_cases h : e.id = out[j]
  · rw [decide_eq_false (fun h' => h' h), decide_eq_true (hm.2 (.inr h))]; rfl
  · rw [decide_eq_true h, Bool.true_and]
    congr 1
    rw [Bool.eq_iff_iff, decide_eq_true_eq, decide_eq_true_eq, hm]
    exact ⟨.inl, fun h' => h'.resolve_right h⟩
theorem cut_old {st : St} (w : Wf st) (at_ : Int) : cutL st.L ((st.L.filter (oldB st at_)).map (·.id)) = st.L.filter fun e => !oldB st at_ e := by
  unfold cutL
  apply List.filter_congr
  intro e he
  congr 1
  rw [Bool.eq_iff_iff, decide_eq_true_eq, List.mem_map]
  constructor
  · rintro ⟨d, hd, hi⟩
    obtain ⟨h1, h2⟩ := List.mem_filter.1 hd
    rw [ent_inj w.nd h1 he hi] at h2; exact h2
  · exact fun h => ⟨e, List.mem_filter.2 ⟨he, h⟩, rfl⟩
theorem rExpire_c [Gh] {ok : Nat → Prop} {h : Heap} {x : Addr} {st : St} {p : Option Addr} {cap : Nat} (R : RefF ok h x st p cap) (hok : ∀ b, h.size ≤ b → ok b) (w : Wf st) (at_ : Int) {Q : Value → Heap → Prop}
    (hk : ∀ q c h' p' cap', Fr ok h h' → RefF ok h' x (expireS st at_).2 p' cap' → Row 1 intV h' q c (expireS st at_).1 → (∀ b, InA q b → h.size ≤ b) → Q (.slice q (expireS st at_).1.length c) h') :
    CallT Try.prog fn_ref22_Table_Expire #[.pointer (some x), .int .i64 at_] h Q := by
  apply ref22_Table_Expire_s
  unfold ref22_Table_Expire_v
  unfold expireS at hk
  have hl := w.len64
  refine wrong_c R at_ ⟨_, rfl, ?_⟩
  refine ifB (fun e => ?_) fun e => ?_
  · rw [if_pos e] at hk; exact hk none 0 h p cap (Fr.refl _ _) R Row.nil (fun b hb => (notInA hb).elim)
  rw [if_neg (by simp [e])] at hk
  have ht := lateB_time w e
  have hto := w.timeout
  have lx := R.own.lt
  refine nn_mk (st1_own R.own 2 (by simp) rfl fun h1 f1 s1 o1 => ?_)
  have R1 : RefF ok h1 x { st with time := at_ } p cap := ⟨o1, R.row.fr f1 (fun b hb => (R.pb b hb).1), R.pb, R.okx⟩
  have f1' : Fr ok h h1 := f1.mono fun b hb => hb ▸ R.okx
  refine LoopV.mk (fun s h' => ∃ (i : Nat), s.2.2.2 = (i : Int) ∧ i ≤ st.L.length ∧ s.2.1 = (goneL st at_ i).length ∧ Fr (fun _ => False) h1 h' ∧ Row 1 intV h' s.1 s.2.2.1 (goneL st at_ i) ∧ ∀ b, InA s.1 b → h1.size ≤ b) (fun s _ => st.L.length - s.2.2.2.toNat)
    ⟨0, rfl, by omega, rfl, Fr.refl _ _, Row.nil, fun b hb => (notInA hb).elim⟩ ?_
  rintro ⟨a, n, c, j⟩ h2 ⟨i, hj, hi, hn, f2, Ra, ha⟩
  dsimp only at hj hn Ra ha
  subst hj hn
  unfold ref22_Table_Expire_l1
  dsimp only
  have R2 := R1.fr0 f2
  have ct := R2.own.cells
  repeat (first | (first | refine ldI_mk (by first | exact ct.at rfl | exact ct.at0 rfl) ?_ | refine ldB_mk (by first | exact ct.at rfl | exact ct.at0 rfl) ?_ | refine ldL_mk (by first | exact ct.at rfl | exact ct.at0 rfl) ?_ | refine ldP_mk (by first | exact ct.at rfl | exact ct.at0 rfl) ?_ | refine ldS_mk (by first | exact ct.at rfl | exact ct.at0 rfl) ?_ | refine ldM_mk (by first | exact ct.at rfl | exact ct.at0 rfl) ?_) | refine nn_mk ?_ | refine And.intro (by (repeat (first | refine ldI_mk (by first | exact ct.at rfl | exact ct.at0 rfl) ?_ | refine ldB_mk (by first | exact ct.at rfl | exact ct.at0 rfl) ?_ | refine ldL_mk (by first | exact ct.at rfl | exact ct.at0 rfl) ?_ | refine ldP_mk (by first | exact ct.at rfl | exact ct.at0 rfl) ?_ | refine ldS_mk (by first | exact ct.at rfl | exact ct.at0 rfl) ?_ | refine ldM_mk (by first | exact ct.at rfl | exact ct.at0 rfl) ?_)); exact rfl) ?_ | refine ifNS ?_ | refine And.intro (by decide) ?_)
  have hgl : (goneL st at_ i).length ≤ 64 := by
    unfold goneL; rw [List.length_map]; exact Nat.le_trans (List.length_filter_le ..) (by rw [List.length_take]; omega)
  refine ifD (fun e1 => ?_) fun e1 => ?_
  · have e1 : (i : Int) < (st.L.length : Int) := e1
    have hlt : i < st.L.length := by omega
    obtain ⟨s1, s2⟩ := left_step w at_ hlt
    repeat (first | (first | refine ldI_mk (by first | exact ct.at rfl | exact ct.at0 rfl) ?_ | refine ldB_mk (by first | exact ct.at rfl | exact ct.at0 rfl) ?_ | refine ldL_mk (by first | exact ct.at rfl | exact ct.at0 rfl) ?_ | refine ldP_mk (by first | exact ct.at rfl | exact ct.at0 rfl) ?_ | refine ldS_mk (by first | exact ct.at rfl | exact ct.at0 rfl) ?_ | refine ldM_mk (by first | exact ct.at rfl | exact ct.at0 rfl) ?_) | refine nn_mk ?_ | refine And.intro (by (repeat (first | refine ldI_mk (by first | exact ct.at rfl | exact ct.at0 rfl) ?_ | refine ldB_mk (by first | exact ct.at rfl | exact ct.at0 rfl) ?_ | refine ldL_mk (by first | exact ct.at rfl | exact ct.at0 rfl) ?_ | refine ldP_mk (by first | exact ct.at rfl | exact ct.at0 rfl) ?_ | refine ldS_mk (by first | exact ct.at rfl | exact ct.at0 rfl) ?_ | refine ldM_mk (by first | exact ct.at rfl | exact ct.at0 rfl) ?_)); exact rfl) ?_ | refine ifNS ?_ | refine And.intro (by decide) ?_)
    refine R2.row.idx entV_len (by omega) i rfl hlt fun ad ce => ?_
    rw [Int.toNat_natCast]
    refine ldI_mk (ce.at rfl) ?_
    repeat (first | (first | refine ldI_mk (by first | exact ct.at rfl | exact ct.at0 rfl) ?_ | refine ldB_mk (by first | exact ct.at rfl | exact ct.at0 rfl) ?_ | refine ldL_mk (by first | exact ct.at rfl | exact ct.at0 rfl) ?_ | refine ldP_mk (by first | exact ct.at rfl | exact ct.at0 rfl) ?_ | refine ldS_mk (by first | exact ct.at rfl | exact ct.at0 rfl) ?_ | refine ldM_mk (by first | exact ct.at rfl | exact ct.at0 rfl) ?_) | refine nn_mk ?_ | refine And.intro (by (repeat (first | refine ldI_mk (by first | exact ct.at rfl | exact ct.at0 rfl) ?_ | refine ldB_mk (by first | exact ct.at rfl | exact ct.at0 rfl) ?_ | refine ldL_mk (by first | exact ct.at rfl | exact ct.at0 rfl) ?_ | refine ldP_mk (by first | exact ct.at rfl | exact ct.at0 rfl) ?_ | refine ldS_mk (by first | exact ct.at rfl | exact ct.at0 rfl) ?_ | refine ldM_mk (by first | exact ct.at rfl | exact ct.at0 rfl) ?_)); exact rfl) ?_ | refine ifNS ?_ | refine And.intro (by decide) ?_)
    rw [wr (x := at_ - st.timeout) (by omega) (by omega), wr (x := (i : Int) + 1) (by omega) (by omega)]
    refine ifD (fun e2 => ?_) fun e2 => ?_
    · obtain ⟨_, t2⟩ := s1 (decide_eq_true e2)
      repeat (first | (first | refine ldI_mk (by first | exact ct.at rfl | exact ct.at0 rfl) ?_ | refine ldB_mk (by first | exact ct.at rfl | exact ct.at0 rfl) ?_ | refine ldL_mk (by first | exact ct.at rfl | exact ct.at0 rfl) ?_ | refine ldP_mk (by first | exact ct.at rfl | exact ct.at0 rfl) ?_ | refine ldS_mk (by first | exact ct.at rfl | exact ct.at0 rfl) ?_ | refine ldM_mk (by first | exact ct.at rfl | exact ct.at0 rfl) ?_) | refine nn_mk ?_ | refine And.intro (by (repeat (first | refine ldI_mk (by first | exact ct.at rfl | exact ct.at0 rfl) ?_ | refine ldB_mk (by first | exact ct.at rfl | exact ct.at0 rfl) ?_ | refine ldL_mk (by first | exact ct.at rfl | exact ct.at0 rfl) ?_ | refine ldP_mk (by first | exact ct.at rfl | exact ct.at0 rfl) ?_ | refine ldS_mk (by first | exact ct.at rfl | exact ct.at0 rfl) ?_ | refine ldM_mk (by first | exact ct.at rfl | exact ct.at0 rfl) ?_)); exact rfl) ?_ | refine ifNS ?_ | refine And.intro (by decide) ?_)
      refine R2.row.idx entV_len (by omega) i rfl hlt fun ad ce => ?_
      refine ldI_mk (ce.at0 rfl) ?_
      refine al_mk (vs := intV st.L[i].id) fun b h3 f3 e3' ob => ?_
      have z2 := f2.size
      have z3 := f3.size
      refine appI (Ra.fr0 f3) ob (by omega) fun p' c' h4 R4 f4 hn4 => ⟨_, _, _, rfl, ?_⟩
      rw [← t2] at R4 ⊢
      refine ⟨⟨i + 1, rfl, hlt, rfl, (f2.trans f3).tr f4 fun b hb hi => by have := ha b hi; omega, R4, fun b hb => ?_⟩, by omega⟩
      rcases hn4 b hb with h | h
      · exact ha b h
      · omega
    · obtain ⟨_, t2⟩ := s2 (decide_eq_false e2)
      rw [← t2] at Ra ⊢
      exact ⟨⟨i + 1, rfl, hlt, rfl, f2, Ra, ha⟩, by omega⟩
  · have e1 : ¬ (i : Int) < (st.L.length : Int) := e1
    have eG : goneL st at_ i = (st.L.filter (oldB st at_)).map (·.id) := by unfold goneL; rw [List.take_of_length_le (by omega)]
    rw [eG] at Ra hgl ⊢
    generalize hout : (st.L.filter (oldB st at_)).map (·.id) = out at *
    have hcut : cutL st.L out = st.L.filter fun e => !oldB st at_ e := by rw [← hout]; exact cut_old w at_
    have z2 := f2.size
    unfold ref22_Table_Expire_b2
    have R2' : RefF (fun b => ok b ∧ ¬ InA a b) h2 x { st with time := at_ } p cap :=
      ⟨R2.own, R2.row, fun b hb => ⟨(R2.pb b hb).1, (R2.pb b hb).2, fun h => by have := ha b h; have := R1.row.lt hb; omega⟩, R2.okx, fun h => by have := ha _ h; omega⟩
    have hc0 : cutL st.L (out.take 0) = st.L := by unfold cutL; simp
    have R20 : RefF (fun b => ok b ∧ ¬ InA a b) h2 x { st with time := at_, L := cutL st.L (out.take 0) } p cap := by rw [hc0]; exact R2'
    refine LoopV.mk (fun s h' => ∃ (j : Nat) (p' : Option Addr) (cap' : Nat), s = (j : Int) ∧ j ≤ out.length ∧ Fr (fun b => b = x.block) h2 h' ∧ (∃ st2 : St, st2 = { st with time := at_, L := cutL st.L (out.take j) } ∧ RefF (fun b => ok b ∧ ¬ InA a b) h' x st2 p' cap') ∧ Row 1 intV h' a c out) (fun s _ => out.length - s.toNat)
      ⟨0, p, cap, rfl, by omega, Fr.refl _ _, ⟨_, rfl, R20⟩, Ra⟩ ?_
    rintro - h3 ⟨j, p', cap', rfl, hj, f3, ⟨st2, e2, R3⟩, Ra3⟩
    have z3 := f3.size
    unfold ref22_Table_Expire_l3
    refine ifD (fun e4 => ?_) fun e4 => ?_
    · have hlt : j < out.length := by omega
      refine Ra3.idx intV_len (by omega) j rfl hlt fun ad ce => ?_
      rw [Int.toNat_natCast]
      refine ldI_mk (ce.at0 rfl) ?_
      have hcl : (cutL st.L (out.take j)).length ≤ 64 := Nat.le_trans (List.length_filter_le ..) hl
      subst e2
      refine without_c R3 (fun b hb => ⟨hok b (by omega), fun h => by have := Ra3.lt h; omega⟩) hcl out[j] fun h4 p4 c4 f4 st4 e4 R4 _ => ⟨_, rfl, ?_⟩
      rw [wr (by omega) (by omega)]
      have es := cut_step (L := st.L) hlt
      refine ⟨⟨j + 1, p4, c4, rfl, hlt, f3.trans f4, ⟨st4, ?_, R4⟩, Ra3.fr f4 fun b hb h => by have := ha b hb; omega⟩, by omega⟩
      rw [e4, ← es]
    · rw [List.take_of_length_le (by omega), hcut] at e2
      subst e2
      refine hk a c h3 p' cap' ((f1'.trans (f2.mono fun _ h => h.elim)).trans (f3.mono fun b hb => hb ▸ R.okx)) ⟨R3.own, R3.row, fun b hb => ⟨(R3.pb b hb).1, (R3.pb b hb).2.1⟩, R3.okx.1⟩ Ra3 fun b hb => by have := ha b hb; omega
theorem rOpen_b3 [Gh] {ok : Nat → Prop} {h : Heap} {x : Addr} {st st' : St} {M : List FEn} {p : Option Addr} {cap : Nat} (e : st' = { st with L := M }) (R : RefF ok h x st' p cap) (hM : M.length ≤ 64) (hok : ∀ b, h.size ≤ b → ok b) (hu : 0 ≤ st.used ∧ st.used ≤ 2 ^ 40)
    {f6 : Addr} {f : Fl} (o6 : Own h f6 f.vals T_api_Flow) (h6 : f6.block ≠ x.block) (at_ v ev : Int) {Q : Value → Heap → Prop}
    (hk : ∀ h' p' cap', Fr ok h h' → RefF ok h' x (addE st at_ v f M) p' cap' → Q (.tuple #[.int .i64 (st.used + 1), .int .i64 ev, .int .i64 0]) h') : ref22_Table_Open_b3 (some x) at_ v f6 ev Q h := by
  subst e
  unfold ref22_Table_Open_b3
  have lx := R.own.lt
  refine nn_mk (st1_own R.own 2 (by simp) rfl fun h1 f1 s1 o1 => ?_)
  have ct := o1.cells
  simp only [List.set_cons_zero, List.set_cons_succ] at o1 ct
  repeat (first | (first | refine ldI_mk (by first | exact ct.at rfl | exact ct.at0 rfl) ?_ | refine ldB_mk (by first | exact ct.at rfl | exact ct.at0 rfl) ?_ | refine ldL_mk (by first | exact ct.at rfl | exact ct.at0 rfl) ?_ | refine ldP_mk (by first | exact ct.at rfl | exact ct.at0 rfl) ?_ | refine ldS_mk (by first | exact ct.at rfl | exact ct.at0 rfl) ?_ | refine ldM_mk (by first | exact ct.at rfl | exact ct.at0 rfl) ?_) | refine nn_mk ?_ | refine And.intro (by (repeat (first | refine ldI_mk (by first | exact ct.at rfl | exact ct.at0 rfl) ?_ | refine ldB_mk (by first | exact ct.at rfl | exact ct.at0 rfl) ?_ | refine ldL_mk (by first | exact ct.at rfl | exact ct.at0 rfl) ?_ | refine ldP_mk (by first | exact ct.at rfl | exact ct.at0 rfl) ?_ | refine ldS_mk (by first | exact ct.at rfl | exact ct.at0 rfl) ?_ | refine ldM_mk (by first | exact ct.at rfl | exact ct.at0 rfl) ?_)); exact rfl) ?_ | refine ifNS ?_ | refine And.intro (by decide) ?_)
  refine st1_own o1 3 (by simp) rfl fun h2 f2 s2 o2 => ?_
  rw [wr (x := st.used + 1) (by omega) (by omega)] at o2
  have ct := o2.cells
  simp only [List.set_cons_zero, List.set_cons_succ] at o2 ct
  have o6 := (o6.fr f1 h6).fr f2 h6
  have c6 : Cells h2 f6 f.vals := o6.cells
  repeat (first | (first | refine ldI_mk (by first | exact ct.at rfl | exact ct.at0 rfl | exact c6.at rfl | exact c6.at0 rfl) ?_ | refine ldB_mk (by first | exact ct.at rfl | exact ct.at0 rfl | exact c6.at rfl | exact c6.at0 rfl) ?_ | refine ldL_mk (by first | exact ct.at rfl | exact ct.at0 rfl | exact c6.at rfl | exact c6.at0 rfl) ?_ | refine ldP_mk (by first | exact ct.at rfl | exact ct.at0 rfl | exact c6.at rfl | exact c6.at0 rfl) ?_ | refine ldS_mk (by first | exact ct.at rfl | exact ct.at0 rfl | exact c6.at rfl | exact c6.at0 rfl) ?_ | refine ldM_mk (by first | exact ct.at rfl | exact ct.at0 rfl | exact c6.at rfl | exact c6.at0 rfl) ?_) | refine nn_mk ?_ | refine And.intro (by (repeat (first | refine ldI_mk (by first | exact ct.at rfl | exact ct.at0 rfl | exact c6.at rfl | exact c6.at0 rfl) ?_ | refine ldB_mk (by first | exact ct.at rfl | exact ct.at0 rfl | exact c6.at rfl | exact c6.at0 rfl) ?_ | refine ldL_mk (by first | exact ct.at rfl | exact ct.at0 rfl | exact c6.at rfl | exact c6.at0 rfl) ?_ | refine ldP_mk (by first | exact ct.at rfl | exact ct.at0 rfl | exact c6.at rfl | exact c6.at0 rfl) ?_ | refine ldS_mk (by first | exact ct.at rfl | exact ct.at0 rfl | exact c6.at rfl | exact c6.at0 rfl) ?_ | refine ldM_mk (by first | exact ct.at rfl | exact ct.at0 rfl | exact c6.at rfl | exact c6.at0 rfl) ?_)); exact rfl) ?_ | refine ifNS ?_ | refine And.intro (by decide) ?_)
  refine al_mk (vs := entV ⟨st.used + 1, v, at_, f⟩) fun b h3 f3 e3 ob => ?_
  have z3 := f3.size
  have o3 := o2.fr0 f3
  have ct := o3.cells
  repeat (first | (first | refine ldI_mk (by first | exact ct.at rfl | exact ct.at0 rfl) ?_ | refine ldB_mk (by first | exact ct.at rfl | exact ct.at0 rfl) ?_ | refine ldL_mk (by first | exact ct.at rfl | exact ct.at0 rfl) ?_ | refine ldP_mk (by first | exact ct.at rfl | exact ct.at0 rfl) ?_ | refine ldS_mk (by first | exact ct.at rfl | exact ct.at0 rfl) ?_ | refine ldM_mk (by first | exact ct.at rfl | exact ct.at0 rfl) ?_) | refine nn_mk ?_ | refine And.intro (by (repeat (first | refine ldI_mk (by first | exact ct.at rfl | exact ct.at0 rfl) ?_ | refine ldB_mk (by first | exact ct.at rfl | exact ct.at0 rfl) ?_ | refine ldL_mk (by first | exact ct.at rfl | exact ct.at0 rfl) ?_ | refine ldP_mk (by first | exact ct.at rfl | exact ct.at0 rfl) ?_ | refine ldS_mk (by first | exact ct.at rfl | exact ct.at0 rfl) ?_ | refine ldM_mk (by first | exact ct.at rfl | exact ct.at0 rfl) ?_)); exact rfl) ?_ | refine ifNS ?_ | refine And.intro (by decide) ?_)
  have Rr := ((R.row.fr f1 (fun b hb => (R.pb b hb).1)).fr f2 (fun b hb => (R.pb b hb).1)).fr0 f3
  refine appE (e := ⟨st.used + 1, v, at_, f⟩) Rr ob (by show M.length ≤ _; omega) fun p' c' h4 R4 f4 hn4 => ⟨_, _, _, rfl, ?_⟩
  have o4 := o3.fr f4 (fun h => (R.pb _ h).1 rfl)
  refine nn_mk (st1_own o4 4 (by simp) rfl fun h5 f5 s5 o5 => ?_)
  simp only [List.set_cons_zero, List.set_cons_succ] at o5
  have ct := o5.cells
  repeat (first | (first | refine ldI_mk (by first | exact ct.at rfl | exact ct.at0 rfl) ?_ | refine ldB_mk (by first | exact ct.at rfl | exact ct.at0 rfl) ?_ | refine ldL_mk (by first | exact ct.at rfl | exact ct.at0 rfl) ?_ | refine ldP_mk (by first | exact ct.at rfl | exact ct.at0 rfl) ?_ | refine ldS_mk (by first | exact ct.at rfl | exact ct.at0 rfl) ?_ | refine ldM_mk (by first | exact ct.at rfl | exact ct.at0 rfl) ?_) | refine nn_mk ?_ | refine And.intro (by (repeat (first | refine ldI_mk (by first | exact ct.at rfl | exact ct.at0 rfl) ?_ | refine ldB_mk (by first | exact ct.at rfl | exact ct.at0 rfl) ?_ | refine ldL_mk (by first | exact ct.at rfl | exact ct.at0 rfl) ?_ | refine ldP_mk (by first | exact ct.at rfl | exact ct.at0 rfl) ?_ | refine ldS_mk (by first | exact ct.at rfl | exact ct.at0 rfl) ?_ | refine ldM_mk (by first | exact ct.at rfl | exact ct.at0 rfl) ?_)); exact rfl) ?_ | refine ifNS ?_ | refine And.intro (by decide) ?_)
  have hp' : ∀ b, InA p' b → b ≠ x.block ∧ ok b := fun b hb => by
    rcases hn4 b hb with h | h
    · exact R.pb b h
    · exact ⟨by omega, hok b (by omega)⟩
  have fx : ∀ {a b : Heap}, Fr (fun b => b = x.block) a b → Fr ok a b := fun f => f.mono fun b hb => hb ▸ R.okx
  exact hk h5 p' c' (((((fx f1).trans (fx f2)).trans (f3.mono fun _ h => h.elim)).trans (f4.mono fun b hb => (R.pb b hb).2)).trans (fx f5)) ⟨o5, R4.fr f5 (fun b hb => (hp' b hb).1), hp', R.okx⟩
theorem rOpen_c [Gh] {ok : Nat → Prop} {h : Heap} {x : Addr} {st : St} {p : Option Addr} {cap : Nat} (R : RefF ok h x st p cap) (hok : ∀ b, h.size ≤ b → ok b) (w : Wf st) (at_ : Int) (f : Fl) (v : Int) {Q : Value → Heap → Prop}
    (hk : ∀ a b c s h' p' cap', OpenR st at_ f v a b c s → Fr ok h h' → RefF ok h' x s p' cap' → Q (.tuple #[.int .i64 a, .int .i64 b, .int .i64 c]) h') :
    CallT Try.prog fn_ref22_Table_Open #[.pointer (some x), .int .i64 at_, .agg #[.int .i64 f.proto, .bool f.src.v6, .int .u64 f.src.hi, .int .u64 f.src.lo, .bool f.dst.v6, .int .u64 f.dst.hi, .int .u64 f.dst.lo, .int .i64 f.sport, .int .i64 f.dport], .int .i64 v] h Q := by
  apply ref22_Table_Open_s
  unfold ref22_Table_Open_v
  have hl := w.len64
  refine al_H (Hs.pure h) fun t6 h1 H l6 => ?_
  have lift : ∀ {a b : Heap}, Fr (fun _ => False) a b → Fr ok a b := fun f => f.mono fun _ h => h.elim
  have R1 := R.fr0 H.fr0
  refine wrong_c R1 at_ ⟨_, rfl, ?_⟩
  refine ifB (fun e => hk _ _ _ _ h1 p cap (.late e) (lift H.fr0) R1) fun e0 => ?_
  have bad : badB f v = true → Q (.tuple #[.int .i64 0, .int .i64 0, .int .i64 4]) h1 := fun e => hk _ _ _ _ h1 p cap (.bad e0 e) (lift H.fr0) R1
  unfold badB at bad
  simp only [decide_eq_true_eq] at bad
  refine ifD (fun e => bad (by omega)) fun e1 => ifD (fun e => bad (by omega)) fun e2 => ?_
  have C0 := (H.get 0 rfl).cells; repeat (first | (first | refine ldI_mk (by first | exact C0.at rfl | exact C0.at0 rfl) ?_ | refine ldB_mk (by first | exact C0.at rfl | exact C0.at0 rfl) ?_ | refine ldL_mk (by first | exact C0.at rfl | exact C0.at0 rfl) ?_ | refine ldP_mk (by first | exact C0.at rfl | exact C0.at0 rfl) ?_ | refine ldS_mk (by first | exact C0.at rfl | exact C0.at0 rfl) ?_ | refine ldM_mk (by first | exact C0.at rfl | exact C0.at0 rfl) ?_) | refine nn_mk ?_ | refine And.intro (by (repeat (first | refine ldI_mk (by first | exact C0.at rfl | exact C0.at0 rfl) ?_ | refine ldB_mk (by first | exact C0.at rfl | exact C0.at0 rfl) ?_ | refine ldL_mk (by first | exact C0.at rfl | exact C0.at0 rfl) ?_ | refine ldP_mk (by first | exact C0.at rfl | exact C0.at0 rfl) ?_ | refine ldS_mk (by first | exact C0.at rfl | exact C0.at0 rfl) ?_ | refine ldM_mk (by first | exact C0.at rfl | exact C0.at0 rfl) ?_)); exact rfl) ?_ | refine ifNS ?_ | refine And.intro (by decide) ?_)
  refine ifD (fun e => bad (by omega)) fun e3 => ?_
  have C0 := (H.get 0 rfl).cells; repeat (first | (first | refine ldI_mk (by first | exact C0.at rfl | exact C0.at0 rfl) ?_ | refine ldB_mk (by first | exact C0.at rfl | exact C0.at0 rfl) ?_ | refine ldL_mk (by first | exact C0.at rfl | exact C0.at0 rfl) ?_ | refine ldP_mk (by first | exact C0.at rfl | exact C0.at0 rfl) ?_ | refine ldS_mk (by first | exact C0.at rfl | exact C0.at0 rfl) ?_ | refine ldM_mk (by first | exact C0.at rfl | exact C0.at0 rfl) ?_) | refine nn_mk ?_ | refine And.intro (by (repeat (first | refine ldI_mk (by first | exact C0.at rfl | exact C0.at0 rfl) ?_ | refine ldB_mk (by first | exact C0.at rfl | exact C0.at0 rfl) ?_ | refine ldL_mk (by first | exact C0.at rfl | exact C0.at0 rfl) ?_ | refine ldP_mk (by first | exact C0.at rfl | exact C0.at0 rfl) ?_ | refine ldS_mk (by first | exact C0.at rfl | exact C0.at0 rfl) ?_ | refine ldM_mk (by first | exact C0.at rfl | exact C0.at0 rfl) ?_)); exact rfl) ?_ | refine ifNS ?_ | refine And.intro (by decide) ?_)
  refine ifD (fun e => bad (by omega)) fun e4 => ?_
  have C0 := (H.get 0 rfl).cells; repeat (first | (first | refine ldI_mk (by first | exact C0.at rfl | exact C0.at0 rfl) ?_ | refine ldB_mk (by first | exact C0.at rfl | exact C0.at0 rfl) ?_ | refine ldL_mk (by first | exact C0.at rfl | exact C0.at0 rfl) ?_ | refine ldP_mk (by first | exact C0.at rfl | exact C0.at0 rfl) ?_ | refine ldS_mk (by first | exact C0.at rfl | exact C0.at0 rfl) ?_ | refine ldM_mk (by first | exact C0.at rfl | exact C0.at0 rfl) ?_) | refine nn_mk ?_ | refine And.intro (by (repeat (first | refine ldI_mk (by first | exact C0.at rfl | exact C0.at0 rfl) ?_ | refine ldB_mk (by first | exact C0.at rfl | exact C0.at0 rfl) ?_ | refine ldL_mk (by first | exact C0.at rfl | exact C0.at0 rfl) ?_ | refine ldP_mk (by first | exact C0.at rfl | exact C0.at0 rfl) ?_ | refine ldS_mk (by first | exact C0.at rfl | exact C0.at0 rfl) ?_ | refine ldM_mk (by first | exact C0.at rfl | exact C0.at0 rfl) ?_)); exact rfl) ?_ | refine ifNS ?_ | refine And.intro (by decide) ?_)
  refine ifD (fun e => bad (by omega)) fun e5 => ?_
  have C0 := (H.get 0 rfl).cells; repeat (first | (first | refine ldI_mk (by first | exact C0.at rfl | exact C0.at0 rfl) ?_ | refine ldB_mk (by first | exact C0.at rfl | exact C0.at0 rfl) ?_ | refine ldL_mk (by first | exact C0.at rfl | exact C0.at0 rfl) ?_ | refine ldP_mk (by first | exact C0.at rfl | exact C0.at0 rfl) ?_ | refine ldS_mk (by first | exact C0.at rfl | exact C0.at0 rfl) ?_ | refine ldM_mk (by first | exact C0.at rfl | exact C0.at0 rfl) ?_) | refine nn_mk ?_ | refine And.intro (by (repeat (first | refine ldI_mk (by first | exact C0.at rfl | exact C0.at0 rfl) ?_ | refine ldB_mk (by first | exact C0.at rfl | exact C0.at0 rfl) ?_ | refine ldL_mk (by first | exact C0.at rfl | exact C0.at0 rfl) ?_ | refine ldP_mk (by first | exact C0.at rfl | exact C0.at0 rfl) ?_ | refine ldS_mk (by first | exact C0.at rfl | exact C0.at0 rfl) ?_ | refine ldM_mk (by first | exact C0.at rfl | exact C0.at0 rfl) ?_)); exact rfl) ?_ | refine ifNS ?_ | refine And.intro (by decide) ?_)
  refine ifD (fun e => bad (by omega)) fun e6 => ?_
  have C0 := (H.get 0 rfl).cells; repeat (first | (first | refine ldI_mk (by first | exact C0.at rfl | exact C0.at0 rfl) ?_ | refine ldB_mk (by first | exact C0.at rfl | exact C0.at0 rfl) ?_ | refine ldL_mk (by first | exact C0.at rfl | exact C0.at0 rfl) ?_ | refine ldP_mk (by first | exact C0.at rfl | exact C0.at0 rfl) ?_ | refine ldS_mk (by first | exact C0.at rfl | exact C0.at0 rfl) ?_ | refine ldM_mk (by first | exact C0.at rfl | exact C0.at0 rfl) ?_) | refine nn_mk ?_ | refine And.intro (by (repeat (first | refine ldI_mk (by first | exact C0.at rfl | exact C0.at0 rfl) ?_ | refine ldB_mk (by first | exact C0.at rfl | exact C0.at0 rfl) ?_ | refine ldL_mk (by first | exact C0.at rfl | exact C0.at0 rfl) ?_ | refine ldP_mk (by first | exact C0.at rfl | exact C0.at0 rfl) ?_ | refine ldS_mk (by first | exact C0.at rfl | exact C0.at0 rfl) ?_ | refine ldM_mk (by first | exact C0.at rfl | exact C0.at0 rfl) ?_)); exact rfl) ?_ | refine ifNS ?_ | refine And.intro (by decide) ?_)
  refine ifD (fun e => bad (by omega)) fun e7 => ?_
  have C0 := (H.get 0 rfl).cells; repeat (first | (first | refine ldI_mk (by first | exact C0.at rfl | exact C0.at0 rfl) ?_ | refine ldB_mk (by first | exact C0.at rfl | exact C0.at0 rfl) ?_ | refine ldL_mk (by first | exact C0.at rfl | exact C0.at0 rfl) ?_ | refine ldP_mk (by first | exact C0.at rfl | exact C0.at0 rfl) ?_ | refine ldS_mk (by first | exact C0.at rfl | exact C0.at0 rfl) ?_ | refine ldM_mk (by first | exact C0.at rfl | exact C0.at0 rfl) ?_) | refine nn_mk ?_ | refine And.intro (by (repeat (first | refine ldI_mk (by first | exact C0.at rfl | exact C0.at0 rfl) ?_ | refine ldB_mk (by first | exact C0.at rfl | exact C0.at0 rfl) ?_ | refine ldL_mk (by first | exact C0.at rfl | exact C0.at0 rfl) ?_ | refine ldP_mk (by first | exact C0.at rfl | exact C0.at0 rfl) ?_ | refine ldS_mk (by first | exact C0.at rfl | exact C0.at0 rfl) ?_ | refine ldM_mk (by first | exact C0.at rfl | exact C0.at0 rfl) ?_)); exact rfl) ?_ | refine ifNS ?_ | refine And.intro (by decide) ?_)
  refine ifD (fun e => bad (by omega)) fun e8 => ?_
  have hb : badB f v = false := by unfold badB; rw [decide_eq_false_iff_not]; omega
  have C0 := (H.get 0 rfl).cells; repeat (first | (first | refine ldI_mk (by first | exact C0.at rfl | exact C0.at0 rfl) ?_ | refine ldB_mk (by first | exact C0.at rfl | exact C0.at0 rfl) ?_ | refine ldL_mk (by first | exact C0.at rfl | exact C0.at0 rfl) ?_ | refine ldP_mk (by first | exact C0.at rfl | exact C0.at0 rfl) ?_ | refine ldS_mk (by first | exact C0.at rfl | exact C0.at0 rfl) ?_ | refine ldM_mk (by first | exact C0.at rfl | exact C0.at0 rfl) ?_) | refine nn_mk ?_ | refine And.intro (by (repeat (first | refine ldI_mk (by first | exact C0.at rfl | exact C0.at0 rfl) ?_ | refine ldB_mk (by first | exact C0.at rfl | exact C0.at0 rfl) ?_ | refine ldL_mk (by first | exact C0.at rfl | exact C0.at0 rfl) ?_ | refine ldP_mk (by first | exact C0.at rfl | exact C0.at0 rfl) ?_ | refine ldS_mk (by first | exact C0.at rfl | exact C0.at0 rfl) ?_ | refine ldM_mk (by first | exact C0.at rfl | exact C0.at0 rfl) ?_)); exact rfl) ?_ | refine ifNS ?_ | refine And.intro (by decide) ?_)
  refine rFind_c R1 hl f fun h2 f2 => ⟨_, _, _, rfl, ?_⟩
  have H := H.call0 f2
  have R2 := R1.fr0 f2
  refine ifB (fun e => hk _ _ _ _ h2 p cap (.exists_ e0 hb e) (lift H.fr0) R2) fun ef => ?_
  have ct := R2.own.cells
  have lx := R.own.lt
  have z1 := H.size
  have C0 := (H.get 0 rfl).cells; repeat (first | (first | refine ldI_mk (by first | exact C0.at rfl | exact C0.at0 rfl | exact ct.at rfl | exact ct.at0 rfl) ?_ | refine ldB_mk (by first | exact C0.at rfl | exact C0.at0 rfl | exact ct.at rfl | exact ct.at0 rfl) ?_ | refine ldL_mk (by first | exact C0.at rfl | exact C0.at0 rfl | exact ct.at rfl | exact ct.at0 rfl) ?_ | refine ldP_mk (by first | exact C0.at rfl | exact C0.at0 rfl | exact ct.at rfl | exact ct.at0 rfl) ?_ | refine ldS_mk (by first | exact C0.at rfl | exact C0.at0 rfl | exact ct.at rfl | exact ct.at0 rfl) ?_ | refine ldM_mk (by first | exact C0.at rfl | exact C0.at0 rfl | exact ct.at rfl | exact ct.at0 rfl) ?_) | refine nn_mk ?_ | refine And.intro (by (repeat (first | refine ldI_mk (by first | exact C0.at rfl | exact C0.at0 rfl | exact ct.at rfl | exact ct.at0 rfl) ?_ | refine ldB_mk (by first | exact C0.at rfl | exact C0.at0 rfl | exact ct.at rfl | exact ct.at0 rfl) ?_ | refine ldL_mk (by first | exact C0.at rfl | exact C0.at0 rfl | exact ct.at rfl | exact ct.at0 rfl) ?_ | refine ldP_mk (by first | exact C0.at rfl | exact C0.at0 rfl | exact ct.at rfl | exact ct.at0 rfl) ?_ | refine ldS_mk (by first | exact C0.at rfl | exact C0.at0 rfl | exact ct.at rfl | exact ct.at0 rfl) ?_ | refine ldM_mk (by first | exact C0.at rfl | exact C0.at0 rfl | exact ct.at rfl | exact ct.at0 rfl) ?_)); exact rfl) ?_ | refine ifNS ?_ | refine And.intro (by decide) ?_)
  refine ifD (fun e9 => ?_) fun e9 => ?_
  · have h0 : 0 < st.L.length := by have := w.most; omega
    have C0 := (H.get 0 rfl).cells; repeat (first | (first | refine ldI_mk (by first | exact C0.at rfl | exact C0.at0 rfl | exact ct.at rfl | exact ct.at0 rfl) ?_ | refine ldB_mk (by first | exact C0.at rfl | exact C0.at0 rfl | exact ct.at rfl | exact ct.at0 rfl) ?_ | refine ldL_mk (by first | exact C0.at rfl | exact C0.at0 rfl | exact ct.at rfl | exact ct.at0 rfl) ?_ | refine ldP_mk (by first | exact C0.at rfl | exact C0.at0 rfl | exact ct.at rfl | exact ct.at0 rfl) ?_ | refine ldS_mk (by first | exact C0.at rfl | exact C0.at0 rfl | exact ct.at rfl | exact ct.at0 rfl) ?_ | refine ldM_mk (by first | exact C0.at rfl | exact C0.at0 rfl | exact ct.at rfl | exact ct.at0 rfl) ?_) | refine nn_mk ?_ | refine And.intro (by (repeat (first | refine ldI_mk (by first | exact C0.at rfl | exact C0.at0 rfl | exact ct.at rfl | exact ct.at0 rfl) ?_ | refine ldB_mk (by first | exact C0.at rfl | exact C0.at0 rfl | exact ct.at rfl | exact ct.at0 rfl) ?_ | refine ldL_mk (by first | exact C0.at rfl | exact C0.at0 rfl | exact ct.at rfl | exact ct.at0 rfl) ?_ | refine ldP_mk (by first | exact C0.at rfl | exact C0.at0 rfl | exact ct.at rfl | exact ct.at0 rfl) ?_ | refine ldS_mk (by first | exact C0.at rfl | exact C0.at0 rfl | exact ct.at rfl | exact ct.at0 rfl) ?_ | refine ldM_mk (by first | exact C0.at rfl | exact C0.at0 rfl | exact ct.at rfl | exact ct.at0 rfl) ?_)); exact rfl) ?_ | refine ifNS ?_ | refine And.intro (by decide) ?_)
    refine R2.row.idx entV_len (by omega) 0 rfl h0 fun ad ce => ?_
    have ce : Cells h2 (ad.add (Int.toNat 0 * 12)) (entV st.L[0]) := ce
    have C0 := (H.get 0 rfl).cells; repeat (first | (first | refine ldI_mk (by first | exact C0.at rfl | exact C0.at0 rfl | exact ce.at rfl | exact ce.at0 rfl) ?_ | refine ldB_mk (by first | exact C0.at rfl | exact C0.at0 rfl | exact ce.at rfl | exact ce.at0 rfl) ?_ | refine ldL_mk (by first | exact C0.at rfl | exact C0.at0 rfl | exact ce.at rfl | exact ce.at0 rfl) ?_ | refine ldP_mk (by first | exact C0.at rfl | exact C0.at0 rfl | exact ce.at rfl | exact ce.at0 rfl) ?_ | refine ldS_mk (by first | exact C0.at rfl | exact C0.at0 rfl | exact ce.at rfl | exact ce.at0 rfl) ?_ | refine ldM_mk (by first | exact C0.at rfl | exact C0.at0 rfl | exact ce.at rfl | exact ce.at0 rfl) ?_) | refine nn_mk ?_ | refine And.intro (by (repeat (first | refine ldI_mk (by first | exact C0.at rfl | exact C0.at0 rfl | exact ce.at rfl | exact ce.at0 rfl) ?_ | refine ldB_mk (by first | exact C0.at rfl | exact C0.at0 rfl | exact ce.at rfl | exact ce.at0 rfl) ?_ | refine ldL_mk (by first | exact C0.at rfl | exact C0.at0 rfl | exact ce.at rfl | exact ce.at0 rfl) ?_ | refine ldP_mk (by first | exact C0.at rfl | exact C0.at0 rfl | exact ce.at rfl | exact ce.at0 rfl) ?_ | refine ldS_mk (by first | exact C0.at rfl | exact C0.at0 rfl | exact ce.at rfl | exact ce.at0 rfl) ?_ | refine ldM_mk (by first | exact C0.at rfl | exact C0.at0 rfl | exact ce.at rfl | exact ce.at0 rfl) ?_)); exact rfl) ?_ | refine ifNS ?_ | refine And.intro (by decide) ?_)
    refine al_H H fun t15 h3 H l15 => ?_
    refine stN_H H 0 rfl (by rfl) (by rfl) fun h4 H => ?_
    simp only [List.set_cons_zero, List.set_cons_succ] at H
    have H4 : Hs h (fun _ => False) h4 [(t15, entV st.L[0], T_intrusionref22_Entry), (t6, f.vals, T_api_Flow)] := H
    have R4 := R.fr0 H.fr0
    have z4 := H.size
    have ht1 : st.L.take 1 = [st.L[0]] := by rw [show (1 : Nat) = 0 + 1 from rfl, ← List.take_append_getElem h0]; rfl
    refine LoopV.mk (fun s h' => ∃ (i : Nat) (e : FEn), s = (i : Int) ∧ 1 ≤ i ∧ i ≤ st.L.length ∧ Hs h (fun _ => False) h' [(t15, entV e, T_intrusionref22_Entry), (t6, f.vals, T_api_Flow)] ∧ e ∈ st.L.take i ∧ ∀ y ∈ st.L.take i, befE y e = false) (fun s _ => st.L.length - s.toNat)
      ⟨1, st.L[0], rfl, by omega, by omega, H4, by rw [ht1]; exact List.mem_singleton.2 rfl, fun y hy => ?_⟩ ?_
    · rw [ht1, List.mem_singleton] at hy
      subst hy
      exact befE_f (by omega)
    clear H H4 R4 ct ce
    rintro - h5 ⟨i, e, rfl, hi1, hi, H, he, hall⟩
    have R5 := R.fr0 H.fr0
    have ct := R5.own.cells
    unfold ref22_Table_Open_l1
    have C0 := (H.get 0 rfl).cells; have C1 := (H.get 1 rfl).cells; repeat (first | (first | refine ldI_mk (by first | exact C0.at rfl | exact C0.at0 rfl | exact C1.at rfl | exact C1.at0 rfl | exact ct.at rfl | exact ct.at0 rfl) ?_ | refine ldB_mk (by first | exact C0.at rfl | exact C0.at0 rfl | exact C1.at rfl | exact C1.at0 rfl | exact ct.at rfl | exact ct.at0 rfl) ?_ | refine ldL_mk (by first | exact C0.at rfl | exact C0.at0 rfl | exact C1.at rfl | exact C1.at0 rfl | exact ct.at rfl | exact ct.at0 rfl) ?_ | refine ldP_mk (by first | exact C0.at rfl | exact C0.at0 rfl | exact C1.at rfl | exact C1.at0 rfl | exact ct.at rfl | exact ct.at0 rfl) ?_ | refine ldS_mk (by first | exact C0.at rfl | exact C0.at0 rfl | exact C1.at rfl | exact C1.at0 rfl | exact ct.at rfl | exact ct.at0 rfl) ?_ | refine ldM_mk (by first | exact C0.at rfl | exact C0.at0 rfl | exact C1.at rfl | exact C1.at0 rfl | exact ct.at rfl | exact ct.at0 rfl) ?_) | refine nn_mk ?_ | refine And.intro (by (repeat (first | refine ldI_mk (by first | exact C0.at rfl | exact C0.at0 rfl | exact C1.at rfl | exact C1.at0 rfl | exact ct.at rfl | exact ct.at0 rfl) ?_ | refine ldB_mk (by first | exact C0.at rfl | exact C0.at0 rfl | exact C1.at rfl | exact C1.at0 rfl | exact ct.at rfl | exact ct.at0 rfl) ?_ | refine ldL_mk (by first | exact C0.at rfl | exact C0.at0 rfl | exact C1.at rfl | exact C1.at0 rfl | exact ct.at rfl | exact ct.at0 rfl) ?_ | refine ldP_mk (by first | exact C0.at rfl | exact C0.at0 rfl | exact C1.at rfl | exact C1.at0 rfl | exact ct.at rfl | exact ct.at0 rfl) ?_ | refine ldS_mk (by first | exact C0.at rfl | exact C0.at0 rfl | exact C1.at rfl | exact C1.at0 rfl | exact ct.at rfl | exact ct.at0 rfl) ?_ | refine ldM_mk (by first | exact C0.at rfl | exact C0.at0 rfl | exact C1.at rfl | exact C1.at0 rfl | exact ct.at rfl | exact ct.at0 rfl) ?_)); exact rfl) ?_ | refine ifNS ?_ | refine And.intro (by decide) ?_)
    refine ifD (fun e10 => ?_) fun e10 => ?_
    · have hlt : i < st.L.length := by omega
      have htk : st.L.take (i + 1) = st.L.take i ++ [st.L[i]] := by rw [List.take_append_getElem]
      have C0 := (H.get 0 rfl).cells; have C1 := (H.get 1 rfl).cells; repeat (first | (first | refine ldI_mk (by first | exact C0.at rfl | exact C0.at0 rfl | exact C1.at rfl | exact C1.at0 rfl | exact ct.at rfl | exact ct.at0 rfl) ?_ | refine ldB_mk (by first | exact C0.at rfl | exact C0.at0 rfl | exact C1.at rfl | exact C1.at0 rfl | exact ct.at rfl | exact ct.at0 rfl) ?_ | refine ldL_mk (by first | exact C0.at rfl | exact C0.at0 rfl | exact C1.at rfl | exact C1.at0 rfl | exact ct.at rfl | exact ct.at0 rfl) ?_ | refine ldP_mk (by first | exact C0.at rfl | exact C0.at0 rfl | exact C1.at rfl | exact C1.at0 rfl | exact ct.at rfl | exact ct.at0 rfl) ?_ | refine ldS_mk (by first | exact C0.at rfl | exact C0.at0 rfl | exact C1.at rfl | exact C1.at0 rfl | exact ct.at rfl | exact ct.at0 rfl) ?_ | refine ldM_mk (by first | exact C0.at rfl | exact C0.at0 rfl | exact C1.at rfl | exact C1.at0 rfl | exact ct.at rfl | exact ct.at0 rfl) ?_) | refine nn_mk ?_ | refine And.intro (by (repeat (first | refine ldI_mk (by first | exact C0.at rfl | exact C0.at0 rfl | exact C1.at rfl | exact C1.at0 rfl | exact ct.at rfl | exact ct.at0 rfl) ?_ | refine ldB_mk (by first | exact C0.at rfl | exact C0.at0 rfl | exact C1.at rfl | exact C1.at0 rfl | exact ct.at rfl | exact ct.at0 rfl) ?_ | refine ldL_mk (by first | exact C0.at rfl | exact C0.at0 rfl | exact C1.at rfl | exact C1.at0 rfl | exact ct.at rfl | exact ct.at0 rfl) ?_ | refine ldP_mk (by first | exact C0.at rfl | exact C0.at0 rfl | exact C1.at rfl | exact C1.at0 rfl | exact ct.at rfl | exact ct.at0 rfl) ?_ | refine ldS_mk (by first | exact C0.at rfl | exact C0.at0 rfl | exact C1.at rfl | exact C1.at0 rfl | exact ct.at rfl | exact ct.at0 rfl) ?_ | refine ldM_mk (by first | exact C0.at rfl | exact C0.at0 rfl | exact C1.at rfl | exact C1.at0 rfl | exact ct.at rfl | exact ct.at0 rfl) ?_)); exact rfl) ?_ | refine ifNS ?_ | refine And.intro (by decide) ?_)
      refine R5.row.idx entV_len (by omega) i rfl hlt fun ad ce => ?_
      rw [Int.toNat_natCast]
      have C0 := (H.get 0 rfl).cells; have C1 := (H.get 1 rfl).cells; repeat (first | (first | refine ldI_mk (by first | exact C0.at rfl | exact C0.at0 rfl | exact C1.at rfl | exact C1.at0 rfl | exact ce.at rfl | exact ce.at0 rfl) ?_ | refine ldB_mk (by first | exact C0.at rfl | exact C0.at0 rfl | exact C1.at rfl | exact C1.at0 rfl | exact ce.at rfl | exact ce.at0 rfl) ?_ | refine ldL_mk (by first | exact C0.at rfl | exact C0.at0 rfl | exact C1.at rfl | exact C1.at0 rfl | exact ce.at rfl | exact ce.at0 rfl) ?_ | refine ldP_mk (by first | exact C0.at rfl | exact C0.at0 rfl | exact C1.at rfl | exact C1.at0 rfl | exact ce.at rfl | exact ce.at0 rfl) ?_ | refine ldS_mk (by first | exact C0.at rfl | exact C0.at0 rfl | exact C1.at rfl | exact C1.at0 rfl | exact ce.at rfl | exact ce.at0 rfl) ?_ | refine ldM_mk (by first | exact C0.at rfl | exact C0.at0 rfl | exact C1.at rfl | exact C1.at0 rfl | exact ce.at rfl | exact ce.at0 rfl) ?_) | refine nn_mk ?_ | refine And.intro (by (repeat (first | refine ldI_mk (by first | exact C0.at rfl | exact C0.at0 rfl | exact C1.at rfl | exact C1.at0 rfl | exact ce.at rfl | exact ce.at0 rfl) ?_ | refine ldB_mk (by first | exact C0.at rfl | exact C0.at0 rfl | exact C1.at rfl | exact C1.at0 rfl | exact ce.at rfl | exact ce.at0 rfl) ?_ | refine ldL_mk (by first | exact C0.at rfl | exact C0.at0 rfl | exact C1.at rfl | exact C1.at0 rfl | exact ce.at rfl | exact ce.at0 rfl) ?_ | refine ldP_mk (by first | exact C0.at rfl | exact C0.at0 rfl | exact C1.at rfl | exact C1.at0 rfl | exact ce.at rfl | exact ce.at0 rfl) ?_ | refine ldS_mk (by first | exact C0.at rfl | exact C0.at0 rfl | exact C1.at rfl | exact C1.at0 rfl | exact ce.at rfl | exact ce.at0 rfl) ?_ | refine ldM_mk (by first | exact C0.at rfl | exact C0.at0 rfl | exact C1.at rfl | exact C1.at0 rfl | exact ce.at rfl | exact ce.at0 rfl) ?_)); exact rfl) ?_ | refine ifNS ?_ | refine And.intro (by decide) ?_)
      refine al_H H fun t17 h6 H l17 => ?_
      refine stN_H H 0 rfl (by rfl) (by rfl) fun h7 H => ?_
      simp only [List.set_cons_zero, List.set_cons_succ] at H
      have H7 : Hs h (fun _ => False) h7 [(t17, entV st.L[i], T_intrusionref22_Entry), (t15, entV e, T_intrusionref22_Entry), (t6, f.vals, T_api_Flow)] := H
      have keep : befE st.L[i] e = false → (∃ (k : Nat) (e : FEn), wrap .i64 ((i : Int) + 1) = (k : Int) ∧ 1 ≤ k ∧ k ≤ st.L.length ∧ Hs h (fun _ => False) h7 [(t15, entV e, T_intrusionref22_Entry), (t6, f.vals, T_api_Flow)] ∧ e ∈ st.L.take k ∧ ∀ y ∈ st.L.take k, befE y e = false) ∧ st.L.length - (wrap .i64 ((i : Int) + 1)).toNat < st.L.length - (i : Int).toNat := fun hb => by
        rw [wr (by omega) (by omega)]
        refine ⟨⟨i + 1, e, rfl, by omega, hlt, H7.tail, by rw [htk]; exact List.mem_append_left _ he, fun y hy => ?_⟩, by omega⟩
        rw [htk] at hy
        rcases List.mem_append.1 hy with hy | hy
        · exact hall y hy
        · rw [List.mem_singleton.1 hy]; exact hb
      have move : (∀ y ∈ st.L.take i, befE y st.L[i] = false) → ref22_Table_Open_b4 (some x) at_ v t6 t15 (i : Int) t17 Q (fun s' h' => (∃ (k : Nat) (e : FEn), s' = (k : Int) ∧ 1 ≤ k ∧ k ≤ st.L.length ∧ Hs h (fun _ => False) h' [(t15, entV e, T_intrusionref22_Entry), (t6, f.vals, T_api_Flow)] ∧ e ∈ st.L.take k ∧ ∀ y ∈ st.L.take k, befE y e = false) ∧ st.L.length - s'.toNat < st.L.length - (i : Int).toNat) h7 := fun hb => by
        unfold ref22_Table_Open_b4
        have C0 := (H7.get 0 rfl).cells; have C1 := (H7.get 1 rfl).cells; have C2 := (H7.get 2 rfl).cells; repeat (first | (first | refine ldI_mk (by first | exact C0.at rfl | exact C0.at0 rfl | exact C1.at rfl | exact C1.at0 rfl | exact C2.at rfl | exact C2.at0 rfl) ?_ | refine ldB_mk (by first | exact C0.at rfl | exact C0.at0 rfl | exact C1.at rfl | exact C1.at0 rfl | exact C2.at rfl | exact C2.at0 rfl) ?_ | refine ldL_mk (by first | exact C0.at rfl | exact C0.at0 rfl | exact C1.at rfl | exact C1.at0 rfl | exact C2.at rfl | exact C2.at0 rfl) ?_ | refine ldP_mk (by first | exact C0.at rfl | exact C0.at0 rfl | exact C1.at rfl | exact C1.at0 rfl | exact C2.at rfl | exact C2.at0 rfl) ?_ | refine ldS_mk (by first | exact C0.at rfl | exact C0.at0 rfl | exact C1.at rfl | exact C1.at0 rfl | exact C2.at rfl | exact C2.at0 rfl) ?_ | refine ldM_mk (by first | exact C0.at rfl | exact C0.at0 rfl | exact C1.at rfl | exact C1.at0 rfl | exact C2.at rfl | exact C2.at0 rfl) ?_) | refine nn_mk ?_ | refine And.intro (by (repeat (first | refine ldI_mk (by first | exact C0.at rfl | exact C0.at0 rfl | exact C1.at rfl | exact C1.at0 rfl | exact C2.at rfl | exact C2.at0 rfl) ?_ | refine ldB_mk (by first | exact C0.at rfl | exact C0.at0 rfl | exact C1.at rfl | exact C1.at0 rfl | exact C2.at rfl | exact C2.at0 rfl) ?_ | refine ldL_mk (by first | exact C0.at rfl | exact C0.at0 rfl | exact C1.at rfl | exact C1.at0 rfl | exact C2.at rfl | exact C2.at0 rfl) ?_ | refine ldP_mk (by first | exact C0.at rfl | exact C0.at0 rfl | exact C1.at rfl | exact C1.at0 rfl | exact C2.at rfl | exact C2.at0 rfl) ?_ | refine ldS_mk (by first | exact C0.at rfl | exact C0.at0 rfl | exact C1.at rfl | exact C1.at0 rfl | exact C2.at rfl | exact C2.at0 rfl) ?_ | refine ldM_mk (by first | exact C0.at rfl | exact C0.at0 rfl | exact C1.at rfl | exact C1.at0 rfl | exact C2.at rfl | exact C2.at0 rfl) ?_)); exact rfl) ?_ | refine ifNS ?_ | refine And.intro (by decide) ?_)
        refine stN_H H7 1 rfl (by rfl) (by rfl) fun h8 H8 => ?_
        simp only [List.set_cons_zero, List.set_cons_succ] at H8
        rw [wr (by omega) (by omega)]
        refine ⟨⟨i + 1, st.L[i], rfl, by omega, hlt, H8.tail, by rw [htk]; exact List.mem_append_right _ (List.mem_singleton.2 rfl), fun y hy => ?_⟩, by omega⟩
        rw [htk] at hy
        rcases List.mem_append.1 hy with hy | hy
        · exact hb y hy
        · rw [List.mem_singleton.1 hy]; exact befE_f (by omega)
      have lt_id : ∀ y ∈ st.L.take i, y.id < st.L[i].id := fun y hy => by
        have := w.asc
        rw [← List.take_append_drop i st.L, List.drop_eq_getElem_cons hlt, List.map_append, List.map_cons, List.pairwise_append] at this
        exact this.2.2 y.id (List.mem_map_of_mem hy) st.L[i].id (by simp)
      have hbt : ∀ y ∈ st.L.take i, ¬ (y.value < e.value ∨ y.value = e.value ∧ (y.last < e.last ∨ y.last = e.last ∧ y.id < e.id)) := fun y hy => of_decide_eq_false (hall y hy)
      clear H
      have C0 := (H7.get 0 rfl).cells; have C1 := (H7.get 1 rfl).cells; have C2 := (H7.get 2 rfl).cells; repeat (first | (first | refine ldI_mk (by first | exact C0.at rfl | exact C0.at0 rfl | exact C1.at rfl | exact C1.at0 rfl | exact C2.at rfl | exact C2.at0 rfl) ?_ | refine ldB_mk (by first | exact C0.at rfl | exact C0.at0 rfl | exact C1.at rfl | exact C1.at0 rfl | exact C2.at rfl | exact C2.at0 rfl) ?_ | refine ldL_mk (by first | exact C0.at rfl | exact C0.at0 rfl | exact C1.at rfl | exact C1.at0 rfl | exact C2.at rfl | exact C2.at0 rfl) ?_ | refine ldP_mk (by first | exact C0.at rfl | exact C0.at0 rfl | exact C1.at rfl | exact C1.at0 rfl | exact C2.at rfl | exact C2.at0 rfl) ?_ | refine ldS_mk (by first | exact C0.at rfl | exact C0.at0 rfl | exact C1.at rfl | exact C1.at0 rfl | exact C2.at rfl | exact C2.at0 rfl) ?_ | refine ldM_mk (by first | exact C0.at rfl | exact C0.at0 rfl | exact C1.at rfl | exact C1.at0 rfl | exact C2.at rfl | exact C2.at0 rfl) ?_) | refine nn_mk ?_ | refine And.intro (by (repeat (first | refine ldI_mk (by first | exact C0.at rfl | exact C0.at0 rfl | exact C1.at rfl | exact C1.at0 rfl | exact C2.at rfl | exact C2.at0 rfl) ?_ | refine ldB_mk (by first | exact C0.at rfl | exact C0.at0 rfl | exact C1.at rfl | exact C1.at0 rfl | exact C2.at rfl | exact C2.at0 rfl) ?_ | refine ldL_mk (by first | exact C0.at rfl | exact C0.at0 rfl | exact C1.at rfl | exact C1.at0 rfl | exact C2.at rfl | exact C2.at0 rfl) ?_ | refine ldP_mk (by first | exact C0.at rfl | exact C0.at0 rfl | exact C1.at rfl | exact C1.at0 rfl | exact C2.at rfl | exact C2.at0 rfl) ?_ | refine ldS_mk (by first | exact C0.at rfl | exact C0.at0 rfl | exact C1.at rfl | exact C1.at0 rfl | exact C2.at rfl | exact C2.at0 rfl) ?_ | refine ldM_mk (by first | exact C0.at rfl | exact C0.at0 rfl | exact C1.at rfl | exact C1.at0 rfl | exact C2.at rfl | exact C2.at0 rfl) ?_)); exact rfl) ?_ | refine ifNS ?_ | refine And.intro (by decide) ?_)
      refine ifD (fun c1 => move fun y hy => befE_f (by have := hbt y hy; omega)) fun c1 => ?_
      have c1 : ¬ st.L[i].value < e.value := c1
      have C0 := (H7.get 0 rfl).cells; have C1 := (H7.get 1 rfl).cells; have C2 := (H7.get 2 rfl).cells; repeat (first | (first | refine ldI_mk (by first | exact C0.at rfl | exact C0.at0 rfl | exact C1.at rfl | exact C1.at0 rfl | exact C2.at rfl | exact C2.at0 rfl) ?_ | refine ldB_mk (by first | exact C0.at rfl | exact C0.at0 rfl | exact C1.at rfl | exact C1.at0 rfl | exact C2.at rfl | exact C2.at0 rfl) ?_ | refine ldL_mk (by first | exact C0.at rfl | exact C0.at0 rfl | exact C1.at rfl | exact C1.at0 rfl | exact C2.at rfl | exact C2.at0 rfl) ?_ | refine ldP_mk (by first | exact C0.at rfl | exact C0.at0 rfl | exact C1.at rfl | exact C1.at0 rfl | exact C2.at rfl | exact C2.at0 rfl) ?_ | refine ldS_mk (by first | exact C0.at rfl | exact C0.at0 rfl | exact C1.at rfl | exact C1.at0 rfl | exact C2.at rfl | exact C2.at0 rfl) ?_ | refine ldM_mk (by first | exact C0.at rfl | exact C0.at0 rfl | exact C1.at rfl | exact C1.at0 rfl | exact C2.at rfl | exact C2.at0 rfl) ?_) | refine nn_mk ?_ | refine And.intro (by (repeat (first | refine ldI_mk (by first | exact C0.at rfl | exact C0.at0 rfl | exact C1.at rfl | exact C1.at0 rfl | exact C2.at rfl | exact C2.at0 rfl) ?_ | refine ldB_mk (by first | exact C0.at rfl | exact C0.at0 rfl | exact C1.at rfl | exact C1.at0 rfl | exact C2.at rfl | exact C2.at0 rfl) ?_ | refine ldL_mk (by first | exact C0.at rfl | exact C0.at0 rfl | exact C1.at rfl | exact C1.at0 rfl | exact C2.at rfl | exact C2.at0 rfl) ?_ | refine ldP_mk (by first | exact C0.at rfl | exact C0.at0 rfl | exact C1.at rfl | exact C1.at0 rfl | exact C2.at rfl | exact C2.at0 rfl) ?_ | refine ldS_mk (by first | exact C0.at rfl | exact C0.at0 rfl | exact C1.at rfl | exact C1.at0 rfl | exact C2.at rfl | exact C2.at0 rfl) ?_ | refine ldM_mk (by first | exact C0.at rfl | exact C0.at0 rfl | exact C1.at rfl | exact C1.at0 rfl | exact C2.at rfl | exact C2.at0 rfl) ?_)); exact rfl) ?_ | refine ifNS ?_ | refine And.intro (by decide) ?_)
      have idle : ¬ st.L[i].value < e.value → ¬ (st.L[i].value = e.value ∧ st.L[i].last < e.last) → befE st.L[i] e = false := fun d1 d2 => by
        refine befE_f fun h => ?_
        have he' := lt_id e he
        omega
      refine ifE (fun c2 => ?_) fun c2 => keep (idle c1 fun h => c2 h.1)
      have c2 : st.L[i].value = e.value := c2
      have C0 := (H7.get 0 rfl).cells; have C1 := (H7.get 1 rfl).cells; have C2 := (H7.get 2 rfl).cells; repeat (first | (first | refine ldI_mk (by first | exact C0.at rfl | exact C0.at0 rfl | exact C1.at rfl | exact C1.at0 rfl | exact C2.at rfl | exact C2.at0 rfl) ?_ | refine ldB_mk (by first | exact C0.at rfl | exact C0.at0 rfl | exact C1.at rfl | exact C1.at0 rfl | exact C2.at rfl | exact C2.at0 rfl) ?_ | refine ldL_mk (by first | exact C0.at rfl | exact C0.at0 rfl | exact C1.at rfl | exact C1.at0 rfl | exact C2.at rfl | exact C2.at0 rfl) ?_ | refine ldP_mk (by first | exact C0.at rfl | exact C0.at0 rfl | exact C1.at rfl | exact C1.at0 rfl | exact C2.at rfl | exact C2.at0 rfl) ?_ | refine ldS_mk (by first | exact C0.at rfl | exact C0.at0 rfl | exact C1.at rfl | exact C1.at0 rfl | exact C2.at rfl | exact C2.at0 rfl) ?_ | refine ldM_mk (by first | exact C0.at rfl | exact C0.at0 rfl | exact C1.at rfl | exact C1.at0 rfl | exact C2.at rfl | exact C2.at0 rfl) ?_) | refine nn_mk ?_ | refine And.intro (by (repeat (first | refine ldI_mk (by first | exact C0.at rfl | exact C0.at0 rfl | exact C1.at rfl | exact C1.at0 rfl | exact C2.at rfl | exact C2.at0 rfl) ?_ | refine ldB_mk (by first | exact C0.at rfl | exact C0.at0 rfl | exact C1.at rfl | exact C1.at0 rfl | exact C2.at rfl | exact C2.at0 rfl) ?_ | refine ldL_mk (by first | exact C0.at rfl | exact C0.at0 rfl | exact C1.at rfl | exact C1.at0 rfl | exact C2.at rfl | exact C2.at0 rfl) ?_ | refine ldP_mk (by first | exact C0.at rfl | exact C0.at0 rfl | exact C1.at rfl | exact C1.at0 rfl | exact C2.at rfl | exact C2.at0 rfl) ?_ | refine ldS_mk (by first | exact C0.at rfl | exact C0.at0 rfl | exact C1.at rfl | exact C1.at0 rfl | exact C2.at rfl | exact C2.at0 rfl) ?_ | refine ldM_mk (by first | exact C0.at rfl | exact C0.at0 rfl | exact C1.at rfl | exact C1.at0 rfl | exact C2.at rfl | exact C2.at0 rfl) ?_)); exact rfl) ?_ | refine ifNS ?_ | refine And.intro (by decide) ?_)
      refine ifD (fun c3 => move fun y hy => befE_f (by have c3 : st.L[i].last < e.last := c3; have := hbt y hy; omega)) fun c3 => keep (idle c1 fun h => c3 h.2)
    · rw [List.take_of_length_le (by omega)] at hall he
      have hls : IsLeast st.L e := ⟨he, hall⟩
      unfold ref22_Table_Open_b2
      have C0 := (H.get 0 rfl).cells; have C1 := (H.get 1 rfl).cells; repeat (first | (first | refine ldI_mk (by first | exact C0.at rfl | exact C0.at0 rfl | exact C1.at rfl | exact C1.at0 rfl | exact ct.at rfl | exact ct.at0 rfl) ?_ | refine ldB_mk (by first | exact C0.at rfl | exact C0.at0 rfl | exact C1.at rfl | exact C1.at0 rfl | exact ct.at rfl | exact ct.at0 rfl) ?_ | refine ldL_mk (by first | exact C0.at rfl | exact C0.at0 rfl | exact C1.at rfl | exact C1.at0 rfl | exact ct.at rfl | exact ct.at0 rfl) ?_ | refine ldP_mk (by first | exact C0.at rfl | exact C0.at0 rfl | exact C1.at rfl | exact C1.at0 rfl | exact ct.at rfl | exact ct.at0 rfl) ?_ | refine ldS_mk (by first | exact C0.at rfl | exact C0.at0 rfl | exact C1.at rfl | exact C1.at0 rfl | exact ct.at rfl | exact ct.at0 rfl) ?_ | refine ldM_mk (by first | exact C0.at rfl | exact C0.at0 rfl | exact C1.at rfl | exact C1.at0 rfl | exact ct.at rfl | exact ct.at0 rfl) ?_) | refine nn_mk ?_ | refine And.intro (by (repeat (first | refine ldI_mk (by first | exact C0.at rfl | exact C0.at0 rfl | exact C1.at rfl | exact C1.at0 rfl | exact ct.at rfl | exact ct.at0 rfl) ?_ | refine ldB_mk (by first | exact C0.at rfl | exact C0.at0 rfl | exact C1.at rfl | exact C1.at0 rfl | exact ct.at rfl | exact ct.at0 rfl) ?_ | refine ldL_mk (by first | exact C0.at rfl | exact C0.at0 rfl | exact C1.at rfl | exact C1.at0 rfl | exact ct.at rfl | exact ct.at0 rfl) ?_ | refine ldP_mk (by first | exact C0.at rfl | exact C0.at0 rfl | exact C1.at rfl | exact C1.at0 rfl | exact ct.at rfl | exact ct.at0 rfl) ?_ | refine ldS_mk (by first | exact C0.at rfl | exact C0.at0 rfl | exact C1.at rfl | exact C1.at0 rfl | exact ct.at rfl | exact ct.at0 rfl) ?_ | refine ldM_mk (by first | exact C0.at rfl | exact C0.at0 rfl | exact C1.at rfl | exact C1.at0 rfl | exact ct.at rfl | exact ct.at0 rfl) ?_)); exact rfl) ?_ | refine ifNS ?_ | refine And.intro (by decide) ?_)
      refine ifD (fun c1 => hk _ _ _ _ h5 p cap (.full e e0 hb ef e9 hls c1) (lift H.fr0) R5) fun c1 => ?_
      have C0 := (H.get 0 rfl).cells; have C1 := (H.get 1 rfl).cells; repeat (first | (first | refine ldI_mk (by first | exact C0.at rfl | exact C0.at0 rfl | exact C1.at rfl | exact C1.at0 rfl | exact ct.at rfl | exact ct.at0 rfl) ?_ | refine ldB_mk (by first | exact C0.at rfl | exact C0.at0 rfl | exact C1.at rfl | exact C1.at0 rfl | exact ct.at rfl | exact ct.at0 rfl) ?_ | refine ldL_mk (by first | exact C0.at rfl | exact C0.at0 rfl | exact C1.at rfl | exact C1.at0 rfl | exact ct.at rfl | exact ct.at0 rfl) ?_ | refine ldP_mk (by first | exact C0.at rfl | exact C0.at0 rfl | exact C1.at rfl | exact C1.at0 rfl | exact ct.at rfl | exact ct.at0 rfl) ?_ | refine ldS_mk (by first | exact C0.at rfl | exact C0.at0 rfl | exact C1.at rfl | exact C1.at0 rfl | exact ct.at rfl | exact ct.at0 rfl) ?_ | refine ldM_mk (by first | exact C0.at rfl | exact C0.at0 rfl | exact C1.at rfl | exact C1.at0 rfl | exact ct.at rfl | exact ct.at0 rfl) ?_) | refine nn_mk ?_ | refine And.intro (by (repeat (first | refine ldI_mk (by first | exact C0.at rfl | exact C0.at0 rfl | exact C1.at rfl | exact C1.at0 rfl | exact ct.at rfl | exact ct.at0 rfl) ?_ | refine ldB_mk (by first | exact C0.at rfl | exact C0.at0 rfl | exact C1.at rfl | exact C1.at0 rfl | exact ct.at rfl | exact ct.at0 rfl) ?_ | refine ldL_mk (by first | exact C0.at rfl | exact C0.at0 rfl | exact C1.at rfl | exact C1.at0 rfl | exact ct.at rfl | exact ct.at0 rfl) ?_ | refine ldP_mk (by first | exact C0.at rfl | exact C0.at0 rfl | exact C1.at rfl | exact C1.at0 rfl | exact ct.at rfl | exact ct.at0 rfl) ?_ | refine ldS_mk (by first | exact C0.at rfl | exact C0.at0 rfl | exact C1.at rfl | exact C1.at0 rfl | exact ct.at rfl | exact ct.at0 rfl) ?_ | refine ldM_mk (by first | exact C0.at rfl | exact C0.at0 rfl | exact C1.at rfl | exact C1.at0 rfl | exact ct.at rfl | exact ct.at0 rfl) ?_)); exact rfl) ?_ | refine ifNS ?_ | refine And.intro (by decide) ?_)
      have z5 := H.size
      refine without_c R5 (fun b hb => hok b (by omega)) hl e.id fun h6 p6 c6 f6 st6 e6 R6 _ => ⟨_, rfl, ?_⟩
      have z6 := f6.size
      have o6 := (H.get 1 rfl).fr f6 (by omega)
      have hwl : (without st.L e.id).length ≤ 64 := Nat.le_trans (List.length_filter_le ..) hl
      refine rOpen_b3 e6 R6 hwl (fun b hb => hok b (by omega)) w.used o6 (by omega) at_ v e.id fun h7 p7 c7 f7 R7 => ?_
      exact hk _ _ _ _ h7 p7 c7 (.evict e e0 hb ef e9 hls c1) (((lift H.fr0).trans (f6.mono fun b hb => hb ▸ R.okx)).trans f7) R7
  · refine rOpen_b3 (M := st.L) rfl R2 hl (fun b hb => hok b (by omega)) w.used (H.get 0 rfl) (by omega) at_ v 0 fun h7 p7 c7 f7 R7 => ?_
    exact hk _ _ _ _ h7 p7 c7 (.add e0 hb ef e9) ((lift H.fr0).trans f7) R7
end Go.Proofs.Ytbmifkjdjekenaa
