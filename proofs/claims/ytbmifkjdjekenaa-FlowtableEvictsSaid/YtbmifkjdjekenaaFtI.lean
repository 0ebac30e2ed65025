/-
  The reference's table: Touch, Remove, Key, Ids, Expire, Open.
-/
import Derived.Test.YtbmifkjdjekenaaFtH
namespace Go.Proofs.Ytbmifkjdjekenaa
set_option linter.unusedSimpArgs false
set_option linter.unusedVariables false
set_option maxRecDepth 20000
open Go
open Go.IntKind (wrap)
attribute [local irreducible] Addr.add stN st1 idxA idxS alV sliceStr LoopV
theorem touch_set {L : List FEn} (nd : (L.map (·.id)).Nodup) {i : Nat} (hi : i < L.length) (at_ : Int) : touchL L L[i].id at_ = L.set i { L[i] with last := at_ } := by
  unfold touchL
  apply List.ext_getElem?
  intro j
  rw [List.getElem?_map, List.getElem?_set]
  by_cases hj : j < L.length
  · rw [List.getElem?_eq_getElem hj]
    by_cases hij : i = j
    · subst hij; simp [hi]
    · rw [if_neg hij]
      have : L[j].id ≠ L[i].id := fun h => hij ((List.getElem_inj (h₀ := by simpa using hi) (h₁ := by simpa using hj) nd).1 (by simp only [List.getElem_map]; exact h.symm))
      simp [this]
  · rw [List.getElem?_eq_none (by omega)]
    have : ¬ i = j := by omega
    rw [if_neg this]; rfl
theorem rTouch_c [Gh] {ok : Nat → Prop} {h : Heap} {x : Addr} {st : St} {p : Option Addr} {cap : Nat} (R : RefF ok h x st p cap) (w : Wf st) (at_ id : Int) {Q : Value → Heap → Prop}
    (hk : ∀ h', Fr ok h h' → RefF ok h' x (touchS st at_ id).2 p cap → Q (.int .i64 (touchS st at_ id).1) h') :
    CallT Try.prog fn_ref22_Table_Touch #[.pointer (some x), .int .i64 at_, .int .i64 id] h Q := by
  apply ref22_Table_Touch_s
  unfold ref22_Table_Touch_v
  unfold touchS at hk
  have hl := w.len64
  refine wrong_c R at_ ⟨_, rfl, ?_⟩
  refine ifB (fun e => ?_) fun e => ?_
  · rw [if_pos e] at hk; exact hk h (Fr.refl _ _) R
  rw [if_neg (by simp [e])] at hk
  refine LoopV.mk (fun s h' => ∃ (i : Nat), s = (i : Int) ∧ i ≤ st.L.length ∧ h' = h ∧ ∀ j (hj : j < st.L.length), j < i → st.L[j].id ≠ id) (fun s _ => st.L.length - s.toNat) ⟨0, rfl, by omega, rfl, fun j _ h => absurd h (by omega)⟩ ?_
  rintro j h2 ⟨i, rfl, hi, hh, hn⟩
  subst h2
  unfold ref22_Table_Touch_l1
  have ct := R.own.cells
  repeat (first | (first | refine ldI_mk (by first | exact ct.at rfl | exact ct.at0 rfl) ?_ | refine ldB_mk (by first | exact ct.at rfl | exact ct.at0 rfl) ?_ | refine ldL_mk (by first | exact ct.at rfl | exact ct.at0 rfl) ?_ | refine ldP_mk (by first | exact ct.at rfl | exact ct.at0 rfl) ?_ | refine ldS_mk (by first | exact ct.at rfl | exact ct.at0 rfl) ?_ | refine ldM_mk (by first | exact ct.at rfl | exact ct.at0 rfl) ?_) | refine nn_mk ?_ | refine And.intro (by (repeat (first | refine ldI_mk (by first | exact ct.at rfl | exact ct.at0 rfl) ?_ | refine ldB_mk (by first | exact ct.at rfl | exact ct.at0 rfl) ?_ | refine ldL_mk (by first | exact ct.at rfl | exact ct.at0 rfl) ?_ | refine ldP_mk (by first | exact ct.at rfl | exact ct.at0 rfl) ?_ | refine ldS_mk (by first | exact ct.at rfl | exact ct.at0 rfl) ?_ | refine ldM_mk (by first | exact ct.at rfl | exact ct.at0 rfl) ?_)); exact rfl) ?_ | refine ifNS ?_ | refine And.intro (by decide) ?_)
  refine ifD (fun e => ?_) fun e => ?_
  · have hlt : i < st.L.length := by omega
    repeat (first | (first | refine ldI_mk (by first | exact ct.at rfl | exact ct.at0 rfl) ?_ | refine ldB_mk (by first | exact ct.at rfl | exact ct.at0 rfl) ?_ | refine ldL_mk (by first | exact ct.at rfl | exact ct.at0 rfl) ?_ | refine ldP_mk (by first | exact ct.at rfl | exact ct.at0 rfl) ?_ | refine ldS_mk (by first | exact ct.at rfl | exact ct.at0 rfl) ?_ | refine ldM_mk (by first | exact ct.at rfl | exact ct.at0 rfl) ?_) | refine nn_mk ?_ | refine And.intro (by (repeat (first | refine ldI_mk (by first | exact ct.at rfl | exact ct.at0 rfl) ?_ | refine ldB_mk (by first | exact ct.at rfl | exact ct.at0 rfl) ?_ | refine ldL_mk (by first | exact ct.at rfl | exact ct.at0 rfl) ?_ | refine ldP_mk (by first | exact ct.at rfl | exact ct.at0 rfl) ?_ | refine ldS_mk (by first | exact ct.at rfl | exact ct.at0 rfl) ?_ | refine ldM_mk (by first | exact ct.at rfl | exact ct.at0 rfl) ?_)); exact rfl) ?_ | refine ifNS ?_ | refine And.intro (by decide) ?_)
    refine R.row.idx entV_len (by omega) i rfl hlt fun ad ce => ?_
    rw [Int.toNat_natCast]
    refine ldI_mk (ce.at0 rfl) ?_
    refine ifE (fun e2 => ?_) fun e2 => ?_
    · repeat (first | (first | refine ldI_mk (by first | exact ct.at rfl | exact ct.at0 rfl) ?_ | refine ldB_mk (by first | exact ct.at rfl | exact ct.at0 rfl) ?_ | refine ldL_mk (by first | exact ct.at rfl | exact ct.at0 rfl) ?_ | refine ldP_mk (by first | exact ct.at rfl | exact ct.at0 rfl) ?_ | refine ldS_mk (by first | exact ct.at rfl | exact ct.at0 rfl) ?_ | refine ldM_mk (by first | exact ct.at rfl | exact ct.at0 rfl) ?_) | refine nn_mk ?_ | refine And.intro (by (repeat (first | refine ldI_mk (by first | exact ct.at rfl | exact ct.at0 rfl) ?_ | refine ldB_mk (by first | exact ct.at rfl | exact ct.at0 rfl) ?_ | refine ldL_mk (by first | exact ct.at rfl | exact ct.at0 rfl) ?_ | refine ldP_mk (by first | exact ct.at rfl | exact ct.at0 rfl) ?_ | refine ldS_mk (by first | exact ct.at rfl | exact ct.at0 rfl) ?_ | refine ldM_mk (by first | exact ct.at rfl | exact ct.at0 rfl) ?_)); exact rfl) ?_ | refine ifNS ?_ | refine And.intro (by decide) ?_)
      refine idxA_mk i rfl hlt ?_
      obtain ⟨ad, hp, _⟩ := R.row.cellsAt entV_len (by omega) i hlt
      rw [hp]
      refine nn_mk ?_
      rw [if_pos (by rw [hasId_iff]; exact ⟨_, List.getElem_mem hlt, e2⟩)] at hk
      have e3 := touch_set w.nd hlt at_
      rw [e2] at e3
      refine R.row.set1 entV_len i hlt hp (j := 2) (by omega) rfl (e' := { st.L[i] with last := at_ }) rfl fun h1 f1 R1 => ?_
      have hx : ∀ b, InA p b → b ≠ x.block := fun b hb => (R.pb b hb).1
      have o1 := R.own.fr f1 fun h => hx _ h rfl
      refine nn_mk (st1_own o1 2 (by simp) rfl fun h2 f2 s2 o2 => ?_)
      refine hk h2 ((f1.mono fun b hb => (R.pb b hb).2).trans (f2.mono fun b hb => hb ▸ R.okx)) ⟨?_, ?_, R.pb, R.okx⟩
      · have : (touchL st.L id at_).length = st.L.length := by unfold touchL; rw [List.length_map]
        simp only [this]
        exact o2
      · show Row 12 entV h2 p cap (touchL st.L id at_)
        rw [e3]
        exact R1.fr f2 hx
    · rw [wr (by omega) (by omega)]
      refine ⟨⟨i + 1, rfl, hlt, rfl, fun j hj hji => ?_⟩, by omega⟩
      by_cases h : j = i
      · subst h; exact e2
      · exact hn j hj (by omega)
  · rw [if_neg (by rw [hasId_iff]; rintro ⟨d, hd, he⟩; obtain ⟨j, hj, rfl⟩ := List.getElem_of_mem hd; exact hn j hj (by omega) he)] at hk
    exact hk h (Fr.refl _ _) R
theorem without_none {L : List FEn} {id : Int} : hasId L id = decide ((without L id).length < L.length) := by
  rw [Bool.eq_iff_iff, hasId_iff, decide_eq_true_eq]
  unfold without
  rw [List.length_filter_lt_length_iff_exists]
  simp
theorem without_id {L : List FEn} {id : Int} (h : hasId L id = false) : without L id = L := by
  unfold without
  rw [List.filter_eq_self]
  intro e he
  refine decide_eq_true fun hi => ?_
  have := hasId_iff.2 ⟨e, he, hi⟩
  rw [h] at this; cases this
theorem rRemove_c [Gh] {ok : Nat → Prop} {h : Heap} {x : Addr} {st : St} {p : Option Addr} {cap : Nat} (R : RefF ok h x st p cap) (hok : ∀ b, h.size ≤ b → ok b) (w : Wf st) (id : Int) {Q : Value → Heap → Prop}
    (hk : ∀ h' p' cap', Fr ok h h' → RefF ok h' x (removeS st id).2 p' cap' → Q (.int .i64 (removeS st id).1) h') :
    CallT Try.prog fn_ref22_Table_Remove #[.pointer (some x), .int .i64 id] h Q := by
  apply ref22_Table_Remove_s
  unfold ref22_Table_Remove_v
  unfold removeS at hk
  refine without_c R hok w.len64 id fun h1 p1 c1 f1 st2 e2 R1 _ => ⟨_, rfl, ?_⟩
  subst e2
  rw [← without_none]
  have f1 : Fr ok h h1 := f1.mono fun b hb => hb ▸ R.okx
  refine ifB (fun e => ?_) fun e => ?_
  · rw [if_pos e] at hk; exact hk h1 p1 c1 f1 R1
  · rw [if_neg (by simp [e])] at hk
    rw [without_id e] at R1
    exact hk h1 p1 c1 f1 R1
theorem rKey_c [Gh] {ok : Nat → Prop} {h : Heap} {x : Addr} {st : St} {p : Option Addr} {cap : Nat} (R : RefF ok h x st p cap) (w : Wf st) (id : Int) {Q : Value → Heap → Prop}
    (hk : ∀ h', Fr (fun _ => False) h h' → Q (.tuple #[.agg (keyS st.L id).1.vals.toArray, .bool (keyS st.L id).2]) h') :
    CallT Try.prog fn_ref22_Table_Key #[.pointer (some x), .int .i64 id] h Q := by
  apply ref22_Table_Key_s
  unfold ref22_Table_Key_v
  have hl := w.len64
  refine al_H (Hs.pure h) fun t4 h1 H l4 => ?_
  have R1 := R.fr0 H.fr0
  have ct := R1.own.cells
  refine LoopV.mk (fun s h' => ∃ (i : Nat), s = (i : Int) ∧ i ≤ st.L.length ∧ h' = h1 ∧ ∀ j (hj : j < st.L.length), j < i → st.L[j].id ≠ id) (fun s _ => st.L.length - s.toNat) ⟨0, rfl, by omega, rfl, fun j _ h => absurd h (by omega)⟩ ?_
  rintro j h2 ⟨i, rfl, hi, hh, hn⟩
  subst h2
  unfold ref22_Table_Key_l1
  have C0 := (H.get 0 rfl).cells; repeat (first | (first | refine ldI_mk (by first | exact C0.at rfl | exact C0.at0 rfl | exact ct.at rfl | exact ct.at0 rfl) ?_ | refine ldB_mk (by first | exact C0.at rfl | exact C0.at0 rfl | exact ct.at rfl | exact ct.at0 rfl) ?_ | refine ldL_mk (by first | exact C0.at rfl | exact C0.at0 rfl | exact ct.at rfl | exact ct.at0 rfl) ?_ | refine ldP_mk (by first | exact C0.at rfl | exact C0.at0 rfl | exact ct.at rfl | exact ct.at0 rfl) ?_ | refine ldS_mk (by first | exact C0.at rfl | exact C0.at0 rfl | exact ct.at rfl | exact ct.at0 rfl) ?_ | refine ldM_mk (by first | exact C0.at rfl | exact C0.at0 rfl | exact ct.at rfl | exact ct.at0 rfl) ?_) | refine nn_mk ?_ | refine And.intro (by (repeat (first | refine ldI_mk (by first | exact C0.at rfl | exact C0.at0 rfl | exact ct.at rfl | exact ct.at0 rfl) ?_ | refine ldB_mk (by first | exact C0.at rfl | exact C0.at0 rfl | exact ct.at rfl | exact ct.at0 rfl) ?_ | refine ldL_mk (by first | exact C0.at rfl | exact C0.at0 rfl | exact ct.at rfl | exact ct.at0 rfl) ?_ | refine ldP_mk (by first | exact C0.at rfl | exact C0.at0 rfl | exact ct.at rfl | exact ct.at0 rfl) ?_ | refine ldS_mk (by first | exact C0.at rfl | exact C0.at0 rfl | exact ct.at rfl | exact ct.at0 rfl) ?_ | refine ldM_mk (by first | exact C0.at rfl | exact C0.at0 rfl | exact ct.at rfl | exact ct.at0 rfl) ?_)); exact rfl) ?_ | refine ifNS ?_ | refine And.intro (by decide) ?_)
  refine ifD (fun e => ?_) fun e => ?_
  · have hlt : i < st.L.length := by omega
    have C0 := (H.get 0 rfl).cells; repeat (first | (first | refine ldI_mk (by first | exact C0.at rfl | exact C0.at0 rfl | exact ct.at rfl | exact ct.at0 rfl) ?_ | refine ldB_mk (by first | exact C0.at rfl | exact C0.at0 rfl | exact ct.at rfl | exact ct.at0 rfl) ?_ | refine ldL_mk (by first | exact C0.at rfl | exact C0.at0 rfl | exact ct.at rfl | exact ct.at0 rfl) ?_ | refine ldP_mk (by first | exact C0.at rfl | exact C0.at0 rfl | exact ct.at rfl | exact ct.at0 rfl) ?_ | refine ldS_mk (by first | exact C0.at rfl | exact C0.at0 rfl | exact ct.at rfl | exact ct.at0 rfl) ?_ | refine ldM_mk (by first | exact C0.at rfl | exact C0.at0 rfl | exact ct.at rfl | exact ct.at0 rfl) ?_) | refine nn_mk ?_ | refine And.intro (by (repeat (first | refine ldI_mk (by first | exact C0.at rfl | exact C0.at0 rfl | exact ct.at rfl | exact ct.at0 rfl) ?_ | refine ldB_mk (by first | exact C0.at rfl | exact C0.at0 rfl | exact ct.at rfl | exact ct.at0 rfl) ?_ | refine ldL_mk (by first | exact C0.at rfl | exact C0.at0 rfl | exact ct.at rfl | exact ct.at0 rfl) ?_ | refine ldP_mk (by first | exact C0.at rfl | exact C0.at0 rfl | exact ct.at rfl | exact ct.at0 rfl) ?_ | refine ldS_mk (by first | exact C0.at rfl | exact C0.at0 rfl | exact ct.at rfl | exact ct.at0 rfl) ?_ | refine ldM_mk (by first | exact C0.at rfl | exact C0.at0 rfl | exact ct.at rfl | exact ct.at0 rfl) ?_)); exact rfl) ?_ | refine ifNS ?_ | refine And.intro (by decide) ?_)
    refine R1.row.idx entV_len (by omega) i rfl hlt fun ad ce => ?_
    rw [Int.toNat_natCast]
    refine ldI_mk (ce.at0 rfl) ?_
    refine ifE (fun e2 => ?_) fun e2 => ?_
    · have C0 := (H.get 0 rfl).cells; repeat (first | (first | refine ldI_mk (by first | exact C0.at rfl | exact C0.at0 rfl | exact ct.at rfl | exact ct.at0 rfl) ?_ | refine ldB_mk (by first | exact C0.at rfl | exact C0.at0 rfl | exact ct.at rfl | exact ct.at0 rfl) ?_ | refine ldL_mk (by first | exact C0.at rfl | exact C0.at0 rfl | exact ct.at rfl | exact ct.at0 rfl) ?_ | refine ldP_mk (by first | exact C0.at rfl | exact C0.at0 rfl | exact ct.at rfl | exact ct.at0 rfl) ?_ | refine ldS_mk (by first | exact C0.at rfl | exact C0.at0 rfl | exact ct.at rfl | exact ct.at0 rfl) ?_ | refine ldM_mk (by first | exact C0.at rfl | exact C0.at0 rfl | exact ct.at rfl | exact ct.at0 rfl) ?_) | refine nn_mk ?_ | refine And.intro (by (repeat (first | refine ldI_mk (by first | exact C0.at rfl | exact C0.at0 rfl | exact ct.at rfl | exact ct.at0 rfl) ?_ | refine ldB_mk (by first | exact C0.at rfl | exact C0.at0 rfl | exact ct.at rfl | exact ct.at0 rfl) ?_ | refine ldL_mk (by first | exact C0.at rfl | exact C0.at0 rfl | exact ct.at rfl | exact ct.at0 rfl) ?_ | refine ldP_mk (by first | exact C0.at rfl | exact C0.at0 rfl | exact ct.at rfl | exact ct.at0 rfl) ?_ | refine ldS_mk (by first | exact C0.at rfl | exact C0.at0 rfl | exact ct.at rfl | exact ct.at0 rfl) ?_ | refine ldM_mk (by first | exact C0.at rfl | exact C0.at0 rfl | exact ct.at rfl | exact ct.at0 rfl) ?_)); exact rfl) ?_ | refine ifNS ?_ | refine And.intro (by decide) ?_)
      refine R1.row.idx entV_len (by omega) i rfl hlt fun ad ce => ?_
      have c3 : Cells h1 ((ad.add (i * 12)).add 3) (st.L[i].f.vals) := ce.sub 3
      have C0 := (H.get 0 rfl).cells; repeat (first | (first | refine ldI_mk (by first | exact C0.at rfl | exact C0.at0 rfl | exact c3.at rfl | exact c3.at0 rfl | exact ce.at rfl | exact ce.at0 rfl) ?_ | refine ldB_mk (by first | exact C0.at rfl | exact C0.at0 rfl | exact c3.at rfl | exact c3.at0 rfl | exact ce.at rfl | exact ce.at0 rfl) ?_ | refine ldL_mk (by first | exact C0.at rfl | exact C0.at0 rfl | exact c3.at rfl | exact c3.at0 rfl | exact ce.at rfl | exact ce.at0 rfl) ?_ | refine ldP_mk (by first | exact C0.at rfl | exact C0.at0 rfl | exact c3.at rfl | exact c3.at0 rfl | exact ce.at rfl | exact ce.at0 rfl) ?_ | refine ldS_mk (by first | exact C0.at rfl | exact C0.at0 rfl | exact c3.at rfl | exact c3.at0 rfl | exact ce.at rfl | exact ce.at0 rfl) ?_ | refine ldM_mk (by first | exact C0.at rfl | exact C0.at0 rfl | exact c3.at rfl | exact c3.at0 rfl | exact ce.at rfl | exact ce.at0 rfl) ?_) | refine nn_mk ?_ | refine And.intro (by (repeat (first | refine ldI_mk (by first | exact C0.at rfl | exact C0.at0 rfl | exact c3.at rfl | exact c3.at0 rfl | exact ce.at rfl | exact ce.at0 rfl) ?_ | refine ldB_mk (by first | exact C0.at rfl | exact C0.at0 rfl | exact c3.at rfl | exact c3.at0 rfl | exact ce.at rfl | exact ce.at0 rfl) ?_ | refine ldL_mk (by first | exact C0.at rfl | exact C0.at0 rfl | exact c3.at rfl | exact c3.at0 rfl | exact ce.at rfl | exact ce.at0 rfl) ?_ | refine ldP_mk (by first | exact C0.at rfl | exact C0.at0 rfl | exact c3.at rfl | exact c3.at0 rfl | exact ce.at rfl | exact ce.at0 rfl) ?_ | refine ldS_mk (by first | exact C0.at rfl | exact C0.at0 rfl | exact c3.at rfl | exact c3.at0 rfl | exact ce.at rfl | exact ce.at0 rfl) ?_ | refine ldM_mk (by first | exact C0.at rfl | exact C0.at0 rfl | exact c3.at rfl | exact c3.at0 rfl | exact ce.at rfl | exact ce.at0 rfl) ?_)); exact rfl) ?_ | refine ifNS ?_ | refine And.intro (by decide) ?_)
      refine stN_H H 0 rfl (by rfl) (by rfl) fun h3 H => ?_
      have C0 := (H.get 0 rfl).cells; repeat (first | (first | refine ldI_mk (by first | exact C0.at rfl | exact C0.at0 rfl) ?_ | refine ldB_mk (by first | exact C0.at rfl | exact C0.at0 rfl) ?_ | refine ldL_mk (by first | exact C0.at rfl | exact C0.at0 rfl) ?_ | refine ldP_mk (by first | exact C0.at rfl | exact C0.at0 rfl) ?_ | refine ldS_mk (by first | exact C0.at rfl | exact C0.at0 rfl) ?_ | refine ldM_mk (by first | exact C0.at rfl | exact C0.at0 rfl) ?_) | refine nn_mk ?_ | refine And.intro (by (repeat (first | refine ldI_mk (by first | exact C0.at rfl | exact C0.at0 rfl) ?_ | refine ldB_mk (by first | exact C0.at rfl | exact C0.at0 rfl) ?_ | refine ldL_mk (by first | exact C0.at rfl | exact C0.at0 rfl) ?_ | refine ldP_mk (by first | exact C0.at rfl | exact C0.at0 rfl) ?_ | refine ldS_mk (by first | exact C0.at rfl | exact C0.at0 rfl) ?_ | refine ldM_mk (by first | exact C0.at rfl | exact C0.at0 rfl) ?_)); exact rfl) ?_ | refine ifNS ?_ | refine And.intro (by decide) ?_)
      rw [← e2, keyS_some w.nd (List.getElem_mem hlt)] at hk
      exact hk h3 H.fr0
    · rw [wr (by omega) (by omega)]
      refine ⟨⟨i + 1, rfl, hlt, rfl, fun j hj hji => ?_⟩, by omega⟩
      by_cases h : j = i
      · subst h; exact e2
      · exact hn j hj (by omega)
  · unfold ref22_Table_Key_b2
    refine stN_H H 0 rfl (by rfl) (by rfl) fun h3 H => ?_
    have C0 := (H.get 0 rfl).cells; repeat (first | (first | refine ldI_mk (by first | exact C0.at rfl | exact C0.at0 rfl) ?_ | refine ldB_mk (by first | exact C0.at rfl | exact C0.at0 rfl) ?_ | refine ldL_mk (by first | exact C0.at rfl | exact C0.at0 rfl) ?_ | refine ldP_mk (by first | exact C0.at rfl | exact C0.at0 rfl) ?_ | refine ldS_mk (by first | exact C0.at rfl | exact C0.at0 rfl) ?_ | refine ldM_mk (by first | exact C0.at rfl | exact C0.at0 rfl) ?_) | refine nn_mk ?_ | refine And.intro (by (repeat (first | refine ldI_mk (by first | exact C0.at rfl | exact C0.at0 rfl) ?_ | refine ldB_mk (by first | exact C0.at rfl | exact C0.at0 rfl) ?_ | refine ldL_mk (by first | exact C0.at rfl | exact C0.at0 rfl) ?_ | refine ldP_mk (by first | exact C0.at rfl | exact C0.at0 rfl) ?_ | refine ldS_mk (by first | exact C0.at rfl | exact C0.at0 rfl) ?_ | refine ldM_mk (by first | exact C0.at rfl | exact C0.at0 rfl) ?_)); exact rfl) ?_ | refine ifNS ?_ | refine And.intro (by decide) ?_)
    rw [keyS_none (fun d hd he => by obtain ⟨j, hj, rfl⟩ := List.getElem_of_mem hd; exact hn j hj (by omega) he)] at hk
    exact hk h3 H.fr0
theorem rIds_c [Gh] {ok : Nat → Prop} {h : Heap} {x : Addr} {st : St} {p : Option Addr} {cap : Nat} (R : RefF ok h x st p cap) (w : Wf st) {Q : Value → Heap → Prop}
    (hk : ∀ p cap h', Fr (fun _ => False) h h' → Row 1 intV h' p cap (st.L.map (·.id)) → (∀ b, InA p b → h.size ≤ b) → Q (.slice p (st.L.map (·.id)).length cap) h') :
    CallT Try.prog fn_ref22_Table_Ids #[.pointer (some x)] h Q := by
  apply ref22_Table_Ids_s
  unfold ref22_Table_Ids_v
  have hl := w.len64
  refine LoopV.mk (fun s h' => ∃ (i : Nat), s.2.2.2 = (i : Int) ∧ i ≤ st.L.length ∧ s.2.1 = ((st.L.take i).map (·.id)).length ∧ Fr (fun _ => False) h h' ∧ Row 1 intV h' s.1 s.2.2.1 ((st.L.take i).map (·.id)) ∧ ∀ b, InA s.1 b → h.size ≤ b) (fun s _ => st.L.length - s.2.2.2.toNat)
    ⟨0, rfl, by omega, rfl, Fr.refl _ _, Row.nil, fun b hb => (notInA hb).elim⟩ ?_
  rintro ⟨a, n, c, j⟩ h1 ⟨i, hj, hi, hn, f1, Ra, ha⟩
  dsimp only at hj hn Ra ha
  subst hj hn
  unfold ref22_Table_Ids_l1
  dsimp only
  have R1 := R.fr0 f1
  have ct := R1.own.cells
  repeat (first | (first | refine ldI_mk (by first | exact ct.at rfl | exact ct.at0 rfl) ?_ | refine ldB_mk (by first | exact ct.at rfl | exact ct.at0 rfl) ?_ | refine ldL_mk (by first | exact ct.at rfl | exact ct.at0 rfl) ?_ | refine ldP_mk (by first | exact ct.at rfl | exact ct.at0 rfl) ?_ | refine ldS_mk (by first | exact ct.at rfl | exact ct.at0 rfl) ?_ | refine ldM_mk (by first | exact ct.at rfl | exact ct.at0 rfl) ?_) | refine nn_mk ?_ | refine And.intro (by (repeat (first | refine ldI_mk (by first | exact ct.at rfl | exact ct.at0 rfl) ?_ | refine ldB_mk (by first | exact ct.at rfl | exact ct.at0 rfl) ?_ | refine ldL_mk (by first | exact ct.at rfl | exact ct.at0 rfl) ?_ | refine ldP_mk (by first | exact ct.at rfl | exact ct.at0 rfl) ?_ | refine ldS_mk (by first | exact ct.at rfl | exact ct.at0 rfl) ?_ | refine ldM_mk (by first | exact ct.at rfl | exact ct.at0 rfl) ?_)); exact rfl) ?_ | refine ifNS ?_ | refine And.intro (by decide) ?_)
  refine ifD (fun e => ?_) fun e => ?_
  · have hlt : i < st.L.length := by omega
    have htk : (st.L.take (i + 1)).map (·.id) = (st.L.take i).map (·.id) ++ [st.L[i].id] := by
      have : st.L.take (i + 1) = st.L.take i ++ [st.L[i]] := by rw [List.take_append_getElem]
      rw [this, List.map_append]; rfl
    repeat (first | (first | refine ldI_mk (by first | exact ct.at rfl | exact ct.at0 rfl) ?_ | refine ldB_mk (by first | exact ct.at rfl | exact ct.at0 rfl) ?_ | refine ldL_mk (by first | exact ct.at rfl | exact ct.at0 rfl) ?_ | refine ldP_mk (by first | exact ct.at rfl | exact ct.at0 rfl) ?_ | refine ldS_mk (by first | exact ct.at rfl | exact ct.at0 rfl) ?_ | refine ldM_mk (by first | exact ct.at rfl | exact ct.at0 rfl) ?_) | refine nn_mk ?_ | refine And.intro (by (repeat (first | refine ldI_mk (by first | exact ct.at rfl | exact ct.at0 rfl) ?_ | refine ldB_mk (by first | exact ct.at rfl | exact ct.at0 rfl) ?_ | refine ldL_mk (by first | exact ct.at rfl | exact ct.at0 rfl) ?_ | refine ldP_mk (by first | exact ct.at rfl | exact ct.at0 rfl) ?_ | refine ldS_mk (by first | exact ct.at rfl | exact ct.at0 rfl) ?_ | refine ldM_mk (by first | exact ct.at rfl | exact ct.at0 rfl) ?_)); exact rfl) ?_ | refine ifNS ?_ | refine And.intro (by decide) ?_)
    refine R1.row.idx entV_len (by omega) i rfl hlt fun ad ce => ?_
    rw [Int.toNat_natCast]
    refine ldI_mk (ce.at0 rfl) ?_
    refine al_mk (vs := intV st.L[i].id) fun b h2 f2 e2' ob => ?_
    have z1 := f1.size
    have z2 := f2.size
    refine appI (Ra.fr0 f2) ob (by simp; omega) fun p' c' h3 R3 f3 hn3 => ⟨_, _, _, rfl, ?_⟩
    rw [wr (by omega) (by omega)]
    rw [← htk] at R3 ⊢
    refine ⟨⟨i + 1, rfl, hlt, rfl, (f1.trans f2).tr f3 fun b hb hi => by have := ha b hi; omega, R3, fun b hb => ?_⟩, by omega⟩
    rcases hn3 b hb with h | h
    · exact ha b h
    · omega
  · rw [List.take_of_length_le (show st.L.length ≤ i by omega)] at Ra ⊢
    exact hk a c h1 f1 Ra ha
theorem same_c [Gh] {h : Heap} {p q : Option Addr} {c d : Nat} {xs ys : List Int} (R : Row 1 intV h p c xs) (R' : Row 1 intV h q d ys) (hl : xs.length ≤ 1000) {Q : Value → Heap → Prop} (hk : Q (.bool (decide (xs = ys))) h) :
    CallT Try.prog fn_ref22_Same #[.slice p xs.length c, .slice q ys.length d] h Q := by
  apply ref22_Same_s
  unfold ref22_Same_v
  refine ifNe (fun e => ?_) fun e => ?_
  · rw [decide_eq_false (fun h => e (by rw [h]))] at hk; exact hk
  have el : xs.length = ys.length := by omega
  refine LoopV.mk (fun s h' => ∃ (i : Nat), s = (i : Int) ∧ i ≤ xs.length ∧ h' = h ∧ ∀ j (h1 : j < xs.length) (h2 : j < ys.length), j < i → xs[j] = ys[j]) (fun s _ => xs.length - s.toNat) ⟨0, rfl, by omega, rfl, fun j _ _ h => absurd h (by omega)⟩ ?_
  rintro j h2 ⟨i, rfl, hi, hh, hn⟩
  subst h2
  unfold ref22_Same_l1
  refine ifD (fun e1 => ?_) fun e1 => ?_
  · have hlt : i < xs.length := by omega
    refine R.idx intV_len (by omega) i rfl hlt fun ad ce => ?_
    rw [Int.toNat_natCast]
    refine ldI_mk (ce.at0 rfl) ?_
    refine R'.idx intV_len (by omega) i rfl (by omega) fun ad ce => ?_
    refine ldI_mk (ce.at0 rfl) ?_
    refine ifNe (fun e2 => ?_) fun e2 => ?_
    · rw [decide_eq_false (fun h => by subst h; exact e2 rfl)] at hk; exact hk
    · rw [wr (by omega) (by omega)]
      refine ⟨⟨i + 1, rfl, hlt, rfl, fun j h1 h2 hji => ?_⟩, by omega⟩
      by_cases h : j = i
      · subst h; exact e2
      · exact hn j h1 h2 (by omega)
  · rw [decide_eq_true (List.ext_getElem el fun j h1 h2 => hn j h1 h2 (by omega))] at hk
    exact hk
end Go.Proofs.Ytbmifkjdjekenaa
