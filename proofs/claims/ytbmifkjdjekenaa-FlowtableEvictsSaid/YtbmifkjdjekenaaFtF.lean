/-
  New, Open, Remove, Expire of the program.
-/
import Derived.Test.YtbmifkjdjekenaaFtE
namespace Go.Proofs.Ytbmifkjdjekenaa
set_option linter.unusedSimpArgs false
set_option linter.unusedVariables false
set_option maxRecDepth 20000
open Go
open Go.IntKind (wrap)
attribute [local irreducible] Addr.add stN st1 idxA idxS alV sliceStr LoopV
theorem open_b1 [Gh] {ok : Nat → Prop} {h : Heap} {t : Addr} {r1 r2 : Nat} {st : St} {M : List FEn} {S : List PE} (R : TabF ok h t r1 r2 { st with L := M } S) (hu : 0 ≤ st.used ∧ st.used ≤ 2 ^ 40) (hok : ∀ b, h.size ≤ b → ok b)
    {f6 : Addr} {f : Fl} (o6 : Own h f6 f.vals T_api_Flow) (h6 : f6.block ≠ t.block ∧ f6.block ≠ r1 ∧ f6.block ≠ r2 ∧ ok f6.block) (hn1 : ∀ c ∈ S, c.id ≠ st.used + 1) (hn2 : ∀ c ∈ S, pairL c.f ≠ pairL f) (at_ v ev : Int) {Q : Value → Heap → Prop}
    (hk : ∀ h' S', Fr ok h h' → TabF ok h' t r1 r2 (addE st at_ v f M) S' → Q (.tuple #[.int .i64 (st.used + 1), .int .i64 ev, .int .i64 0]) h') : flowtable_Table_Open_b1 (some t) at_ v f6 ev Q h := by
  unfold flowtable_Table_Open_b1
  have H := (Hs.start h (fun b => b = t.block)).take R.own (fun _ h => (List.not_mem_nil h).elim) (.inl rfl)
  refine nn_mk (st1_H H 0 rfl rfl rfl fun h1 H => ?_)
  simp only [List.set_cons_zero, List.set_cons_succ] at H
  have C0 := (H.get 0 rfl).cells; repeat (first | (first | refine ldI_mk (by first | exact C0.at rfl | exact C0.at0 rfl) ?_ | refine ldB_mk (by first | exact C0.at rfl | exact C0.at0 rfl) ?_ | refine ldL_mk (by first | exact C0.at rfl | exact C0.at0 rfl) ?_ | refine ldP_mk (by first | exact C0.at rfl | exact C0.at0 rfl) ?_ | refine ldS_mk (by first | exact C0.at rfl | exact C0.at0 rfl) ?_ | refine ldM_mk (by first | exact C0.at rfl | exact C0.at0 rfl) ?_) | refine nn_mk ?_ | refine And.intro (by (repeat (first | refine ldI_mk (by first | exact C0.at rfl | exact C0.at0 rfl) ?_ | refine ldB_mk (by first | exact C0.at rfl | exact C0.at0 rfl) ?_ | refine ldL_mk (by first | exact C0.at rfl | exact C0.at0 rfl) ?_ | refine ldP_mk (by first | exact C0.at rfl | exact C0.at0 rfl) ?_ | refine ldS_mk (by first | exact C0.at rfl | exact C0.at0 rfl) ?_ | refine ldM_mk (by first | exact C0.at rfl | exact C0.at0 rfl) ?_)); exact rfl) ?_ | refine ifNS ?_ | refine And.intro (by decide) ?_)
  refine st1_H H 0 rfl rfl rfl fun h2 H => ?_
  simp only [List.set_cons_zero, List.set_cons_succ] at H
  rw [wr (x := st.used + 1 + 1) (by omega) (by omega)] at H
  have c6 : Cells h2 f6 f.vals := (o6.fr H.fr h6.1).cells
  have C0 := (H.get 0 rfl).cells; repeat (first | (first | refine ldI_mk (by first | exact C0.at rfl | exact C0.at0 rfl | exact c6.at rfl | exact c6.at0 rfl) ?_ | refine ldB_mk (by first | exact C0.at rfl | exact C0.at0 rfl | exact c6.at rfl | exact c6.at0 rfl) ?_ | refine ldL_mk (by first | exact C0.at rfl | exact C0.at0 rfl | exact c6.at rfl | exact c6.at0 rfl) ?_ | refine ldP_mk (by first | exact C0.at rfl | exact C0.at0 rfl | exact c6.at rfl | exact c6.at0 rfl) ?_ | refine ldS_mk (by first | exact C0.at rfl | exact C0.at0 rfl | exact c6.at rfl | exact c6.at0 rfl) ?_ | refine ldM_mk (by first | exact C0.at rfl | exact C0.at0 rfl | exact c6.at rfl | exact c6.at0 rfl) ?_) | refine nn_mk ?_ | refine And.intro (by (repeat (first | refine ldI_mk (by first | exact C0.at rfl | exact C0.at0 rfl | exact c6.at rfl | exact c6.at0 rfl) ?_ | refine ldB_mk (by first | exact C0.at rfl | exact C0.at0 rfl | exact c6.at rfl | exact c6.at0 rfl) ?_ | refine ldL_mk (by first | exact C0.at rfl | exact C0.at0 rfl | exact c6.at rfl | exact c6.at0 rfl) ?_ | refine ldP_mk (by first | exact C0.at rfl | exact C0.at0 rfl | exact c6.at rfl | exact c6.at0 rfl) ?_ | refine ldS_mk (by first | exact C0.at rfl | exact C0.at0 rfl | exact c6.at rfl | exact c6.at0 rfl) ?_ | refine ldM_mk (by first | exact C0.at rfl | exact C0.at0 rfl | exact c6.at rfl | exact c6.at0 rfl) ?_)); exact rfl) ?_ | refine ifNS ?_ | refine And.intro (by decide) ?_)
  refine al_H H fun p h3 H l3 => ?_
  have C0 := (H.get 0 rfl).cells; have C1 := (H.get 1 rfl).cells; repeat (first | (first | refine ldI_mk (by first | exact C0.at rfl | exact C0.at0 rfl | exact C1.at rfl | exact C1.at0 rfl) ?_ | refine ldB_mk (by first | exact C0.at rfl | exact C0.at0 rfl | exact C1.at rfl | exact C1.at0 rfl) ?_ | refine ldL_mk (by first | exact C0.at rfl | exact C0.at0 rfl | exact C1.at rfl | exact C1.at0 rfl) ?_ | refine ldP_mk (by first | exact C0.at rfl | exact C0.at0 rfl | exact C1.at rfl | exact C1.at0 rfl) ?_ | refine ldS_mk (by first | exact C0.at rfl | exact C0.at0 rfl | exact C1.at rfl | exact C1.at0 rfl) ?_ | refine ldM_mk (by first | exact C0.at rfl | exact C0.at0 rfl | exact C1.at rfl | exact C1.at0 rfl) ?_) | refine nn_mk ?_ | refine And.intro (by (repeat (first | refine ldI_mk (by first | exact C0.at rfl | exact C0.at0 rfl | exact C1.at rfl | exact C1.at0 rfl) ?_ | refine ldB_mk (by first | exact C0.at rfl | exact C0.at0 rfl | exact C1.at rfl | exact C1.at0 rfl) ?_ | refine ldL_mk (by first | exact C0.at rfl | exact C0.at0 rfl | exact C1.at rfl | exact C1.at0 rfl) ?_ | refine ldP_mk (by first | exact C0.at rfl | exact C0.at0 rfl | exact C1.at rfl | exact C1.at0 rfl) ?_ | refine ldS_mk (by first | exact C0.at rfl | exact C0.at0 rfl | exact C1.at rfl | exact C1.at0 rfl) ?_ | refine ldM_mk (by first | exact C0.at rfl | exact C0.at0 rfl | exact C1.at rfl | exact C1.at0 rfl) ?_)); exact rfl) ?_ | refine ifNS ?_ | refine And.intro (by decide) ?_)
  have hm1 := R.m1.lt
  have hm2 := R.m2.lt
  have m1 := R.m1.fr H.fr fun h => R.tr.1 h
  have m2 := R.m2.fr H.fr fun h => R.tr.2 h
  have o6 := o6.fr H.fr h6.1
  refine mapUpd_mk idT Try.underlying56 m1 (st.used + 1) (.pointer (some p)) fun h4 f4 s4 I4 => ?_
  have lt := R.own.lt
  have ot := (H.get 1 rfl).fr f4 (fun h => R.tr.1 h.symm)
  have op := (H.get 0 rfl).fr f4 (by omega)
  have o6 := o6.fr f4 h6.2.1
  have m2 := m2.fr f4 (fun h => R.r12 h.symm)
  have ct := ot.cells
  have c6 : Cells h4 f6 f.vals := o6.cells
  repeat (first | (first | refine ldI_mk (by first | exact ct.at rfl | exact ct.at0 rfl | exact c6.at rfl | exact c6.at0 rfl) ?_ | refine ldB_mk (by first | exact ct.at rfl | exact ct.at0 rfl | exact c6.at rfl | exact c6.at0 rfl) ?_ | refine ldL_mk (by first | exact ct.at rfl | exact ct.at0 rfl | exact c6.at rfl | exact c6.at0 rfl) ?_ | refine ldP_mk (by first | exact ct.at rfl | exact ct.at0 rfl | exact c6.at rfl | exact c6.at0 rfl) ?_ | refine ldS_mk (by first | exact ct.at rfl | exact ct.at0 rfl | exact c6.at rfl | exact c6.at0 rfl) ?_ | refine ldM_mk (by first | exact ct.at rfl | exact ct.at0 rfl | exact c6.at rfl | exact c6.at0 rfl) ?_) | refine nn_mk ?_ | refine And.intro (by (repeat (first | refine ldI_mk (by first | exact ct.at rfl | exact ct.at0 rfl | exact c6.at rfl | exact c6.at0 rfl) ?_ | refine ldB_mk (by first | exact ct.at rfl | exact ct.at0 rfl | exact c6.at rfl | exact c6.at0 rfl) ?_ | refine ldL_mk (by first | exact ct.at rfl | exact ct.at0 rfl | exact c6.at rfl | exact c6.at0 rfl) ?_ | refine ldP_mk (by first | exact ct.at rfl | exact ct.at0 rfl | exact c6.at rfl | exact c6.at0 rfl) ?_ | refine ldS_mk (by first | exact ct.at rfl | exact ct.at0 rfl | exact c6.at rfl | exact c6.at0 rfl) ?_ | refine ldM_mk (by first | exact ct.at rfl | exact ct.at0 rfl | exact c6.at rfl | exact c6.at0 rfl) ?_)); exact rfl) ?_ | refine ifNS ?_ | refine And.intro (by decide) ?_)
  refine keyOf_c f fun h5 f5 => ⟨_, _, _, _, _, _, _, _, _, _, rfl, ?_⟩
  have ot := ot.fr0 f5
  have ct := ot.cells
  repeat (first | (first | refine ldI_mk (by first | exact ct.at rfl | exact ct.at0 rfl) ?_ | refine ldB_mk (by first | exact ct.at rfl | exact ct.at0 rfl) ?_ | refine ldL_mk (by first | exact ct.at rfl | exact ct.at0 rfl) ?_ | refine ldP_mk (by first | exact ct.at rfl | exact ct.at0 rfl) ?_ | refine ldS_mk (by first | exact ct.at rfl | exact ct.at0 rfl) ?_ | refine ldM_mk (by first | exact ct.at rfl | exact ct.at0 rfl) ?_) | refine nn_mk ?_ | refine And.intro (by (repeat (first | refine ldI_mk (by first | exact ct.at rfl | exact ct.at0 rfl) ?_ | refine ldB_mk (by first | exact ct.at rfl | exact ct.at0 rfl) ?_ | refine ldL_mk (by first | exact ct.at rfl | exact ct.at0 rfl) ?_ | refine ldP_mk (by first | exact ct.at rfl | exact ct.at0 rfl) ?_ | refine ldS_mk (by first | exact ct.at rfl | exact ct.at0 rfl) ?_ | refine ldM_mk (by first | exact ct.at rfl | exact ct.at0 rfl) ?_)); exact rfl) ?_ | refine ifNS ?_ | refine And.intro (by decide) ?_)
  refine mapUpd_mk pairT Try.underlying57 (m2.fr f5 id) (pairL f) (.int .i64 (st.used + 1)) fun h6' f6' s6 I6 => ?_
  rw [put_new (fun e he => by obtain ⟨c, hc, rfl⟩ := List.mem_map.1 he; exact hn1 c hc)] at I4
  rw [put_new (fun e he => by obtain ⟨c, hc, rfl⟩ := List.mem_map.1 he; exact hn2 c hc)] at I6
  have fA : Fr (fun b => b = t.block ∨ b = r1 ∨ b = r2) h h6' := (((H.fr.mono fun b hb => .inl hb).trans (f4.mono fun b hb => .inr (.inl hb))).trans (f5.mono fun _ h => h.elim)).trans (f6'.mono fun b hb => .inr (.inr hb))
  refine hk h6' (S ++ [⟨st.used + 1, p, f, v, at_⟩]) (fA.mono fun b hb => by rcases hb with rfl | rfl | rfl; exact R.okt; exact R.okr.1; exact R.okr.2) ⟨?_, ?_, ?_, ?_, R.r12, R.tr, R.okt, R.okr, ?_, ?_, ?_⟩
  · exact ot.fr f6' fun h => R.tr.2 h.symm
  · rw [List.map_append]
    exact (I4.fr f5 id).fr f6' R.r12
  · rw [List.map_append]
    exact I6
  · intro c hc
    rcases List.mem_append.1 hc with hc | hc
    · refine (R.cts c hc).fr fA ?_
      obtain ⟨c1, c2, c3, c4⟩ := R.cp c hc
      rintro (h | h | h)
      · exact c1 h
      · exact c2 h
      · exact c3 h
    · rw [List.mem_singleton.1 hc]
      exact (op.fr0 f5).fr f6' (by show ¬ p.block = r2; omega)
  · intro c hc
    rcases List.mem_append.1 hc with hc | hc
    · exact R.cp c hc
    · rw [List.mem_singleton.1 hc]
      have : ok p.block := hok _ l3.1
      exact ⟨by show p.block ≠ t.block; omega, by show p.block ≠ r1; omega, by show p.block ≠ r2; omega, this⟩
  · rw [List.map_append, List.nodup_append]
    refine ⟨R.nd, by simp, fun a ha b hb => ?_⟩
    obtain ⟨c, hc, rfl⟩ := List.mem_map.1 ha
    simp at hb; subst hb
    have := (R.cts c hc).lt
    show c.p.block ≠ p.block
    omega
  · rw [List.map_append]
    exact R.perm.append_right _
theorem open_c [Gh] {ok : Nat → Prop} {h : Heap} {t : Addr} {r1 r2 : Nat} {st : St} {S : List PE} (R : TabF ok h t r1 r2 st S) (w : Wf st) (hok : ∀ b, h.size ≤ b → ok b) (at_ : Int) (f : Fl) (v : Int) {Q : Value → Heap → Prop}
    (hk : ∀ a b c s h' S', OpenR st at_ f v a b c s → Fr ok h h' → TabF ok h' t r1 r2 s S' → Q (.tuple #[.int .i64 a, .int .i64 b, .int .i64 c]) h') :
    CallT Try.prog fn_flowtable_Table_Open #[.pointer (some t), .int .i64 at_, .agg #[.int .i64 f.proto, .bool f.src.v6, .int .u64 f.src.hi, .int .u64 f.src.lo, .bool f.dst.v6, .int .u64 f.dst.hi, .int .u64 f.dst.lo, .int .i64 f.sport, .int .i64 f.dport], .int .i64 v] h Q := by
  apply flowtable_Table_Open_s
  unfold flowtable_Table_Open_v
  refine al_H (Hs.pure h) fun t6 h1 H l6 => ?_
  refine ifNS ?_
  have lift : ∀ {a b : Heap}, Fr (fun _ => False) a b → Fr ok a b := fun f => f.mono fun _ h => h.elim
  have R1 := R.fr0 H.fr0
  refine late_c R1 at_ ⟨_, rfl, ?_⟩
  refine ifB (fun e => hk _ _ _ _ h1 S (.late e) (lift H.fr0) R1) fun e0 => ?_
  have bad : badB f v = true → Q (.tuple #[.int .i64 0, .int .i64 0, .int .i64 4]) h1 := fun e => hk _ _ _ _ h1 S (.bad e0 e) (lift H.fr0) R1
  unfold badB at bad
  simp only [decide_eq_true_eq] at bad
  refine ifD (fun e => bad (by omega)) fun e1 => ifD (fun e => bad (by omega)) fun e2 => ?_
  have C0 := (H.get 0 rfl).cells; repeat (first | (first | refine ldI_mk (by first | exact C0.at rfl | exact C0.at0 rfl) ?_ | refine ldB_mk (by first | exact C0.at rfl | exact C0.at0 rfl) ?_ | refine ldL_mk (by first | exact C0.at rfl | exact C0.at0 rfl) ?_ | refine ldP_mk (by first | exact C0.at rfl | exact C0.at0 rfl) ?_ | refine ldS_mk (by first | exact C0.at rfl | exact C0.at0 rfl) ?_ | refine ldM_mk (by first | exact C0.at rfl | exact C0.at0 rfl) ?_) | refine nn_mk ?_ | refine And.intro (by (repeat (first | refine ldI_mk (by first | exact C0.at rfl | exact C0.at0 rfl) ?_ | refine ldB_mk (by first | exact C0.at rfl | exact C0.at0 rfl) ?_ | refine ldL_mk (by first | exact C0.at rfl | exact C0.at0 rfl) ?_ | refine ldP_mk (by first | exact C0.at rfl | exact C0.at0 rfl) ?_ | refine ldS_mk (by first | exact C0.at rfl | exact C0.at0 rfl) ?_ | refine ldM_mk (by first | exact C0.at rfl | exact C0.at0 rfl) ?_)); exact rfl) ?_ | refine ifNS ?_ | refine And.intro (by decide) ?_)
  refine ifD (fun e => bad (by omega)) fun e3 => ?_
  have C0 := (H.get 0 rfl).cells; repeat (first | (first | refine ldI_mk (by first | exact C0.at rfl | exact C0.at0 rfl) ?_ | refine ldB_mk (by first | exact C0.at rfl | exact C0.at0 rfl) ?_ | refine ldL_mk (by first | exact C0.at rfl | exact C0.at0 rfl) ?_ | refine ldP_mk (by first | exact C0.at rfl | exact C0.at0 rfl) ?_ | refine ldS_mk (by first | exact C0.at rfl | exact C0.at0 rfl) ?_ | refine ldM_mk (by first | exact C0.at rfl | exact C0.at0 rfl) ?_) | refine nn_mk ?_ | refine And.intro (by (repeat (first | refine ldI_mk (by first | exact C0.at rfl | exact C0.at0 rfl) ?_ | refine ldB_mk (by first | exact C0.at rfl | exact C0.at0 rfl) ?_ | refine ldL_mk (by first | exact C0.at rfl | exact C0.at0 rfl) ?_ | refine ldP_mk (by first | exact C0.at rfl | exact C0.at0 rfl) ?_ | refine ldS_mk (by first | exact C0.at rfl | exact C0.at0 rfl) ?_ | refine ldM_mk (by first | exact C0.at rfl | exact C0.at0 rfl) ?_)); exact rfl) ?_ | refine ifNS ?_ | refine And.intro (by decide) ?_)
  refine ifD (fun e => bad (by omega)) fun e4 => ?_
  have C0 := (H.get 0 rfl).cells; repeat (first | (first | refine ldI_mk (by first | exact C0.at rfl | exact C0.at0 rfl) ?_ | refine ldB_mk (by first | exact C0.at rfl | exact C0.at0 rfl) ?_ | refine ldL_mk (by first | exact C0.at rfl | exact C0.at0 rfl) ?_ | refine ldP_mk (by first | exact C0.at rfl | exact C0.at0 rfl) ?_ | refine ldS_mk (by first | exact C0.at rfl | exact C0.at0 rfl) ?_ | refine ldM_mk (by first | exact C0.at rfl | exact C0.at0 rfl) ?_) | refine nn_mk ?_ | refine And.intro (by (repeat (first | refine ldI_mk (by first | exact C0.at rfl | exact C0.at0 rfl) ?_ | refine ldB_mk (by first | exact C0.at rfl | exact C0.at0 rfl) ?_ | refine ldL_mk (by first | exact C0.at rfl | exact C0.at0 rfl) ?_ | refine ldP_mk (by first | exact C0.at rfl | exact C0.at0 rfl) ?_ | refine ldS_mk (by first | exact C0.at rfl | exact C0.at0 rfl) ?_ | refine ldM_mk (by first | exact C0.at rfl | exact C0.at0 rfl) ?_)); exact rfl) ?_ | refine ifNS ?_ | refine And.intro (by decide) ?_)
  refine port_c _ ⟨_, rfl, ?_⟩
  refine ifN (fun e => bad (by rw [decide_eq_false_iff_not] at e; omega)) fun e5 => ?_
  have C0 := (H.get 0 rfl).cells; repeat (first | (first | refine ldI_mk (by first | exact C0.at rfl | exact C0.at0 rfl) ?_ | refine ldB_mk (by first | exact C0.at rfl | exact C0.at0 rfl) ?_ | refine ldL_mk (by first | exact C0.at rfl | exact C0.at0 rfl) ?_ | refine ldP_mk (by first | exact C0.at rfl | exact C0.at0 rfl) ?_ | refine ldS_mk (by first | exact C0.at rfl | exact C0.at0 rfl) ?_ | refine ldM_mk (by first | exact C0.at rfl | exact C0.at0 rfl) ?_) | refine nn_mk ?_ | refine And.intro (by (repeat (first | refine ldI_mk (by first | exact C0.at rfl | exact C0.at0 rfl) ?_ | refine ldB_mk (by first | exact C0.at rfl | exact C0.at0 rfl) ?_ | refine ldL_mk (by first | exact C0.at rfl | exact C0.at0 rfl) ?_ | refine ldP_mk (by first | exact C0.at rfl | exact C0.at0 rfl) ?_ | refine ldS_mk (by first | exact C0.at rfl | exact C0.at0 rfl) ?_ | refine ldM_mk (by first | exact C0.at rfl | exact C0.at0 rfl) ?_)); exact rfl) ?_ | refine ifNS ?_ | refine And.intro (by decide) ?_)
  refine port_c _ ⟨_, rfl, ?_⟩
  refine ifN (fun e => bad (by rw [decide_eq_false_iff_not] at e; omega)) fun e6 => ?_
  rw [decide_eq_true_eq] at e5 e6
  have hb : badB f v = false := by unfold badB; rw [decide_eq_false_iff_not]; omega
  have C0 := (H.get 0 rfl).cells; repeat (first | (first | refine ldI_mk (by first | exact C0.at rfl | exact C0.at0 rfl) ?_ | refine ldB_mk (by first | exact C0.at rfl | exact C0.at0 rfl) ?_ | refine ldL_mk (by first | exact C0.at rfl | exact C0.at0 rfl) ?_ | refine ldP_mk (by first | exact C0.at rfl | exact C0.at0 rfl) ?_ | refine ldS_mk (by first | exact C0.at rfl | exact C0.at0 rfl) ?_ | refine ldM_mk (by first | exact C0.at rfl | exact C0.at0 rfl) ?_) | refine nn_mk ?_ | refine And.intro (by (repeat (first | refine ldI_mk (by first | exact C0.at rfl | exact C0.at0 rfl) ?_ | refine ldB_mk (by first | exact C0.at rfl | exact C0.at0 rfl) ?_ | refine ldL_mk (by first | exact C0.at rfl | exact C0.at0 rfl) ?_ | refine ldP_mk (by first | exact C0.at rfl | exact C0.at0 rfl) ?_ | refine ldS_mk (by first | exact C0.at rfl | exact C0.at0 rfl) ?_ | refine ldM_mk (by first | exact C0.at rfl | exact C0.at0 rfl) ?_)); exact rfl) ?_ | refine ifNS ?_ | refine And.intro (by decide) ?_)
  refine find_c R1 w f fun h2 f2 => ⟨_, _, _, rfl, ?_⟩
  have H := H.call0 f2
  have R2 := R1.fr0 f2
  refine ifB (fun e => hk _ _ _ _ h2 S (.exists_ e0 hb e) (lift H.fr0) R2) fun ef => ?_
  have ct := R2.own.cells
  have C0 := (H.get 0 rfl).cells; repeat (first | (first | refine ldI_mk (by first | exact C0.at rfl | exact C0.at0 rfl | exact ct.at rfl | exact ct.at0 rfl) ?_ | refine ldB_mk (by first | exact C0.at rfl | exact C0.at0 rfl | exact ct.at rfl | exact ct.at0 rfl) ?_ | refine ldL_mk (by first | exact C0.at rfl | exact C0.at0 rfl | exact ct.at rfl | exact ct.at0 rfl) ?_ | refine ldP_mk (by first | exact C0.at rfl | exact C0.at0 rfl | exact ct.at rfl | exact ct.at0 rfl) ?_ | refine ldS_mk (by first | exact C0.at rfl | exact C0.at0 rfl | exact ct.at rfl | exact ct.at0 rfl) ?_ | refine ldM_mk (by first | exact C0.at rfl | exact C0.at0 rfl | exact ct.at rfl | exact ct.at0 rfl) ?_) | refine nn_mk ?_ | refine And.intro (by (repeat (first | refine ldI_mk (by first | exact C0.at rfl | exact C0.at0 rfl | exact ct.at rfl | exact ct.at0 rfl) ?_ | refine ldB_mk (by first | exact C0.at rfl | exact C0.at0 rfl | exact ct.at rfl | exact ct.at0 rfl) ?_ | refine ldL_mk (by first | exact C0.at rfl | exact C0.at0 rfl | exact ct.at rfl | exact ct.at0 rfl) ?_ | refine ldP_mk (by first | exact C0.at rfl | exact C0.at0 rfl | exact ct.at rfl | exact ct.at0 rfl) ?_ | refine ldS_mk (by first | exact C0.at rfl | exact C0.at0 rfl | exact ct.at rfl | exact ct.at0 rfl) ?_ | refine ldM_mk (by first | exact C0.at rfl | exact C0.at0 rfl | exact ct.at rfl | exact ct.at0 rfl) ?_)); exact rfl) ?_ | refine ifNS ?_ | refine And.intro (by decide) ?_)
  refine len_mk Try.underlying56 R2.m1 ⟨_, rfl, ?_⟩
  have C0 := (H.get 0 rfl).cells; repeat (first | (first | refine ldI_mk (by first | exact C0.at rfl | exact C0.at0 rfl | exact ct.at rfl | exact ct.at0 rfl) ?_ | refine ldB_mk (by first | exact C0.at rfl | exact C0.at0 rfl | exact ct.at rfl | exact ct.at0 rfl) ?_ | refine ldL_mk (by first | exact C0.at rfl | exact C0.at0 rfl | exact ct.at rfl | exact ct.at0 rfl) ?_ | refine ldP_mk (by first | exact C0.at rfl | exact C0.at0 rfl | exact ct.at rfl | exact ct.at0 rfl) ?_ | refine ldS_mk (by first | exact C0.at rfl | exact C0.at0 rfl | exact ct.at rfl | exact ct.at0 rfl) ?_ | refine ldM_mk (by first | exact C0.at rfl | exact C0.at0 rfl | exact ct.at rfl | exact ct.at0 rfl) ?_) | refine nn_mk ?_ | refine And.intro (by (repeat (first | refine ldI_mk (by first | exact C0.at rfl | exact C0.at0 rfl | exact ct.at rfl | exact ct.at0 rfl) ?_ | refine ldB_mk (by first | exact C0.at rfl | exact C0.at0 rfl | exact ct.at rfl | exact ct.at0 rfl) ?_ | refine ldL_mk (by first | exact C0.at rfl | exact C0.at0 rfl | exact ct.at rfl | exact ct.at0 rfl) ?_ | refine ldP_mk (by first | exact C0.at rfl | exact C0.at0 rfl | exact ct.at rfl | exact ct.at0 rfl) ?_ | refine ldS_mk (by first | exact C0.at rfl | exact C0.at0 rfl | exact ct.at rfl | exact ct.at0 rfl) ?_ | refine ldM_mk (by first | exact C0.at rfl | exact C0.at0 rfl | exact ct.at rfl | exact ct.at0 rfl) ?_)); exact rfl) ?_ | refine ifNS ?_ | refine And.intro (by decide) ?_)
  have hlen : (S.map fun c => (c.id, Value.pointer (some c.p))).length = st.L.length := by have := R.perm.length_eq; simpa using this
  rw [hlen]
  have no : ∀ c ∈ S, pairL c.f ≠ pairL f := fun c hc => find_yes ef c.ent (R.mem.2 ⟨c, hc, rfl⟩)
  have ni : ∀ c ∈ S, c.id ≠ st.used + 1 := fun c hc => by have := (w.ids c.ent (R.mem.2 ⟨c, hc, rfl⟩)).2; have : c.id ≤ st.used := this; omega
  have lr1 := R.m1.lt
  have lr2 := R.m2.lt
  have ltt := R.own.lt
  have z1 := H.size
  refine ifD (fun e7 => ?_) fun e7 => ?_
  · have hne : st.L ≠ [] := fun h => by rw [h] at e7; have := w.most; simp at e7; omega
    refine least_c R2 w hne fun c hc hl h3 f3 => ⟨_, rfl, ?_⟩
    have H := H.call0 f3
    have R3 := R2.fr0 f3
    have ct := R3.own.cells
    have C0 := (H.get 0 rfl).cells; repeat (first | (first | refine ldI_mk (by first | exact C0.at rfl | exact C0.at0 rfl | exact ct.at rfl | exact ct.at0 rfl) ?_ | refine ldB_mk (by first | exact C0.at rfl | exact C0.at0 rfl | exact ct.at rfl | exact ct.at0 rfl) ?_ | refine ldL_mk (by first | exact C0.at rfl | exact C0.at0 rfl | exact ct.at rfl | exact ct.at0 rfl) ?_ | refine ldP_mk (by first | exact C0.at rfl | exact C0.at0 rfl | exact ct.at rfl | exact ct.at0 rfl) ?_ | refine ldS_mk (by first | exact C0.at rfl | exact C0.at0 rfl | exact ct.at rfl | exact ct.at0 rfl) ?_ | refine ldM_mk (by first | exact C0.at rfl | exact C0.at0 rfl | exact ct.at rfl | exact ct.at0 rfl) ?_) | refine nn_mk ?_ | refine And.intro (by (repeat (first | refine ldI_mk (by first | exact C0.at rfl | exact C0.at0 rfl | exact ct.at rfl | exact ct.at0 rfl) ?_ | refine ldB_mk (by first | exact C0.at rfl | exact C0.at0 rfl | exact ct.at rfl | exact ct.at0 rfl) ?_ | refine ldL_mk (by first | exact C0.at rfl | exact C0.at0 rfl | exact ct.at rfl | exact ct.at0 rfl) ?_ | refine ldP_mk (by first | exact C0.at rfl | exact C0.at0 rfl | exact ct.at rfl | exact ct.at0 rfl) ?_ | refine ldS_mk (by first | exact C0.at rfl | exact C0.at0 rfl | exact ct.at rfl | exact ct.at0 rfl) ?_ | refine ldM_mk (by first | exact C0.at rfl | exact C0.at0 rfl | exact ct.at rfl | exact ct.at0 rfl) ?_)); exact rfl) ?_ | refine ifNS ?_ | refine And.intro (by decide) ?_)
    refine look_mk idT Try.underlying56 zeroP R3.m1 c.id false ?_
    rw [R3.get hc]
    refine ⟨_, rfl, ?_⟩
    have cc : Cells h3 c.p c.vals := (R3.cts c hc).cells
    have C0 := (H.get 0 rfl).cells; repeat (first | (first | refine ldI_mk (by first | exact C0.at rfl | exact C0.at0 rfl | exact cc.at rfl | exact cc.at0 rfl) ?_ | refine ldB_mk (by first | exact C0.at rfl | exact C0.at0 rfl | exact cc.at rfl | exact cc.at0 rfl) ?_ | refine ldL_mk (by first | exact C0.at rfl | exact C0.at0 rfl | exact cc.at rfl | exact cc.at0 rfl) ?_ | refine ldP_mk (by first | exact C0.at rfl | exact C0.at0 rfl | exact cc.at rfl | exact cc.at0 rfl) ?_ | refine ldS_mk (by first | exact C0.at rfl | exact C0.at0 rfl | exact cc.at rfl | exact cc.at0 rfl) ?_ | refine ldM_mk (by first | exact C0.at rfl | exact C0.at0 rfl | exact cc.at rfl | exact cc.at0 rfl) ?_) | refine nn_mk ?_ | refine And.intro (by (repeat (first | refine ldI_mk (by first | exact C0.at rfl | exact C0.at0 rfl | exact cc.at rfl | exact cc.at0 rfl) ?_ | refine ldB_mk (by first | exact C0.at rfl | exact C0.at0 rfl | exact cc.at rfl | exact cc.at0 rfl) ?_ | refine ldL_mk (by first | exact C0.at rfl | exact C0.at0 rfl | exact cc.at rfl | exact cc.at0 rfl) ?_ | refine ldP_mk (by first | exact C0.at rfl | exact C0.at0 rfl | exact cc.at rfl | exact cc.at0 rfl) ?_ | refine ldS_mk (by first | exact C0.at rfl | exact C0.at0 rfl | exact cc.at rfl | exact cc.at0 rfl) ?_ | refine ldM_mk (by first | exact C0.at rfl | exact C0.at0 rfl | exact cc.at rfl | exact cc.at0 rfl) ?_)); exact rfl) ?_ | refine ifNS ?_ | refine And.intro (by decide) ?_)
    refine ifD (fun e8 => hk _ _ _ _ h3 S (.full c.ent e0 hb ef e7 hl e8) (lift H.fr0) R3) fun e8 => ?_
    refine drop_c R3 hc fun h4 f4 R4 => ⟨rfl, ?_⟩
    have z4 := f4.size
    have z3 := H.size
    have o6 := (H.get 0 rfl).fr f4 (by omega)
    refine open_b1 R4 w.used (fun b hb => hok b (by omega)) o6 ⟨by omega, by omega, by omega, hok _ l6.1⟩ (fun d hd => ni d (List.mem_filter.1 hd).1) (fun d hd => no d (List.mem_filter.1 hd).1) at_ v c.id fun h5 S' f5 R5 => ?_
    exact hk _ _ _ _ h5 S' (.evict c.ent e0 hb ef e7 hl e8) (((lift H.fr0).trans (f4.mono fun b hb => by rcases hb with rfl | rfl; exact R.okr.1; exact R.okr.2)).trans f5) R5
  · refine open_b1 (M := st.L) R2 w.used (fun b hb => hok b (by omega)) (H.get 0 rfl) ⟨by omega, by omega, by omega, hok _ l6.1⟩ ni no at_ v 0 fun h5 S' f5 R5 => ?_
    exact hk _ _ _ _ h5 S' (.add e0 hb ef e7) ((lift H.fr0).trans f5) R5
theorem remove_c [Gh] {ok : Nat → Prop} {h : Heap} {t : Addr} {r1 r2 : Nat} {st : St} {S : List PE} (R : TabF ok h t r1 r2 st S) (id : Int) {Q : Value → Heap → Prop}
    (hk : ∀ h' S', Fr ok h h' → TabF ok h' t r1 r2 (removeS st id).2 S' → Q (.int .i64 (removeS st id).1) h') :
    CallT Try.prog fn_flowtable_Table_Remove #[.pointer (some t), .int .i64 id] h Q := by
  apply flowtable_Table_Remove_s
  unfold flowtable_Table_Remove_v
  refine ifNS ?_
  unfold removeS at hk
  have ct := R.own.cells
  repeat (first | (first | refine ldI_mk (by first | exact ct.at rfl | exact ct.at0 rfl) ?_ | refine ldB_mk (by first | exact ct.at rfl | exact ct.at0 rfl) ?_ | refine ldL_mk (by first | exact ct.at rfl | exact ct.at0 rfl) ?_ | refine ldP_mk (by first | exact ct.at rfl | exact ct.at0 rfl) ?_ | refine ldS_mk (by first | exact ct.at rfl | exact ct.at0 rfl) ?_ | refine ldM_mk (by first | exact ct.at rfl | exact ct.at0 rfl) ?_) | refine nn_mk ?_ | refine And.intro (by (repeat (first | refine ldI_mk (by first | exact ct.at rfl | exact ct.at0 rfl) ?_ | refine ldB_mk (by first | exact ct.at rfl | exact ct.at0 rfl) ?_ | refine ldL_mk (by first | exact ct.at rfl | exact ct.at0 rfl) ?_ | refine ldP_mk (by first | exact ct.at rfl | exact ct.at0 rfl) ?_ | refine ldS_mk (by first | exact ct.at rfl | exact ct.at0 rfl) ?_ | refine ldM_mk (by first | exact ct.at rfl | exact ct.at0 rfl) ?_)); exact rfl) ?_ | refine ifNS ?_ | refine And.intro (by decide) ?_)
  refine look1 R id (fun hn => ⟨_, rfl, ?_⟩) fun c hc he => ⟨_, rfl, ?_⟩
  · refine ifNN ?_
    rw [if_neg (by rw [hasId_iff]; rintro ⟨e, he, hi⟩; obtain ⟨c, hc, rfl⟩ := R.mem.1 he; exact hn c hc hi)] at hk
    exact hk h S (Fr.refl _ _) R
  · subst he
    refine ifNS ?_
    rw [if_pos (by rw [hasId_iff]; exact ⟨c.ent, R.mem.2 ⟨c, hc, rfl⟩, rfl⟩)] at hk
    exact drop_c R hc fun h1 f1 R1 => ⟨rfl, hk h1 _ (f1.mono fun b hb => by rcases hb with rfl | rfl; exact R.okr.1; exact R.okr.2) R1⟩
end Go.Proofs.Ytbmifkjdjekenaa
