/-
  Find, Key, Touch of the program.
-/
import Derived.Test.YtbmifkjdjekenaaFtC
namespace Go.Proofs.Ytbmifkjdjekenaa
set_option linter.unusedSimpArgs false
set_option linter.unusedVariables false
set_option maxRecDepth 20000
open Go
open Go.IntKind (wrap)
set_option maxHeartbeats 1000000 in
attribute [local irreducible] Addr.add stN st1 idxA idxS alV sliceStr LoopV
theorem find_c [Gh] {ok : Nat → Prop} {h : Heap} {t : Addr} {r1 r2 : Nat} {st : St} {S : List PE} (R : TabF ok h t r1 r2 st S) (w : Wf st) (f : Fl) {Q : Value → Heap → Prop}
    (hk : ∀ h', Fr (fun _ => False) h h' → Q (.tuple #[.int .i64 (findS st.L f).1, .int .i64 (findS st.L f).2.1, .bool (findS st.L f).2.2]) h') :
    CallT Try.prog fn_flowtable_Table_Find #[.pointer (some t), .agg #[.int .i64 f.proto, .bool f.src.v6, .int .u64 f.src.hi, .int .u64 f.src.lo, .bool f.dst.v6, .int .u64 f.dst.hi, .int .u64 f.dst.lo, .int .i64 f.sport, .int .i64 f.dport]] h Q := by
  apply flowtable_Table_Find_s
  unfold flowtable_Table_Find_v
  refine al_H (Hs.pure h) fun t3 h1 H l3 => ?_
  have ct := (R.fr0 H.fr0).own.cells
  have C0 := (H.get 0 rfl).cells; repeat (first | (first | refine ldI_mk (by first | exact C0.at rfl | exact C0.at0 rfl | exact ct.at rfl | exact ct.at0 rfl) ?_ | refine ldB_mk (by first | exact C0.at rfl | exact C0.at0 rfl | exact ct.at rfl | exact ct.at0 rfl) ?_ | refine ldL_mk (by first | exact C0.at rfl | exact C0.at0 rfl | exact ct.at rfl | exact ct.at0 rfl) ?_ | refine ldP_mk (by first | exact C0.at rfl | exact C0.at0 rfl | exact ct.at rfl | exact ct.at0 rfl) ?_ | refine ldS_mk (by first | exact C0.at rfl | exact C0.at0 rfl | exact ct.at rfl | exact ct.at0 rfl) ?_ | refine ldM_mk (by first | exact C0.at rfl | exact C0.at0 rfl | exact ct.at rfl | exact ct.at0 rfl) ?_) | refine nn_mk ?_ | refine And.intro (by (repeat (first | refine ldI_mk (by first | exact C0.at rfl | exact C0.at0 rfl | exact ct.at rfl | exact ct.at0 rfl) ?_ | refine ldB_mk (by first | exact C0.at rfl | exact C0.at0 rfl | exact ct.at rfl | exact ct.at0 rfl) ?_ | refine ldL_mk (by first | exact C0.at rfl | exact C0.at0 rfl | exact ct.at rfl | exact ct.at0 rfl) ?_ | refine ldP_mk (by first | exact C0.at rfl | exact C0.at0 rfl | exact ct.at rfl | exact ct.at0 rfl) ?_ | refine ldS_mk (by first | exact C0.at rfl | exact C0.at0 rfl | exact ct.at rfl | exact ct.at0 rfl) ?_ | refine ldM_mk (by first | exact C0.at rfl | exact C0.at0 rfl | exact ct.at rfl | exact ct.at0 rfl) ?_)); exact rfl) ?_ | refine ifNS ?_ | refine And.intro (by decide) ?_)
  refine keyOf_c f fun h2 f2 => ⟨_, _, _, _, _, _, _, _, _, _, rfl, ?_⟩
  have H := H.call0 f2
  have R2 := R.fr0 H.fr0
  have ct := R2.own.cells
  have C0 := (H.get 0 rfl).cells; repeat (first | (first | refine ldI_mk (by first | exact C0.at rfl | exact C0.at0 rfl | exact ct.at rfl | exact ct.at0 rfl) ?_ | refine ldB_mk (by first | exact C0.at rfl | exact C0.at0 rfl | exact ct.at rfl | exact ct.at0 rfl) ?_ | refine ldL_mk (by first | exact C0.at rfl | exact C0.at0 rfl | exact ct.at rfl | exact ct.at0 rfl) ?_ | refine ldP_mk (by first | exact C0.at rfl | exact C0.at0 rfl | exact ct.at rfl | exact ct.at0 rfl) ?_ | refine ldS_mk (by first | exact C0.at rfl | exact C0.at0 rfl | exact ct.at rfl | exact ct.at0 rfl) ?_ | refine ldM_mk (by first | exact C0.at rfl | exact C0.at0 rfl | exact ct.at rfl | exact ct.at0 rfl) ?_) | refine nn_mk ?_ | refine And.intro (by (repeat (first | refine ldI_mk (by first | exact C0.at rfl | exact C0.at0 rfl | exact ct.at rfl | exact ct.at0 rfl) ?_ | refine ldB_mk (by first | exact C0.at rfl | exact C0.at0 rfl | exact ct.at rfl | exact ct.at0 rfl) ?_ | refine ldL_mk (by first | exact C0.at rfl | exact C0.at0 rfl | exact ct.at rfl | exact ct.at0 rfl) ?_ | refine ldP_mk (by first | exact C0.at rfl | exact C0.at0 rfl | exact ct.at rfl | exact ct.at0 rfl) ?_ | refine ldS_mk (by first | exact C0.at rfl | exact C0.at0 rfl | exact ct.at rfl | exact ct.at0 rfl) ?_ | refine ldM_mk (by first | exact C0.at rfl | exact C0.at0 rfl | exact ct.at rfl | exact ct.at0 rfl) ?_)); exact rfl) ?_ | refine ifNS ?_ | refine And.intro (by decide) ?_)
  refine look2 R2 f (fun hn => ⟨_, _, rfl, ?_⟩) fun c hc hp => ⟨_, _, rfl, ?_⟩
  · rw [if_pos (by rfl)]
    rw [find_none (L := st.L) (f := f) fun e he => by obtain ⟨c, hc, rfl⟩ := R.mem.1 he; exact hn c hc] at hk
    exact hk h2 H.fr0
  rw [if_neg (by simp)]
  rw [find_one w.pairs (R.mem.2 ⟨c, hc, rfl⟩) hp] at hk
  have C0 := (H.get 0 rfl).cells; repeat (first | (first | refine ldI_mk (by first | exact C0.at rfl | exact C0.at0 rfl | exact ct.at rfl | exact ct.at0 rfl) ?_ | refine ldB_mk (by first | exact C0.at rfl | exact C0.at0 rfl | exact ct.at rfl | exact ct.at0 rfl) ?_ | refine ldL_mk (by first | exact C0.at rfl | exact C0.at0 rfl | exact ct.at rfl | exact ct.at0 rfl) ?_ | refine ldP_mk (by first | exact C0.at rfl | exact C0.at0 rfl | exact ct.at rfl | exact ct.at0 rfl) ?_ | refine ldS_mk (by first | exact C0.at rfl | exact C0.at0 rfl | exact ct.at rfl | exact ct.at0 rfl) ?_ | refine ldM_mk (by first | exact C0.at rfl | exact C0.at0 rfl | exact ct.at rfl | exact ct.at0 rfl) ?_) | refine nn_mk ?_ | refine And.intro (by (repeat (first | refine ldI_mk (by first | exact C0.at rfl | exact C0.at0 rfl | exact ct.at rfl | exact ct.at0 rfl) ?_ | refine ldB_mk (by first | exact C0.at rfl | exact C0.at0 rfl | exact ct.at rfl | exact ct.at0 rfl) ?_ | refine ldL_mk (by first | exact C0.at rfl | exact C0.at0 rfl | exact ct.at rfl | exact ct.at0 rfl) ?_ | refine ldP_mk (by first | exact C0.at rfl | exact C0.at0 rfl | exact ct.at rfl | exact ct.at0 rfl) ?_ | refine ldS_mk (by first | exact C0.at rfl | exact C0.at0 rfl | exact ct.at rfl | exact ct.at0 rfl) ?_ | refine ldM_mk (by first | exact C0.at rfl | exact C0.at0 rfl | exact ct.at rfl | exact ct.at0 rfl) ?_)); exact rfl) ?_ | refine ifNS ?_ | refine And.intro (by decide) ?_)
  refine look1 R2 c.id (fun hn => absurd rfl (hn c hc)) fun d hd hdc => ⟨_, rfl, ?_⟩
  obtain rfl : d = c := by
    obtain ⟨i, hi, rfl⟩ := List.getElem_of_mem hd
    obtain ⟨j, hj, rfl⟩ := List.getElem_of_mem hc
    have hij : i = j := (List.getElem_inj (h₀ := by simpa using hi) (h₁ := by simpa using hj) R.ids).1 (by simp only [List.getElem_map]; exact hdc)
    subst hij; rfl
  clear hd hdc
  have cc : Cells h2 d.p d.vals := (R2.cts d hc).cells
  have C0 := (H.get 0 rfl).cells; repeat (first | (first | refine ldI_mk (by first | exact C0.at rfl | exact C0.at0 rfl | exact ct.at rfl | exact ct.at0 rfl | exact cc.at rfl | exact cc.at0 rfl) ?_ | refine ldB_mk (by first | exact C0.at rfl | exact C0.at0 rfl | exact ct.at rfl | exact ct.at0 rfl | exact cc.at rfl | exact cc.at0 rfl) ?_ | refine ldL_mk (by first | exact C0.at rfl | exact C0.at0 rfl | exact ct.at rfl | exact ct.at0 rfl | exact cc.at rfl | exact cc.at0 rfl) ?_ | refine ldP_mk (by first | exact C0.at rfl | exact C0.at0 rfl | exact ct.at rfl | exact ct.at0 rfl | exact cc.at rfl | exact cc.at0 rfl) ?_ | refine ldS_mk (by first | exact C0.at rfl | exact C0.at0 rfl | exact ct.at rfl | exact ct.at0 rfl | exact cc.at rfl | exact cc.at0 rfl) ?_ | refine ldM_mk (by first | exact C0.at rfl | exact C0.at0 rfl | exact ct.at rfl | exact ct.at0 rfl | exact cc.at rfl | exact cc.at0 rfl) ?_) | refine nn_mk ?_ | refine And.intro (by (repeat (first | refine ldI_mk (by first | exact C0.at rfl | exact C0.at0 rfl | exact ct.at rfl | exact ct.at0 rfl | exact cc.at rfl | exact cc.at0 rfl) ?_ | refine ldB_mk (by first | exact C0.at rfl | exact C0.at0 rfl | exact ct.at rfl | exact ct.at0 rfl | exact cc.at rfl | exact cc.at0 rfl) ?_ | refine ldL_mk (by first | exact C0.at rfl | exact C0.at0 rfl | exact ct.at rfl | exact ct.at0 rfl | exact cc.at rfl | exact cc.at0 rfl) ?_ | refine ldP_mk (by first | exact C0.at rfl | exact C0.at0 rfl | exact ct.at rfl | exact ct.at0 rfl | exact cc.at rfl | exact cc.at0 rfl) ?_ | refine ldS_mk (by first | exact C0.at rfl | exact C0.at0 rfl | exact ct.at rfl | exact ct.at0 rfl | exact cc.at rfl | exact cc.at0 rfl) ?_ | refine ldM_mk (by first | exact C0.at rfl | exact C0.at0 rfl | exact ct.at rfl | exact ct.at0 rfl | exact cc.at rfl | exact cc.at0 rfl) ?_)); exact rfl) ?_ | refine ifNS ?_ | refine And.intro (by decide) ?_)
  refine keyOf_c d.f fun h5 f5 => ⟨_, _, _, _, _, _, _, _, _, _, rfl, ?_⟩
  have H := H.call0 f5
  have R5 := R2.fr0 f5
  have ct := R5.own.cells
  have C0 := (H.get 0 rfl).cells; repeat (first | (first | refine ldI_mk (by first | exact C0.at rfl | exact C0.at0 rfl | exact ct.at rfl | exact ct.at0 rfl) ?_ | refine ldB_mk (by first | exact C0.at rfl | exact C0.at0 rfl | exact ct.at rfl | exact ct.at0 rfl) ?_ | refine ldL_mk (by first | exact C0.at rfl | exact C0.at0 rfl | exact ct.at rfl | exact ct.at0 rfl) ?_ | refine ldP_mk (by first | exact C0.at rfl | exact C0.at0 rfl | exact ct.at rfl | exact ct.at0 rfl) ?_ | refine ldS_mk (by first | exact C0.at rfl | exact C0.at0 rfl | exact ct.at rfl | exact ct.at0 rfl) ?_ | refine ldM_mk (by first | exact C0.at rfl | exact C0.at0 rfl | exact ct.at rfl | exact ct.at0 rfl) ?_) | refine nn_mk ?_ | refine And.intro (by (repeat (first | refine ldI_mk (by first | exact C0.at rfl | exact C0.at0 rfl | exact ct.at rfl | exact ct.at0 rfl) ?_ | refine ldB_mk (by first | exact C0.at rfl | exact C0.at0 rfl | exact ct.at rfl | exact ct.at0 rfl) ?_ | refine ldL_mk (by first | exact C0.at rfl | exact C0.at0 rfl | exact ct.at rfl | exact ct.at0 rfl) ?_ | refine ldP_mk (by first | exact C0.at rfl | exact C0.at0 rfl | exact ct.at rfl | exact ct.at0 rfl) ?_ | refine ldS_mk (by first | exact C0.at rfl | exact C0.at0 rfl | exact ct.at rfl | exact ct.at0 rfl) ?_ | refine ldM_mk (by first | exact C0.at rfl | exact C0.at0 rfl | exact ct.at rfl | exact ct.at0 rfl) ?_)); exact rfl) ?_ | refine ifNS ?_ | refine And.intro (by decide) ?_)
  refine keyOf_c f fun h6 f6 => ⟨_, _, _, _, _, _, _, _, _, _, rfl, ?_⟩
  rw [hp, if_neg (by simp)]
  have H := H.call0 f6
  have R6 := R5.fr0 f6
  have ct := R6.own.cells
  have one : ∀ {h : Heap} {K : Value → Heap → Prop}, TabF ok h t r1 r2 st S → K (.pointer (some d.p)) h → lookV Try.prog T_map_int_p_flowtable_flow (.map (some r1)) (.int .i64 d.id) false h K := fun R hk => by
    refine look_mk idT Try.underlying56 zeroP R.m1 d.id false ?_
    rw [R.get hc]; exact hk
  have C0 := (H.get 0 rfl).cells; repeat (first | (first | refine ldI_mk (by first | exact C0.at rfl | exact C0.at0 rfl | exact ct.at rfl | exact ct.at0 rfl) ?_ | refine ldB_mk (by first | exact C0.at rfl | exact C0.at0 rfl | exact ct.at rfl | exact ct.at0 rfl) ?_ | refine ldL_mk (by first | exact C0.at rfl | exact C0.at0 rfl | exact ct.at rfl | exact ct.at0 rfl) ?_ | refine ldP_mk (by first | exact C0.at rfl | exact C0.at0 rfl | exact ct.at rfl | exact ct.at0 rfl) ?_ | refine ldS_mk (by first | exact C0.at rfl | exact C0.at0 rfl | exact ct.at rfl | exact ct.at0 rfl) ?_ | refine ldM_mk (by first | exact C0.at rfl | exact C0.at0 rfl | exact ct.at rfl | exact ct.at0 rfl) ?_) | refine nn_mk ?_ | refine And.intro (by (repeat (first | refine ldI_mk (by first | exact C0.at rfl | exact C0.at0 rfl | exact ct.at rfl | exact ct.at0 rfl) ?_ | refine ldB_mk (by first | exact C0.at rfl | exact C0.at0 rfl | exact ct.at rfl | exact ct.at0 rfl) ?_ | refine ldL_mk (by first | exact C0.at rfl | exact C0.at0 rfl | exact ct.at rfl | exact ct.at0 rfl) ?_ | refine ldP_mk (by first | exact C0.at rfl | exact C0.at0 rfl | exact ct.at rfl | exact ct.at0 rfl) ?_ | refine ldS_mk (by first | exact C0.at rfl | exact C0.at0 rfl | exact ct.at rfl | exact ct.at0 rfl) ?_ | refine ldM_mk (by first | exact C0.at rfl | exact C0.at0 rfl | exact ct.at rfl | exact ct.at0 rfl) ?_)); exact rfl) ?_ | refine ifNS ?_ | refine And.intro (by decide) ?_)
  refine one R6 ⟨_, rfl, ?_⟩
  have cc : Cells h6 d.p d.vals := (R6.cts d hc).cells
  have C0 := (H.get 0 rfl).cells; repeat (first | (first | refine ldI_mk (by first | exact C0.at rfl | exact C0.at0 rfl | exact ct.at rfl | exact ct.at0 rfl | exact cc.at rfl | exact cc.at0 rfl) ?_ | refine ldB_mk (by first | exact C0.at rfl | exact C0.at0 rfl | exact ct.at rfl | exact ct.at0 rfl | exact cc.at rfl | exact cc.at0 rfl) ?_ | refine ldL_mk (by first | exact C0.at rfl | exact C0.at0 rfl | exact ct.at rfl | exact ct.at0 rfl | exact cc.at rfl | exact cc.at0 rfl) ?_ | refine ldP_mk (by first | exact C0.at rfl | exact C0.at0 rfl | exact ct.at rfl | exact ct.at0 rfl | exact cc.at rfl | exact cc.at0 rfl) ?_ | refine ldS_mk (by first | exact C0.at rfl | exact C0.at0 rfl | exact ct.at rfl | exact ct.at0 rfl | exact cc.at rfl | exact cc.at0 rfl) ?_ | refine ldM_mk (by first | exact C0.at rfl | exact C0.at0 rfl | exact ct.at rfl | exact ct.at0 rfl | exact cc.at rfl | exact cc.at0 rfl) ?_) | refine nn_mk ?_ | refine And.intro (by (repeat (first | refine ldI_mk (by first | exact C0.at rfl | exact C0.at0 rfl | exact ct.at rfl | exact ct.at0 rfl | exact cc.at rfl | exact cc.at0 rfl) ?_ | refine ldB_mk (by first | exact C0.at rfl | exact C0.at0 rfl | exact ct.at rfl | exact ct.at0 rfl | exact cc.at rfl | exact cc.at0 rfl) ?_ | refine ldL_mk (by first | exact C0.at rfl | exact C0.at0 rfl | exact ct.at rfl | exact ct.at0 rfl | exact cc.at rfl | exact cc.at0 rfl) ?_ | refine ldP_mk (by first | exact C0.at rfl | exact C0.at0 rfl | exact ct.at rfl | exact ct.at0 rfl | exact cc.at rfl | exact cc.at0 rfl) ?_ | refine ldS_mk (by first | exact C0.at rfl | exact C0.at0 rfl | exact ct.at rfl | exact ct.at0 rfl | exact cc.at rfl | exact cc.at0 rfl) ?_ | refine ldM_mk (by first | exact C0.at rfl | exact C0.at0 rfl | exact ct.at rfl | exact ct.at0 rfl | exact cc.at rfl | exact cc.at0 rfl) ?_)); exact rfl) ?_ | refine ifNS ?_ | refine And.intro (by decide) ?_)
  refine ifFl (x := d.f) (y := f) (fun e => ?_) fun e => ?_
  · rw [if_pos (show d.ent.f = f from e)] at hk; exact hk h6 H.fr0
  rw [if_neg (show ¬ d.ent.f = f from e)] at hk
  have er : d.f = f.rev := by
    rcases pair_inj hp.symm with h | h
    · exact absurd h e
    · exact h
  have C0 := (H.get 0 rfl).cells; repeat (first | (first | refine ldI_mk (by first | exact C0.at rfl | exact C0.at0 rfl | exact ct.at rfl | exact ct.at0 rfl | exact cc.at rfl | exact cc.at0 rfl) ?_ | refine ldB_mk (by first | exact C0.at rfl | exact C0.at0 rfl | exact ct.at rfl | exact ct.at0 rfl | exact cc.at rfl | exact cc.at0 rfl) ?_ | refine ldL_mk (by first | exact C0.at rfl | exact C0.at0 rfl | exact ct.at rfl | exact ct.at0 rfl | exact cc.at rfl | exact cc.at0 rfl) ?_ | refine ldP_mk (by first | exact C0.at rfl | exact C0.at0 rfl | exact ct.at rfl | exact ct.at0 rfl | exact cc.at rfl | exact cc.at0 rfl) ?_ | refine ldS_mk (by first | exact C0.at rfl | exact C0.at0 rfl | exact ct.at rfl | exact ct.at0 rfl | exact cc.at rfl | exact cc.at0 rfl) ?_ | refine ldM_mk (by first | exact C0.at rfl | exact C0.at0 rfl | exact ct.at rfl | exact ct.at0 rfl | exact cc.at rfl | exact cc.at0 rfl) ?_) | refine nn_mk ?_ | refine And.intro (by (repeat (first | refine ldI_mk (by first | exact C0.at rfl | exact C0.at0 rfl | exact ct.at rfl | exact ct.at0 rfl | exact cc.at rfl | exact cc.at0 rfl) ?_ | refine ldB_mk (by first | exact C0.at rfl | exact C0.at0 rfl | exact ct.at rfl | exact ct.at0 rfl | exact cc.at rfl | exact cc.at0 rfl) ?_ | refine ldL_mk (by first | exact C0.at rfl | exact C0.at0 rfl | exact ct.at rfl | exact ct.at0 rfl | exact cc.at rfl | exact cc.at0 rfl) ?_ | refine ldP_mk (by first | exact C0.at rfl | exact C0.at0 rfl | exact ct.at rfl | exact ct.at0 rfl | exact cc.at rfl | exact cc.at0 rfl) ?_ | refine ldS_mk (by first | exact C0.at rfl | exact C0.at0 rfl | exact ct.at rfl | exact ct.at0 rfl | exact cc.at rfl | exact cc.at0 rfl) ?_ | refine ldM_mk (by first | exact C0.at rfl | exact C0.at0 rfl | exact ct.at rfl | exact ct.at0 rfl | exact cc.at rfl | exact cc.at0 rfl) ?_)); exact rfl) ?_ | refine ifNS ?_ | refine And.intro (by decide) ?_)
  refine ⟨?_, ?_⟩
  · refine one R6 ⟨_, rfl, ?_⟩
    have C0 := (H.get 0 rfl).cells; repeat (first | (first | refine ldI_mk (by first | exact C0.at rfl | exact C0.at0 rfl | exact ct.at rfl | exact ct.at0 rfl | exact cc.at rfl | exact cc.at0 rfl) ?_ | refine ldB_mk (by first | exact C0.at rfl | exact C0.at0 rfl | exact ct.at rfl | exact ct.at0 rfl | exact cc.at rfl | exact cc.at0 rfl) ?_ | refine ldL_mk (by first | exact C0.at rfl | exact C0.at0 rfl | exact ct.at rfl | exact ct.at0 rfl | exact cc.at rfl | exact cc.at0 rfl) ?_ | refine ldP_mk (by first | exact C0.at rfl | exact C0.at0 rfl | exact ct.at rfl | exact ct.at0 rfl | exact cc.at rfl | exact cc.at0 rfl) ?_ | refine ldS_mk (by first | exact C0.at rfl | exact C0.at0 rfl | exact ct.at rfl | exact ct.at0 rfl | exact cc.at rfl | exact cc.at0 rfl) ?_ | refine ldM_mk (by first | exact C0.at rfl | exact C0.at0 rfl | exact ct.at rfl | exact ct.at0 rfl | exact cc.at rfl | exact cc.at0 rfl) ?_) | refine nn_mk ?_ | refine And.intro (by (repeat (first | refine ldI_mk (by first | exact C0.at rfl | exact C0.at0 rfl | exact ct.at rfl | exact ct.at0 rfl | exact cc.at rfl | exact cc.at0 rfl) ?_ | refine ldB_mk (by first | exact C0.at rfl | exact C0.at0 rfl | exact ct.at rfl | exact ct.at0 rfl | exact cc.at rfl | exact cc.at0 rfl) ?_ | refine ldL_mk (by first | exact C0.at rfl | exact C0.at0 rfl | exact ct.at rfl | exact ct.at0 rfl | exact cc.at rfl | exact cc.at0 rfl) ?_ | refine ldP_mk (by first | exact C0.at rfl | exact C0.at0 rfl | exact ct.at rfl | exact ct.at0 rfl | exact cc.at rfl | exact cc.at0 rfl) ?_ | refine ldS_mk (by first | exact C0.at rfl | exact C0.at0 rfl | exact ct.at rfl | exact ct.at0 rfl | exact cc.at rfl | exact cc.at0 rfl) ?_ | refine ldM_mk (by first | exact C0.at rfl | exact C0.at0 rfl | exact ct.at rfl | exact ct.at0 rfl | exact cc.at rfl | exact cc.at0 rfl) ?_)); exact rfl) ?_ | refine ifNS ?_ | refine And.intro (by decide) ?_)
    refine reverse_c f fun h7 f7 => ⟨_, _, _, _, _, _, _, _, _, rfl, ?_⟩
    have H := H.call0 f7
    have R7 := R6.fr0 f7
    have ct := R7.own.cells
    have cc : Cells h7 d.p d.vals := (R7.cts d hc).cells
    have C0 := (H.get 0 rfl).cells; repeat (first | (first | refine ldI_mk (by first | exact C0.at rfl | exact C0.at0 rfl | exact ct.at rfl | exact ct.at0 rfl | exact cc.at rfl | exact cc.at0 rfl) ?_ | refine ldB_mk (by first | exact C0.at rfl | exact C0.at0 rfl | exact ct.at rfl | exact ct.at0 rfl | exact cc.at rfl | exact cc.at0 rfl) ?_ | refine ldL_mk (by first | exact C0.at rfl | exact C0.at0 rfl | exact ct.at rfl | exact ct.at0 rfl | exact cc.at rfl | exact cc.at0 rfl) ?_ | refine ldP_mk (by first | exact C0.at rfl | exact C0.at0 rfl | exact ct.at rfl | exact ct.at0 rfl | exact cc.at rfl | exact cc.at0 rfl) ?_ | refine ldS_mk (by first | exact C0.at rfl | exact C0.at0 rfl | exact ct.at rfl | exact ct.at0 rfl | exact cc.at rfl | exact cc.at0 rfl) ?_ | refine ldM_mk (by first | exact C0.at rfl | exact C0.at0 rfl | exact ct.at rfl | exact ct.at0 rfl | exact cc.at rfl | exact cc.at0 rfl) ?_) | refine nn_mk ?_ | refine And.intro (by (repeat (first | refine ldI_mk (by first | exact C0.at rfl | exact C0.at0 rfl | exact ct.at rfl | exact ct.at0 rfl | exact cc.at rfl | exact cc.at0 rfl) ?_ | refine ldB_mk (by first | exact C0.at rfl | exact C0.at0 rfl | exact ct.at rfl | exact ct.at0 rfl | exact cc.at rfl | exact cc.at0 rfl) ?_ | refine ldL_mk (by first | exact C0.at rfl | exact C0.at0 rfl | exact ct.at rfl | exact ct.at0 rfl | exact cc.at rfl | exact cc.at0 rfl) ?_ | refine ldP_mk (by first | exact C0.at rfl | exact C0.at0 rfl | exact ct.at rfl | exact ct.at0 rfl | exact cc.at rfl | exact cc.at0 rfl) ?_ | refine ldS_mk (by first | exact C0.at rfl | exact C0.at0 rfl | exact ct.at rfl | exact ct.at0 rfl | exact cc.at rfl | exact cc.at0 rfl) ?_ | refine ldM_mk (by first | exact C0.at rfl | exact C0.at0 rfl | exact ct.at rfl | exact ct.at0 rfl | exact cc.at rfl | exact cc.at0 rfl) ?_)); exact rfl) ?_ | refine ifNS ?_ | refine And.intro (by decide) ?_)
    refine ifFl (x := d.f) (y := f.rev) (fun _ => hk h7 H.fr0) fun h => absurd er h
  · refine reverse_c f fun h7 f7 => ⟨_, _, _, _, _, _, _, _, _, rfl, ?_⟩
    have H := H.call0 f7
    have R7 := R6.fr0 f7
    have ct := R7.own.cells
    have C0 := (H.get 0 rfl).cells; repeat (first | (first | refine ldI_mk (by first | exact C0.at rfl | exact C0.at0 rfl | exact ct.at rfl | exact ct.at0 rfl) ?_ | refine ldB_mk (by first | exact C0.at rfl | exact C0.at0 rfl | exact ct.at rfl | exact ct.at0 rfl) ?_ | refine ldL_mk (by first | exact C0.at rfl | exact C0.at0 rfl | exact ct.at rfl | exact ct.at0 rfl) ?_ | refine ldP_mk (by first | exact C0.at rfl | exact C0.at0 rfl | exact ct.at rfl | exact ct.at0 rfl) ?_ | refine ldS_mk (by first | exact C0.at rfl | exact C0.at0 rfl | exact ct.at rfl | exact ct.at0 rfl) ?_ | refine ldM_mk (by first | exact C0.at rfl | exact C0.at0 rfl | exact ct.at rfl | exact ct.at0 rfl) ?_) | refine nn_mk ?_ | refine And.intro (by (repeat (first | refine ldI_mk (by first | exact C0.at rfl | exact C0.at0 rfl | exact ct.at rfl | exact ct.at0 rfl) ?_ | refine ldB_mk (by first | exact C0.at rfl | exact C0.at0 rfl | exact ct.at rfl | exact ct.at0 rfl) ?_ | refine ldL_mk (by first | exact C0.at rfl | exact C0.at0 rfl | exact ct.at rfl | exact ct.at0 rfl) ?_ | refine ldP_mk (by first | exact C0.at rfl | exact C0.at0 rfl | exact ct.at rfl | exact ct.at0 rfl) ?_ | refine ldS_mk (by first | exact C0.at rfl | exact C0.at0 rfl | exact ct.at rfl | exact ct.at0 rfl) ?_ | refine ldM_mk (by first | exact C0.at rfl | exact C0.at0 rfl | exact ct.at rfl | exact ct.at0 rfl) ?_)); exact rfl) ?_ | refine ifNS ?_ | refine And.intro (by decide) ?_)
    refine one R7 ⟨_, rfl, ?_⟩
    have cc : Cells h7 d.p d.vals := (R7.cts d hc).cells
    have C0 := (H.get 0 rfl).cells; repeat (first | (first | refine ldI_mk (by first | exact C0.at rfl | exact C0.at0 rfl | exact ct.at rfl | exact ct.at0 rfl | exact cc.at rfl | exact cc.at0 rfl) ?_ | refine ldB_mk (by first | exact C0.at rfl | exact C0.at0 rfl | exact ct.at rfl | exact ct.at0 rfl | exact cc.at rfl | exact cc.at0 rfl) ?_ | refine ldL_mk (by first | exact C0.at rfl | exact C0.at0 rfl | exact ct.at rfl | exact ct.at0 rfl | exact cc.at rfl | exact cc.at0 rfl) ?_ | refine ldP_mk (by first | exact C0.at rfl | exact C0.at0 rfl | exact ct.at rfl | exact ct.at0 rfl | exact cc.at rfl | exact cc.at0 rfl) ?_ | refine ldS_mk (by first | exact C0.at rfl | exact C0.at0 rfl | exact ct.at rfl | exact ct.at0 rfl | exact cc.at rfl | exact cc.at0 rfl) ?_ | refine ldM_mk (by first | exact C0.at rfl | exact C0.at0 rfl | exact ct.at rfl | exact ct.at0 rfl | exact cc.at rfl | exact cc.at0 rfl) ?_) | refine nn_mk ?_ | refine And.intro (by (repeat (first | refine ldI_mk (by first | exact C0.at rfl | exact C0.at0 rfl | exact ct.at rfl | exact ct.at0 rfl | exact cc.at rfl | exact cc.at0 rfl) ?_ | refine ldB_mk (by first | exact C0.at rfl | exact C0.at0 rfl | exact ct.at rfl | exact ct.at0 rfl | exact cc.at rfl | exact cc.at0 rfl) ?_ | refine ldL_mk (by first | exact C0.at rfl | exact C0.at0 rfl | exact ct.at rfl | exact ct.at0 rfl | exact cc.at rfl | exact cc.at0 rfl) ?_ | refine ldP_mk (by first | exact C0.at rfl | exact C0.at0 rfl | exact ct.at rfl | exact ct.at0 rfl | exact cc.at rfl | exact cc.at0 rfl) ?_ | refine ldS_mk (by first | exact C0.at rfl | exact C0.at0 rfl | exact ct.at rfl | exact ct.at0 rfl | exact cc.at rfl | exact cc.at0 rfl) ?_ | refine ldM_mk (by first | exact C0.at rfl | exact C0.at0 rfl | exact ct.at rfl | exact ct.at0 rfl | exact cc.at rfl | exact cc.at0 rfl) ?_)); exact rfl) ?_ | refine ifNS ?_ | refine And.intro (by decide) ?_)
    refine ifFl (x := d.f) (y := f.rev) (fun _ => hk h7 H.fr0) fun h => absurd er h
theorem keyS_some {L : List FEn} (nd : (L.map (·.id)).Nodup) {e : FEn} (he : e ∈ L) : keyS L e.id = (e.f, true) := by
  unfold keyS
  cases h : L.find? (fun d => decide (d.id = e.id)) with
  | none => rw [List.find?_eq_none] at h; exact absurd (decide_eq_true rfl) (h e he)
  | some d =>
    have hd := List.mem_of_find?_eq_some h
    have hdi : d.id = e.id := by have := List.find?_some h; exact of_decide_eq_true this
    rw [ent_inj nd hd he hdi]
theorem keyS_none {L : List FEn} {id : Int} (h : ∀ e ∈ L, e.id ≠ id) : keyS L id = (zeroF, false) := by
  unfold keyS
  have : L.find? (fun d => decide (d.id = id)) = none := by
    rw [List.find?_eq_none]; intro e he hd; exact h e he (of_decide_eq_true hd)
  rw [this]
theorem key_c [Gh] {ok : Nat → Prop} {h : Heap} {t : Addr} {r1 r2 : Nat} {st : St} {S : List PE} (R : TabF ok h t r1 r2 st S) (w : Wf st) (id : Int) {Q : Value → Heap → Prop}
    (hk : ∀ h', Fr (fun _ => False) h h' → Q (.tuple #[.agg (keyS st.L id).1.vals.toArray, .bool (keyS st.L id).2]) h') :
    CallT Try.prog fn_flowtable_Table_Key #[.pointer (some t), .int .i64 id] h Q := by
  apply flowtable_Table_Key_s
  unfold flowtable_Table_Key_v
  refine al_H (Hs.pure h) fun t4 h1 H l4 => ?_
  have R1 := R.fr0 H.fr0
  have ct := R1.own.cells
  have C0 := (H.get 0 rfl).cells; repeat (first | (first | refine ldI_mk (by first | exact C0.at rfl | exact C0.at0 rfl | exact ct.at rfl | exact ct.at0 rfl) ?_ | refine ldB_mk (by first | exact C0.at rfl | exact C0.at0 rfl | exact ct.at rfl | exact ct.at0 rfl) ?_ | refine ldL_mk (by first | exact C0.at rfl | exact C0.at0 rfl | exact ct.at rfl | exact ct.at0 rfl) ?_ | refine ldP_mk (by first | exact C0.at rfl | exact C0.at0 rfl | exact ct.at rfl | exact ct.at0 rfl) ?_ | refine ldS_mk (by first | exact C0.at rfl | exact C0.at0 rfl | exact ct.at rfl | exact ct.at0 rfl) ?_ | refine ldM_mk (by first | exact C0.at rfl | exact C0.at0 rfl | exact ct.at rfl | exact ct.at0 rfl) ?_) | refine nn_mk ?_ | refine And.intro (by (repeat (first | refine ldI_mk (by first | exact C0.at rfl | exact C0.at0 rfl | exact ct.at rfl | exact ct.at0 rfl) ?_ | refine ldB_mk (by first | exact C0.at rfl | exact C0.at0 rfl | exact ct.at rfl | exact ct.at0 rfl) ?_ | refine ldL_mk (by first | exact C0.at rfl | exact C0.at0 rfl | exact ct.at rfl | exact ct.at0 rfl) ?_ | refine ldP_mk (by first | exact C0.at rfl | exact C0.at0 rfl | exact ct.at rfl | exact ct.at0 rfl) ?_ | refine ldS_mk (by first | exact C0.at rfl | exact C0.at0 rfl | exact ct.at rfl | exact ct.at0 rfl) ?_ | refine ldM_mk (by first | exact C0.at rfl | exact C0.at0 rfl | exact ct.at rfl | exact ct.at0 rfl) ?_)); exact rfl) ?_ | refine ifNS ?_ | refine And.intro (by decide) ?_)
  refine look1 R1 id (fun hn => ⟨_, rfl, ?_⟩) fun c hc he => ⟨_, rfl, ?_⟩
  · refine ifNN ?_
    unfold flowtable_Table_Key_b1
    refine stN_H H 0 rfl (by rfl) (by rfl) fun h3 H => ?_
    have C0 := (H.get 0 rfl).cells; repeat (first | (first | refine ldI_mk (by first | exact C0.at rfl | exact C0.at0 rfl) ?_ | refine ldB_mk (by first | exact C0.at rfl | exact C0.at0 rfl) ?_ | refine ldL_mk (by first | exact C0.at rfl | exact C0.at0 rfl) ?_ | refine ldP_mk (by first | exact C0.at rfl | exact C0.at0 rfl) ?_ | refine ldS_mk (by first | exact C0.at rfl | exact C0.at0 rfl) ?_ | refine ldM_mk (by first | exact C0.at rfl | exact C0.at0 rfl) ?_) | refine nn_mk ?_ | refine And.intro (by (repeat (first | refine ldI_mk (by first | exact C0.at rfl | exact C0.at0 rfl) ?_ | refine ldB_mk (by first | exact C0.at rfl | exact C0.at0 rfl) ?_ | refine ldL_mk (by first | exact C0.at rfl | exact C0.at0 rfl) ?_ | refine ldP_mk (by first | exact C0.at rfl | exact C0.at0 rfl) ?_ | refine ldS_mk (by first | exact C0.at rfl | exact C0.at0 rfl) ?_ | refine ldM_mk (by first | exact C0.at rfl | exact C0.at0 rfl) ?_)); exact rfl) ?_ | refine ifNS ?_ | refine And.intro (by decide) ?_)
    rw [keyS_none (fun e he => by obtain ⟨c, hc, rfl⟩ := R.mem.1 he; exact hn c hc)] at hk
    exact hk h3 H.fr0
  · subst he
    refine ifNS ?_
    have C0 := (H.get 0 rfl).cells; repeat (first | (first | refine ldI_mk (by first | exact C0.at rfl | exact C0.at0 rfl | exact ct.at rfl | exact ct.at0 rfl) ?_ | refine ldB_mk (by first | exact C0.at rfl | exact C0.at0 rfl | exact ct.at rfl | exact ct.at0 rfl) ?_ | refine ldL_mk (by first | exact C0.at rfl | exact C0.at0 rfl | exact ct.at rfl | exact ct.at0 rfl) ?_ | refine ldP_mk (by first | exact C0.at rfl | exact C0.at0 rfl | exact ct.at rfl | exact ct.at0 rfl) ?_ | refine ldS_mk (by first | exact C0.at rfl | exact C0.at0 rfl | exact ct.at rfl | exact ct.at0 rfl) ?_ | refine ldM_mk (by first | exact C0.at rfl | exact C0.at0 rfl | exact ct.at rfl | exact ct.at0 rfl) ?_) | refine nn_mk ?_ | refine And.intro (by (repeat (first | refine ldI_mk (by first | exact C0.at rfl | exact C0.at0 rfl | exact ct.at rfl | exact ct.at0 rfl) ?_ | refine ldB_mk (by first | exact C0.at rfl | exact C0.at0 rfl | exact ct.at rfl | exact ct.at0 rfl) ?_ | refine ldL_mk (by first | exact C0.at rfl | exact C0.at0 rfl | exact ct.at rfl | exact ct.at0 rfl) ?_ | refine ldP_mk (by first | exact C0.at rfl | exact C0.at0 rfl | exact ct.at rfl | exact ct.at0 rfl) ?_ | refine ldS_mk (by first | exact C0.at rfl | exact C0.at0 rfl | exact ct.at rfl | exact ct.at0 rfl) ?_ | refine ldM_mk (by first | exact C0.at rfl | exact C0.at0 rfl | exact ct.at rfl | exact ct.at0 rfl) ?_)); exact rfl) ?_ | refine ifNS ?_ | refine And.intro (by decide) ?_)
    refine look_mk idT Try.underlying56 zeroP R1.m1 c.id false ?_
    rw [R1.get hc]
    refine ⟨_, rfl, ?_⟩
    have cc : Cells h1 c.p c.vals := (R1.cts c hc).cells
    have C0 := (H.get 0 rfl).cells; repeat (first | (first | refine ldI_mk (by first | exact C0.at rfl | exact C0.at0 rfl | exact ct.at rfl | exact ct.at0 rfl | exact cc.at rfl | exact cc.at0 rfl) ?_ | refine ldB_mk (by first | exact C0.at rfl | exact C0.at0 rfl | exact ct.at rfl | exact ct.at0 rfl | exact cc.at rfl | exact cc.at0 rfl) ?_ | refine ldL_mk (by first | exact C0.at rfl | exact C0.at0 rfl | exact ct.at rfl | exact ct.at0 rfl | exact cc.at rfl | exact cc.at0 rfl) ?_ | refine ldP_mk (by first | exact C0.at rfl | exact C0.at0 rfl | exact ct.at rfl | exact ct.at0 rfl | exact cc.at rfl | exact cc.at0 rfl) ?_ | refine ldS_mk (by first | exact C0.at rfl | exact C0.at0 rfl | exact ct.at rfl | exact ct.at0 rfl | exact cc.at rfl | exact cc.at0 rfl) ?_ | refine ldM_mk (by first | exact C0.at rfl | exact C0.at0 rfl | exact ct.at rfl | exact ct.at0 rfl | exact cc.at rfl | exact cc.at0 rfl) ?_) | refine nn_mk ?_ | refine And.intro (by (repeat (first | refine ldI_mk (by first | exact C0.at rfl | exact C0.at0 rfl | exact ct.at rfl | exact ct.at0 rfl | exact cc.at rfl | exact cc.at0 rfl) ?_ | refine ldB_mk (by first | exact C0.at rfl | exact C0.at0 rfl | exact ct.at rfl | exact ct.at0 rfl | exact cc.at rfl | exact cc.at0 rfl) ?_ | refine ldL_mk (by first | exact C0.at rfl | exact C0.at0 rfl | exact ct.at rfl | exact ct.at0 rfl | exact cc.at rfl | exact cc.at0 rfl) ?_ | refine ldP_mk (by first | exact C0.at rfl | exact C0.at0 rfl | exact ct.at rfl | exact ct.at0 rfl | exact cc.at rfl | exact cc.at0 rfl) ?_ | refine ldS_mk (by first | exact C0.at rfl | exact C0.at0 rfl | exact ct.at rfl | exact ct.at0 rfl | exact cc.at rfl | exact cc.at0 rfl) ?_ | refine ldM_mk (by first | exact C0.at rfl | exact C0.at0 rfl | exact ct.at rfl | exact ct.at0 rfl | exact cc.at rfl | exact cc.at0 rfl) ?_)); exact rfl) ?_ | refine ifNS ?_ | refine And.intro (by decide) ?_)
    refine stN_H H 0 rfl (by rfl) (by rfl) fun h3 H => ?_
    have C0 := (H.get 0 rfl).cells; repeat (first | (first | refine ldI_mk (by first | exact C0.at rfl | exact C0.at0 rfl) ?_ | refine ldB_mk (by first | exact C0.at rfl | exact C0.at0 rfl) ?_ | refine ldL_mk (by first | exact C0.at rfl | exact C0.at0 rfl) ?_ | refine ldP_mk (by first | exact C0.at rfl | exact C0.at0 rfl) ?_ | refine ldS_mk (by first | exact C0.at rfl | exact C0.at0 rfl) ?_ | refine ldM_mk (by first | exact C0.at rfl | exact C0.at0 rfl) ?_) | refine nn_mk ?_ | refine And.intro (by (repeat (first | refine ldI_mk (by first | exact C0.at rfl | exact C0.at0 rfl) ?_ | refine ldB_mk (by first | exact C0.at rfl | exact C0.at0 rfl) ?_ | refine ldL_mk (by first | exact C0.at rfl | exact C0.at0 rfl) ?_ | refine ldP_mk (by first | exact C0.at rfl | exact C0.at0 rfl) ?_ | refine ldS_mk (by first | exact C0.at rfl | exact C0.at0 rfl) ?_ | refine ldM_mk (by first | exact C0.at rfl | exact C0.at0 rfl) ?_)); exact rfl) ?_ | refine ifNS ?_ | refine And.intro (by decide) ?_)
    rw [show c.id = c.ent.id from rfl, keyS_some w.nd (R.mem.2 ⟨c, hc, rfl⟩)] at hk
    exact hk h3 H.fr0
theorem hasId_iff {L : List FEn} {id : Int} : hasId L id = true ↔ ∃ e ∈ L, e.id = id := by
  unfold hasId; rw [List.any_eq_true]; simp
theorem touch_c [Gh] {ok : Nat → Prop} {h : Heap} {t : Addr} {r1 r2 : Nat} {st : St} {S : List PE} (R : TabF ok h t r1 r2 st S) (at_ id : Int) {Q : Value → Heap → Prop}
    (hk : ∀ h' S', Fr ok h h' → TabF ok h' t r1 r2 (touchS st at_ id).2 S' → Q (.int .i64 (touchS st at_ id).1) h') :
    CallT Try.prog fn_flowtable_Table_Touch #[.pointer (some t), .int .i64 at_, .int .i64 id] h Q := by
  apply flowtable_Table_Touch_s
  unfold flowtable_Table_Touch_v
  refine ifNS ?_
  unfold touchS at hk
  refine late_c R at_ ⟨_, rfl, ?_⟩
  refine ifB (fun e => ?_) fun e => ?_
  · rw [if_pos e] at hk; exact hk h S (Fr.refl _ _) R
  rw [if_neg (by simp [e])] at hk
  have ct := R.own.cells
  repeat (first | (first | refine ldI_mk (by first | exact ct.at rfl | exact ct.at0 rfl) ?_ | refine ldB_mk (by first | exact ct.at rfl | exact ct.at0 rfl) ?_ | refine ldL_mk (by first | exact ct.at rfl | exact ct.at0 rfl) ?_ | refine ldP_mk (by first | exact ct.at rfl | exact ct.at0 rfl) ?_ | refine ldS_mk (by first | exact ct.at rfl | exact ct.at0 rfl) ?_ | refine ldM_mk (by first | exact ct.at rfl | exact ct.at0 rfl) ?_) | refine nn_mk ?_ | refine And.intro (by (repeat (first | refine ldI_mk (by first | exact ct.at rfl | exact ct.at0 rfl) ?_ | refine ldB_mk (by first | exact ct.at rfl | exact ct.at0 rfl) ?_ | refine ldL_mk (by first | exact ct.at rfl | exact ct.at0 rfl) ?_ | refine ldP_mk (by first | exact ct.at rfl | exact ct.at0 rfl) ?_ | refine ldS_mk (by first | exact ct.at rfl | exact ct.at0 rfl) ?_ | refine ldM_mk (by first | exact ct.at rfl | exact ct.at0 rfl) ?_)); exact rfl) ?_ | refine ifNS ?_ | refine And.intro (by decide) ?_)
  refine look1 R id (fun hn => ⟨_, rfl, ?_⟩) fun c hc he => ⟨_, rfl, ?_⟩
  · refine ifNN ?_
    rw [if_neg (by rw [hasId_iff]; rintro ⟨e, he, hi⟩; obtain ⟨c, hc, rfl⟩ := R.mem.1 he; exact hn c hc hi)] at hk
    exact hk h S (Fr.refl _ _) R
  · subst he
    refine ifNS ?_
    rw [if_pos (by rw [hasId_iff]; exact ⟨c.ent, R.mem.2 ⟨c, hc, rfl⟩, rfl⟩)] at hk
    repeat (first | (first | refine ldI_mk (by first | exact ct.at rfl | exact ct.at0 rfl) ?_ | refine ldB_mk (by first | exact ct.at rfl | exact ct.at0 rfl) ?_ | refine ldL_mk (by first | exact ct.at rfl | exact ct.at0 rfl) ?_ | refine ldP_mk (by first | exact ct.at rfl | exact ct.at0 rfl) ?_ | refine ldS_mk (by first | exact ct.at rfl | exact ct.at0 rfl) ?_ | refine ldM_mk (by first | exact ct.at rfl | exact ct.at0 rfl) ?_) | refine nn_mk ?_ | refine And.intro (by (repeat (first | refine ldI_mk (by first | exact ct.at rfl | exact ct.at0 rfl) ?_ | refine ldB_mk (by first | exact ct.at rfl | exact ct.at0 rfl) ?_ | refine ldL_mk (by first | exact ct.at rfl | exact ct.at0 rfl) ?_ | refine ldP_mk (by first | exact ct.at rfl | exact ct.at0 rfl) ?_ | refine ldS_mk (by first | exact ct.at rfl | exact ct.at0 rfl) ?_ | refine ldM_mk (by first | exact ct.at rfl | exact ct.at0 rfl) ?_)); exact rfl) ?_ | refine ifNS ?_ | refine And.intro (by decide) ?_)
    refine look_mk idT Try.underlying56 zeroP R.m1 c.id false ?_
    rw [R.get hc]
    refine ⟨_, rfl, nn_mk ?_⟩
    refine st1_own R.own 2 (by simp) rfl fun h1 f1 s1 o1 => nn_mk ?_
    have oc := (R.cts c hc).fr f1 (R.cp c hc).1
    refine st1_own oc 10 (by simp [PE.vals]) rfl fun h2 f2 s2 o2 => ?_
    obtain ⟨A, B, rfl⟩ := List.append_of_mem hc
    have cp := R.cp c hc
    have nd := R.nd
    have ids := R.ids
    rw [List.map_append, List.map_cons, List.nodup_append, List.nodup_cons] at nd ids
    refine hk h2 (A ++ { c with last := at_ } :: B) ((f1.mono fun b hb => hb ▸ R.okt).trans (f2.mono fun b hb => hb ▸ cp.2.2.2)) ⟨?_, ?_, ?_, ?_, R.r12, R.tr, R.okt, R.okr, ?_, ?_, ?_⟩
    · exact o1.fr f2 fun h => cp.1 h.symm
    · have := (R.m1.fr f1 (fun h => R.tr.1 h)).fr f2 (fun h => cp.2.1 h.symm)
      have e : ((A ++ { c with last := at_ } :: B).map fun c => (c.id, Value.pointer (some c.p))) = (A ++ c :: B).map fun c => (c.id, Value.pointer (some c.p)) := by simp
      rw [e]; exact this
    · have := (R.m2.fr f1 (fun h => R.tr.2 h)).fr f2 (fun h => cp.2.2.1 h.symm)
      have e : ((A ++ { c with last := at_ } :: B).map fun c => (pairL c.f, Value.int .i64 c.id)) = (A ++ c :: B).map fun c => (pairL c.f, Value.int .i64 c.id) := by simp
      rw [e]; exact this
    · intro x hx
      rcases List.mem_append.1 hx with h | h
      · exact ((R.cts x (List.mem_append_left _ h)).fr f1 (R.cp x (List.mem_append_left _ h)).1).fr f2 fun e => nd.2.2 _ (List.mem_map_of_mem h) c.p.block (by simp) e
      · rcases List.mem_cons.1 h with rfl | h
        · exact o2
        · exact ((R.cts x (by simp [h])).fr f1 (R.cp x (by simp [h])).1).fr f2 fun e => nd.2.1.1 (e ▸ List.mem_map_of_mem h)
    · intro x hx
      rcases List.mem_append.1 hx with h | h
      · exact R.cp x (List.mem_append_left _ h)
      · rcases List.mem_cons.1 h with rfl | h
        · exact cp
        · exact R.cp x (by simp [h])
    · have := R.nd; simpa using this
    · have hA : ∀ x ∈ A, x.id ≠ c.id := fun x hx e => ids.2.2 _ (List.mem_map_of_mem hx) c.id (by simp) e
      have hB : ∀ x ∈ B, x.id ≠ c.id := fun x hx e => ids.2.1.1 (e ▸ List.mem_map_of_mem hx)
      have p := R.perm.map fun e : FEn => if e.id = c.id then { e with last := at_ } else e
      have e : ((A ++ c :: B).map PE.ent).map (fun e : FEn => if e.id = c.id then { e with last := at_ } else e) = (A ++ { c with last := at_ } :: B).map PE.ent := by
        rw [List.map_map, List.map_append, List.map_append, List.map_cons, List.map_cons]
        congr 1
        · apply List.map_congr_left; intro x hx
          exact if_neg (hA x hx)
        · congr 1
          · exact if_pos rfl
          · apply List.map_congr_left; intro x hx
            exact if_neg (hB x hx)
      rw [e] at p
      exact p
end Go.Proofs.Ytbmifkjdjekenaa
