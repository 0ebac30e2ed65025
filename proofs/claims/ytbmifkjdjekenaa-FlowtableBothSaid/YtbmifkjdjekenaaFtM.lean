/-
  The law FlowtableBoth.
-/
import Derived.Test.YtbmifkjdjekenaaFtK
import Derived.Test.YtbmifkjdjekenaaFtL
namespace Go.Proofs.Ytbmifkjdjekenaa
set_option linter.unusedSimpArgs false
set_option linter.unusedVariables false
set_option maxRecDepth 20000
open Go
open Go.IntKind (wrap)
set_option maxHeartbeats 1000000 in
attribute [local irreducible] Addr.add stN st1 idxA idxS alV sliceStr LoopV
theorem FlowtableBoth_c [Gh] (x : S_api_Flow) (v : Int) {h : Heap} (_ : x.ok h) (ov : kOk .u8 h v) {Q : Value → Heap → Prop} (hk : ∀ h', Fr (fun _ => False) h h' → Q (.bool true) h') :
    CallT Try.prog fn_law22_FlowtableBoth #[.agg x.vals.toArray, .int .u8 v] h Q := by
  obtain ⟨v0, v1⟩ := wf8 ov
  apply law22_FlowtableBoth_s
  unfold law22_FlowtableBoth_v
  obtain ⟨f, hf⟩ : ∃ fl : Fl, fl = ⟨x.Proto, ⟨x.Src.V6, x.Src.Hi, x.Src.Lo⟩, ⟨x.Dst.V6, x.Dst.Hi, x.Dst.Lo⟩, x.Sport, x.Dport⟩ := ⟨_, rfl⟩
  refine al_mk (vs := x.vals) fun t2 h1 f1 e1 o2 => ?_
  have o2 : Own h1 t2 f.vals T_api_Flow := by rw [hf]; exact o2
  clear hf
  have l2 := o2.lt
  have z1 := f1.size
  refine new_c 5 1000 fun t r1 r2 h2 f2 R2 => ⟨_, rfl, ifNS ?_⟩
  have z2 := f2.size
  have w2 := newS_wf 5 1000
  have c2 : Cells h2 t2 f.vals := (o2.fr0 f2).cells
  repeat (first | (first | refine ldI_mk (by first | exact c2.at rfl | exact c2.at0 rfl) ?_ | refine ldB_mk (by first | exact c2.at rfl | exact c2.at0 rfl) ?_ | refine ldL_mk (by first | exact c2.at rfl | exact c2.at0 rfl) ?_ | refine ldP_mk (by first | exact c2.at rfl | exact c2.at0 rfl) ?_ | refine ldS_mk (by first | exact c2.at rfl | exact c2.at0 rfl) ?_ | refine ldM_mk (by first | exact c2.at rfl | exact c2.at0 rfl) ?_) | refine nn_mk ?_ | refine And.intro (by (repeat (first | refine ldI_mk (by first | exact c2.at rfl | exact c2.at0 rfl) ?_ | refine ldB_mk (by first | exact c2.at rfl | exact c2.at0 rfl) ?_ | refine ldL_mk (by first | exact c2.at rfl | exact c2.at0 rfl) ?_ | refine ldP_mk (by first | exact c2.at rfl | exact c2.at0 rfl) ?_ | refine ldS_mk (by first | exact c2.at rfl | exact c2.at0 rfl) ?_ | refine ldM_mk (by first | exact c2.at rfl | exact c2.at0 rfl) ?_)); exact rfl) ?_ | refine ifNS ?_ | refine And.intro (by decide) ?_)
  have F2 := f1.trans f2
  have fin : ∀ {a b : Heap}, Fr (fun _ => False) h a → Fr (fun b => h1.size ≤ b) a b → Fr (fun _ => False) h b := fun f g => f.tr g fun x hx hi => by omega
  have ev : Int.tmod (wrap .i64 v) 4 = v % 4 := by rw [wr (by omega) (by omega), Int.tmod_eq_emod_of_nonneg (by omega)]
  rw [ev]
  have hv4 : 0 ≤ v % 4 ∧ v % 4 ≤ 3 := by omega
  generalize v % 4 = u at *
  refine open_c R2 w2 (fun b hb => by omega) 0 f u fun a b c s h3 S3 o f3 R3 => ⟨_, _, _, rfl, ?_⟩
  have z3 := f3.size
  have F3 := fin F2 f3
  have w3 := o.wf w2 (by decide)
  have o3 := (o2.fr0 f2).fr f3 (by omega)
  have c3 : Cells h3 t2 f.vals := o3.cells
  cases o with
  | late h => exact absurd h (by decide)
  | bad h1 h2 =>
    rw [if_pos (by decide), if_pos (by decide)]
    exact awake_c fun h' f => ⟨_, rfl, hk h' (F3.trans f)⟩
  | exists_ h1 h2 h3 => exact absurd h3 (by simp [findS, newS])
  | full y h1 h2 h3 h4 => exact absurd h4 (by decide)
  | evict y h1 h2 h3 h4 => exact absurd h4 (by decide)
  | add _ hgood _ _ =>
    rw [if_neg (by decide)]
    generalize hs : addE (newS 5 1000) 0 u f (newS 5 1000).L = s at *
    have hL : s.L = [⟨1, u, 0, f⟩] := by rw [← hs]; rfl
    have hu : (newS 5 1000).used + 1 = 1 := by decide
    rw [hu]
    have hmem : (⟨1, u, 0, f⟩ : FEn) ∈ s.L := by rw [hL]; simp
    have ff : findS s.L f = (1, 1, true) := by rw [find_one w3.pairs hmem rfl, if_pos rfl]
    have fr : findS s.L f.rev = (1, if f = f.rev then 1 else 2, true) := by rw [find_one w3.pairs hmem (pair_rev f).symm]
    repeat (first | (first | refine ldI_mk (by first | exact c3.at rfl | exact c3.at0 rfl) ?_ | refine ldB_mk (by first | exact c3.at rfl | exact c3.at0 rfl) ?_ | refine ldL_mk (by first | exact c3.at rfl | exact c3.at0 rfl) ?_ | refine ldP_mk (by first | exact c3.at rfl | exact c3.at0 rfl) ?_ | refine ldS_mk (by first | exact c3.at rfl | exact c3.at0 rfl) ?_ | refine ldM_mk (by first | exact c3.at rfl | exact c3.at0 rfl) ?_) | refine nn_mk ?_ | refine And.intro (by (repeat (first | refine ldI_mk (by first | exact c3.at rfl | exact c3.at0 rfl) ?_ | refine ldB_mk (by first | exact c3.at rfl | exact c3.at0 rfl) ?_ | refine ldL_mk (by first | exact c3.at rfl | exact c3.at0 rfl) ?_ | refine ldP_mk (by first | exact c3.at rfl | exact c3.at0 rfl) ?_ | refine ldS_mk (by first | exact c3.at rfl | exact c3.at0 rfl) ?_ | refine ldM_mk (by first | exact c3.at rfl | exact c3.at0 rfl) ?_)); exact rfl) ?_ | refine ifNS ?_ | refine And.intro (by decide) ?_)
    refine find_c R3 w3 f fun h4 f4 => ⟨_, _, _, rfl, ?_⟩
    have c4 := c3.fr0 f4
    repeat (first | (first | refine ldI_mk (by first | exact c4.at rfl | exact c4.at0 rfl) ?_ | refine ldB_mk (by first | exact c4.at rfl | exact c4.at0 rfl) ?_ | refine ldL_mk (by first | exact c4.at rfl | exact c4.at0 rfl) ?_ | refine ldP_mk (by first | exact c4.at rfl | exact c4.at0 rfl) ?_ | refine ldS_mk (by first | exact c4.at rfl | exact c4.at0 rfl) ?_ | refine ldM_mk (by first | exact c4.at rfl | exact c4.at0 rfl) ?_) | refine nn_mk ?_ | refine And.intro (by (repeat (first | refine ldI_mk (by first | exact c4.at rfl | exact c4.at0 rfl) ?_ | refine ldB_mk (by first | exact c4.at rfl | exact c4.at0 rfl) ?_ | refine ldL_mk (by first | exact c4.at rfl | exact c4.at0 rfl) ?_ | refine ldP_mk (by first | exact c4.at rfl | exact c4.at0 rfl) ?_ | refine ldS_mk (by first | exact c4.at rfl | exact c4.at0 rfl) ?_ | refine ldM_mk (by first | exact c4.at rfl | exact c4.at0 rfl) ?_)); exact rfl) ?_ | refine ifNS ?_ | refine And.intro (by decide) ?_)
    refine reverse_c f fun h5 f5 => ⟨_, _, _, _, _, _, _, _, _, rfl, ?_⟩
    refine find_c ((R3.fr0 f4).fr0 f5) w3 f.rev fun h6 f6 => ⟨_, _, _, rfl, ?_⟩
    have F36 := (f4.trans f5).trans f6
    refine key_c (R3.fr0 F36) w3 1 fun h7 f7 => ⟨_, _, _, _, _, _, _, _, _, _, rfl, ?_⟩
    have F37 := F36.trans f7
    have hkey : keyS s.L 1 = (f, true) := keyS_some w3.nd hmem
    rw [ff, fr, hkey]
    have H := (Hs.pure h3).call0 F37
    refine al_H H fun t15 h8 H l15 => ?_
    refine stN_H H 0 rfl (by rfl) (by rfl) fun h9 H => ?_
    rw [if_neg (by simp), if_neg (by simp), if_neg (by simp), if_neg (by simp), if_neg (by simp), if_neg (by simp)]
    have c9 := c3.fr0 H.fr0
    have C0 := (H.get 0 rfl).cells; repeat (first | (first | refine ldI_mk (by first | exact C0.at rfl | exact C0.at0 rfl | exact c9.at rfl | exact c9.at0 rfl) ?_ | refine ldB_mk (by first | exact C0.at rfl | exact C0.at0 rfl | exact c9.at rfl | exact c9.at0 rfl) ?_ | refine ldL_mk (by first | exact C0.at rfl | exact C0.at0 rfl | exact c9.at rfl | exact c9.at0 rfl) ?_ | refine ldP_mk (by first | exact C0.at rfl | exact C0.at0 rfl | exact c9.at rfl | exact c9.at0 rfl) ?_ | refine ldS_mk (by first | exact C0.at rfl | exact C0.at0 rfl | exact c9.at rfl | exact c9.at0 rfl) ?_ | refine ldM_mk (by first | exact C0.at rfl | exact C0.at0 rfl | exact c9.at rfl | exact c9.at0 rfl) ?_) | refine nn_mk ?_ | refine And.intro (by (repeat (first | refine ldI_mk (by first | exact C0.at rfl | exact C0.at0 rfl | exact c9.at rfl | exact c9.at0 rfl) ?_ | refine ldB_mk (by first | exact C0.at rfl | exact C0.at0 rfl | exact c9.at rfl | exact c9.at0 rfl) ?_ | refine ldL_mk (by first | exact C0.at rfl | exact C0.at0 rfl | exact c9.at rfl | exact c9.at0 rfl) ?_ | refine ldP_mk (by first | exact C0.at rfl | exact C0.at0 rfl | exact c9.at rfl | exact c9.at0 rfl) ?_ | refine ldS_mk (by first | exact C0.at rfl | exact C0.at0 rfl | exact c9.at rfl | exact c9.at0 rfl) ?_ | refine ldM_mk (by first | exact C0.at rfl | exact C0.at0 rfl | exact c9.at rfl | exact c9.at0 rfl) ?_)); exact rfl) ?_ | refine ifNS ?_ | refine And.intro (by decide) ?_)
    refine ifFlN (x := f) ?_
    have C0 := (H.get 0 rfl).cells; repeat (first | (first | refine ldI_mk (by first | exact C0.at rfl | exact C0.at0 rfl | exact c9.at rfl | exact c9.at0 rfl) ?_ | refine ldB_mk (by first | exact C0.at rfl | exact C0.at0 rfl | exact c9.at rfl | exact c9.at0 rfl) ?_ | refine ldL_mk (by first | exact C0.at rfl | exact C0.at0 rfl | exact c9.at rfl | exact c9.at0 rfl) ?_ | refine ldP_mk (by first | exact C0.at rfl | exact C0.at0 rfl | exact c9.at rfl | exact c9.at0 rfl) ?_ | refine ldS_mk (by first | exact C0.at rfl | exact C0.at0 rfl | exact c9.at rfl | exact c9.at0 rfl) ?_ | refine ldM_mk (by first | exact C0.at rfl | exact C0.at0 rfl | exact c9.at rfl | exact c9.at0 rfl) ?_) | refine nn_mk ?_ | refine And.intro (by (repeat (first | refine ldI_mk (by first | exact C0.at rfl | exact C0.at0 rfl | exact c9.at rfl | exact c9.at0 rfl) ?_ | refine ldB_mk (by first | exact C0.at rfl | exact C0.at0 rfl | exact c9.at rfl | exact c9.at0 rfl) ?_ | refine ldL_mk (by first | exact C0.at rfl | exact C0.at0 rfl | exact c9.at rfl | exact c9.at0 rfl) ?_ | refine ldP_mk (by first | exact C0.at rfl | exact C0.at0 rfl | exact c9.at rfl | exact c9.at0 rfl) ?_ | refine ldS_mk (by first | exact C0.at rfl | exact C0.at0 rfl | exact c9.at rfl | exact c9.at0 rfl) ?_ | refine ldM_mk (by first | exact C0.at rfl | exact C0.at0 rfl | exact c9.at rfl | exact c9.at0 rfl) ?_)); exact rfl) ?_ | refine ifNS ?_ | refine And.intro (by decide) ?_)
    refine reverse_c f fun h10 f10 => ⟨_, _, _, _, _, _, _, _, _, rfl, ?_⟩
    have H := H.call0 f10
    have z10 := H.size
    have gr : badB f.rev 0 = false := by
      unfold badB at hgood
      rw [decide_eq_false_iff_not] at hgood
      unfold badB
      rw [decide_eq_false_iff_not]
      show ¬ ((0 : Int) < 0 ∨ (0 : Int) > 3 ∨ f.proto < 0 ∨ f.proto > 255 ∨ f.dport < 0 ∨ f.dport > 65535 ∨ f.sport < 0 ∨ f.sport > 65535)
      omega
    have o4 : OpenR s 1 f.rev 0 0 0 7 s := .exists_ (by rw [← hs]; rfl) gr (by rw [fr])
    refine open_x (R3.fr0 H.fr0) w3 (fun b hb => by omega) o4 fun h11 S11 f11 R11 => ⟨_, _, _, rfl, ?_⟩
    have F11 := fin (F3.trans H.fr0) f11
    have z11 := f11.size
    have c11 : Cells h11 t2 f.vals := ((o3.fr0 H.fr0).fr f11 (by omega)).cells
    have last : ∀ {h' : Heap}, Fr (fun _ => False) h h' → CallT Try.prog fn_law22_awake #[] h' fun v h13 => ∃ t111 : Bool, v = .bool t111 ∧ Q (.bool t111) h13 := fun F => awake_c fun h' f => ⟨_, rfl, hk h' (F.trans f)⟩
    by_cases hr : f = f.rev
    · rw [if_pos hr, if_neg (by decide)]
      repeat (first | (first | refine ldI_mk (by first | exact c11.at rfl | exact c11.at0 rfl) ?_ | refine ldB_mk (by first | exact c11.at rfl | exact c11.at0 rfl) ?_ | refine ldL_mk (by first | exact c11.at rfl | exact c11.at0 rfl) ?_ | refine ldP_mk (by first | exact c11.at rfl | exact c11.at0 rfl) ?_ | refine ldS_mk (by first | exact c11.at rfl | exact c11.at0 rfl) ?_ | refine ldM_mk (by first | exact c11.at rfl | exact c11.at0 rfl) ?_) | refine nn_mk ?_ | refine And.intro (by (repeat (first | refine ldI_mk (by first | exact c11.at rfl | exact c11.at0 rfl) ?_ | refine ldB_mk (by first | exact c11.at rfl | exact c11.at0 rfl) ?_ | refine ldL_mk (by first | exact c11.at rfl | exact c11.at0 rfl) ?_ | refine ldP_mk (by first | exact c11.at rfl | exact c11.at0 rfl) ?_ | refine ldS_mk (by first | exact c11.at rfl | exact c11.at0 rfl) ?_ | refine ldM_mk (by first | exact c11.at rfl | exact c11.at0 rfl) ?_)); exact rfl) ?_ | refine ifNS ?_ | refine And.intro (by decide) ?_)
      refine reverse_c f fun h12 f12 => ⟨_, _, _, _, _, _, _, _, _, rfl, ?_⟩
      have c12 := c11.fr0 f12
      repeat (first | (first | refine ldI_mk (by first | exact c12.at rfl | exact c12.at0 rfl) ?_ | refine ldB_mk (by first | exact c12.at rfl | exact c12.at0 rfl) ?_ | refine ldL_mk (by first | exact c12.at rfl | exact c12.at0 rfl) ?_ | refine ldP_mk (by first | exact c12.at rfl | exact c12.at0 rfl) ?_ | refine ldS_mk (by first | exact c12.at rfl | exact c12.at0 rfl) ?_ | refine ldM_mk (by first | exact c12.at rfl | exact c12.at0 rfl) ?_) | refine nn_mk ?_ | refine And.intro (by (repeat (first | refine ldI_mk (by first | exact c12.at rfl | exact c12.at0 rfl) ?_ | refine ldB_mk (by first | exact c12.at rfl | exact c12.at0 rfl) ?_ | refine ldL_mk (by first | exact c12.at rfl | exact c12.at0 rfl) ?_ | refine ldP_mk (by first | exact c12.at rfl | exact c12.at0 rfl) ?_ | refine ldS_mk (by first | exact c12.at rfl | exact c12.at0 rfl) ?_ | refine ldM_mk (by first | exact c12.at rfl | exact c12.at0 rfl) ?_)); exact rfl) ?_ | refine ifNS ?_ | refine And.intro (by decide) ?_)
      refine ifFl (x := f.rev) (y := f) (fun _ => ?_) fun h => absurd hr.symm h
      rw [if_pos (by decide)]
      exact last (F11.trans f12)
    · rw [if_neg hr, if_pos (by decide), if_pos (by decide)]
      exact last F11
end Go.Proofs.Ytbmifkjdjekenaa
