/-
  Do, Clear, Names of the program.
-/
import Derived.Test.YtflkadcffgpagaaFvC
import Derived.Test.YtflkadcffgpagaaFvIter
namespace Go.Proofs.Ytflkadcffgpagaa
set_option linter.unusedSimpArgs false
set_option linter.unusedVariables false
set_option maxRecDepth 20000
open Go
open Go.IntKind (wrap)
attribute [local irreducible] Addr.add stN st1 idxA idxS alV sliceStr LoopV
def doS (dir : Int) (l1 l2 : List Nm) (ops : List S_api_FlowOp) : Int × List Nm × List Nm :=
  if dir = 1 then ((doL l1 ops).1, if (doL l1 ops).1 = 0 then (doL l1 ops).2 else l1, l2) else if dir = 2 then ((doL l2 ops).1, l1, if (doL l2 ops).1 = 0 then (doL l2 ops).2 else l2) else (4, l1, l2)
/-- The changes, made in a copy. -/
theorem do_loop [Gh] {ok : Nat → Prop} {h : Heap} {v : Addr} {dir : Int} {r3 : Nat} {l : List Nm} (M : SetM h r3 l) (hok : ∀ b, h.size ≤ b → ok b) (hr : ok r3) {w : Sl S_api_FlowOp} (ow : SlOk 2 S_api_FlowOp.vals S_api_FlowOp.ok h w) (hrw : 0 < w.xs.length → ∀ b, InA w.p b → b ≠ r3) (hw : w.xs.length ≤ 2 ^ 40) {Q : Value → Heap → Prop}
    (he : ∀ h', Fr (fun b => b = r3) h h' → (doL l w.xs).1 ≠ 0 → Q (.int .i64 (doL l w.xs).1) h')
    (h0 : ∀ h', Fr (fun b => b = r3) h h' → (doL l w.xs).1 = 0 → SetM h' r3 (doL l w.xs).2 → flowvars_Vars_Do_b2 (some v) dir (some r3) Q h') :
    LoopV (fun (s : Int) h Kn => flowvars_Vars_Do_l1 (some v) dir (some r3) w.p w.xs.length w.cap ((w.xs.length : Nat) : Int) Q s h Kn) 0 h := by
  have lr := M.lt
  refine LoopV.mk (fun s h' => ∃ (i : Nat) (m : List Nm), s = (i : Int) ∧ i ≤ w.xs.length ∧ Fr (fun b => b = r3) h h' ∧ SetM h' r3 m ∧ doL l w.xs = doL m (w.xs.drop i)) (fun s _ => w.xs.length - s.toNat) ⟨0, l, rfl, by omega, Fr.refl _ _, M, rfl⟩ ?_
  rintro - h1 ⟨i, m, rfl, hi, f1, M1, hd⟩
  unfold flowvars_Vars_Do_l1
  refine ifD (fun e => ?_) fun e => ?_
  · have hlt : i < w.xs.length := by omega
    have hdr : w.xs.drop i = w.xs[i] :: w.xs.drop (i + 1) := List.drop_eq_getElem_cons hlt
    rw [hdr, doL_cons] at hd
    have z1 := f1.size
    obtain ⟨ad, hp, c0, _⟩ := ow.at_ i hlt
    have c : Cells h1 (ad.add (i * 2)) [.int .i64 w.xs[i].Op, .string (bs w.xs[i].Name)] := Cells.fr c0 f1 (by rw [add_block]; exact hrw (by omega) ad.block ⟨ad, hp, rfl⟩)
    refine idxA_mk i rfl hlt ?_
    rw [hp]
    refine nn_mk ?_
    rw [Int.toNat_natCast]
    generalize w.xs[i].Op = op at *
    generalize w.xs[i].Name = nm at *
    have H := Hs.pure h1
    repeat (first | (first | refine ldI_mk (by first | exact c.at rfl | exact c.at0 rfl) ?_ | refine ldB_mk (by first | exact c.at rfl | exact c.at0 rfl) ?_ | refine ldL_mk (by first | exact c.at rfl | exact c.at0 rfl) ?_ | refine ldP_mk (by first | exact c.at rfl | exact c.at0 rfl) ?_ | refine ldS_mk (by first | exact c.at rfl | exact c.at0 rfl) ?_ | refine ldM_mk (by first | exact c.at rfl | exact c.at0 rfl) ?_) | refine nn_mk ?_ | refine And.intro (by (repeat (first | refine ldI_mk (by first | exact c.at rfl | exact c.at0 rfl) ?_ | refine ldB_mk (by first | exact c.at rfl | exact c.at0 rfl) ?_ | refine ldL_mk (by first | exact c.at rfl | exact c.at0 rfl) ?_ | refine ldP_mk (by first | exact c.at rfl | exact c.at0 rfl) ?_ | refine ldS_mk (by first | exact c.at rfl | exact c.at0 rfl) ?_ | refine ldM_mk (by first | exact c.at rfl | exact c.at0 rfl) ?_)); exact rfl) ?_ | refine ifNS ?_ | refine And.intro (by decide) ?_)
    refine al_H H fun t9 h2 H l9 => ?_
    refine stN_H H 0 rfl (by rfl) (by rfl) fun h3 H => ?_
    have z3 := H.size
    have F13 : Fr (fun b => b = r3) h h3 := f1.trans (H.fr0.mono fun _ h => h.elim)
    have M3 := M1.fr0 H.fr0
    have C0 := (H.get 0 rfl).cells; repeat (first | (first | refine ldI_mk (by first | exact C0.at rfl | exact C0.at0 rfl) ?_ | refine ldB_mk (by first | exact C0.at rfl | exact C0.at0 rfl) ?_ | refine ldL_mk (by first | exact C0.at rfl | exact C0.at0 rfl) ?_ | refine ldP_mk (by first | exact C0.at rfl | exact C0.at0 rfl) ?_ | refine ldS_mk (by first | exact C0.at rfl | exact C0.at0 rfl) ?_ | refine ldM_mk (by first | exact C0.at rfl | exact C0.at0 rfl) ?_) | refine nn_mk ?_ | refine And.intro (by (repeat (first | refine ldI_mk (by first | exact C0.at rfl | exact C0.at0 rfl) ?_ | refine ldB_mk (by first | exact C0.at rfl | exact C0.at0 rfl) ?_ | refine ldL_mk (by first | exact C0.at rfl | exact C0.at0 rfl) ?_ | refine ldP_mk (by first | exact C0.at rfl | exact C0.at0 rfl) ?_ | refine ldS_mk (by first | exact C0.at rfl | exact C0.at0 rfl) ?_ | refine ldM_mk (by first | exact C0.at rfl | exact C0.at0 rfl) ?_)); exact rfl) ?_ | refine ifNS ?_ | refine And.intro (by decide) ?_)
    refine ifD (fun e1 => ?_) fun e1 => ?_
    · rw [if_pos (.inl e1)] at hd
      have := he h3 F13 (by rw [hd]; show (4 : Int) ≠ 0; omega)
      rw [hd] at this; exact this
    have C0 := (H.get 0 rfl).cells; repeat (first | (first | refine ldI_mk (by first | exact C0.at rfl | exact C0.at0 rfl) ?_ | refine ldB_mk (by first | exact C0.at rfl | exact C0.at0 rfl) ?_ | refine ldL_mk (by first | exact C0.at rfl | exact C0.at0 rfl) ?_ | refine ldP_mk (by first | exact C0.at rfl | exact C0.at0 rfl) ?_ | refine ldS_mk (by first | exact C0.at rfl | exact C0.at0 rfl) ?_ | refine ldM_mk (by first | exact C0.at rfl | exact C0.at0 rfl) ?_) | refine nn_mk ?_ | refine And.intro (by (repeat (first | refine ldI_mk (by first | exact C0.at rfl | exact C0.at0 rfl) ?_ | refine ldB_mk (by first | exact C0.at rfl | exact C0.at0 rfl) ?_ | refine ldL_mk (by first | exact C0.at rfl | exact C0.at0 rfl) ?_ | refine ldP_mk (by first | exact C0.at rfl | exact C0.at0 rfl) ?_ | refine ldS_mk (by first | exact C0.at rfl | exact C0.at0 rfl) ?_ | refine ldM_mk (by first | exact C0.at rfl | exact C0.at0 rfl) ?_)); exact rfl) ?_ | refine ifNS ?_ | refine And.intro (by decide) ?_)
    refine ifD (fun e2 => ?_) fun e2 => ?_
    · rw [if_pos (.inr e2)] at hd
      have := he h3 F13 (by rw [hd]; show (4 : Int) ≠ 0; omega)
      rw [hd] at this; exact this
    rw [if_neg (by omega)] at hd
    have C0 := (H.get 0 rfl).cells; repeat (first | (first | refine ldI_mk (by first | exact C0.at rfl | exact C0.at0 rfl) ?_ | refine ldB_mk (by first | exact C0.at rfl | exact C0.at0 rfl) ?_ | refine ldL_mk (by first | exact C0.at rfl | exact C0.at0 rfl) ?_ | refine ldP_mk (by first | exact C0.at rfl | exact C0.at0 rfl) ?_ | refine ldS_mk (by first | exact C0.at rfl | exact C0.at0 rfl) ?_ | refine ldM_mk (by first | exact C0.at rfl | exact C0.at0 rfl) ?_) | refine nn_mk ?_ | refine And.intro (by (repeat (first | refine ldI_mk (by first | exact C0.at rfl | exact C0.at0 rfl) ?_ | refine ldB_mk (by first | exact C0.at rfl | exact C0.at0 rfl) ?_ | refine ldL_mk (by first | exact C0.at rfl | exact C0.at0 rfl) ?_ | refine ldP_mk (by first | exact C0.at rfl | exact C0.at0 rfl) ?_ | refine ldS_mk (by first | exact C0.at rfl | exact C0.at0 rfl) ?_ | refine ldM_mk (by first | exact C0.at rfl | exact C0.at0 rfl) ?_)); exact rfl) ?_ | refine ifNS ?_ | refine And.intro (by decide) ?_)
    refine isName_c nm ⟨_, rfl, ifN (fun e3 => ?_) fun e3 => ?_⟩
    · rw [if_pos e3] at hd
      have := he h3 F13 (by rw [hd]; show (5 : Int) ≠ 0; omega)
      rw [hd] at this; exact this
    rw [if_neg (by rw [e3]; decide)] at hd
    have C0 := (H.get 0 rfl).cells; repeat (first | (first | refine ldI_mk (by first | exact C0.at rfl | exact C0.at0 rfl) ?_ | refine ldB_mk (by first | exact C0.at rfl | exact C0.at0 rfl) ?_ | refine ldL_mk (by first | exact C0.at rfl | exact C0.at0 rfl) ?_ | refine ldP_mk (by first | exact C0.at rfl | exact C0.at0 rfl) ?_ | refine ldS_mk (by first | exact C0.at rfl | exact C0.at0 rfl) ?_ | refine ldM_mk (by first | exact C0.at rfl | exact C0.at0 rfl) ?_) | refine nn_mk ?_ | refine And.intro (by (repeat (first | refine ldI_mk (by first | exact C0.at rfl | exact C0.at0 rfl) ?_ | refine ldB_mk (by first | exact C0.at rfl | exact C0.at0 rfl) ?_ | refine ldL_mk (by first | exact C0.at rfl | exact C0.at0 rfl) ?_ | refine ldP_mk (by first | exact C0.at rfl | exact C0.at0 rfl) ?_ | refine ldS_mk (by first | exact C0.at rfl | exact C0.at0 rfl) ?_ | refine ldM_mk (by first | exact C0.at rfl | exact C0.at0 rfl) ?_)); exact rfl) ?_ | refine ifNS ?_ | refine And.intro (by decide) ?_)
    have go : ∀ h4 m', Fr (fun b => b = r3) h h4 → SetM h4 r3 m' → doL l w.xs = doL m' (w.xs.drop (i + 1)) → (∃ (k : Nat) (m : List Nm), wrap .i64 ((i : Int) + 1) = (k : Int) ∧ k ≤ w.xs.length ∧ Fr (fun b => b = r3) h h4 ∧ SetM h4 r3 m ∧ doL l w.xs = doL m (w.xs.drop k)) ∧ w.xs.length - (wrap .i64 ((i : Int) + 1)).toNat < w.xs.length - (i : Int).toNat := fun h4 m' f4 M4 hd' => by
      rw [wr (by omega) (by omega)]
      exact ⟨⟨i + 1, m', rfl, hlt, f4, M4, hd'⟩, by omega⟩
    refine ifE (fun e4 => ?_) fun e4 => ?_
    · rw [if_pos e4] at hd
      have C0 := (H.get 0 rfl).cells; repeat (first | (first | refine ldI_mk (by first | exact C0.at rfl | exact C0.at0 rfl) ?_ | refine ldB_mk (by first | exact C0.at rfl | exact C0.at0 rfl) ?_ | refine ldL_mk (by first | exact C0.at rfl | exact C0.at0 rfl) ?_ | refine ldP_mk (by first | exact C0.at rfl | exact C0.at0 rfl) ?_ | refine ldS_mk (by first | exact C0.at rfl | exact C0.at0 rfl) ?_ | refine ldM_mk (by first | exact C0.at rfl | exact C0.at0 rfl) ?_) | refine nn_mk ?_ | refine And.intro (by (repeat (first | refine ldI_mk (by first | exact C0.at rfl | exact C0.at0 rfl) ?_ | refine ldB_mk (by first | exact C0.at rfl | exact C0.at0 rfl) ?_ | refine ldL_mk (by first | exact C0.at rfl | exact C0.at0 rfl) ?_ | refine ldP_mk (by first | exact C0.at rfl | exact C0.at0 rfl) ?_ | refine ldS_mk (by first | exact C0.at rfl | exact C0.at0 rfl) ?_ | refine ldM_mk (by first | exact C0.at rfl | exact C0.at0 rfl) ?_)); exact rfl) ?_ | refine ifNS ?_ | refine And.intro (by decide) ?_)
      refine M3.del nm fun h4 f4 s4 M4 => ⟨rfl, ?_⟩
      exact go h4 _ (F13.trans f4) M4 hd
    rw [if_neg e4] at hd
    have C0 := (H.get 0 rfl).cells; repeat (first | (first | refine ldI_mk (by first | exact C0.at rfl | exact C0.at0 rfl) ?_ | refine ldB_mk (by first | exact C0.at rfl | exact C0.at0 rfl) ?_ | refine ldL_mk (by first | exact C0.at rfl | exact C0.at0 rfl) ?_ | refine ldP_mk (by first | exact C0.at rfl | exact C0.at0 rfl) ?_ | refine ldS_mk (by first | exact C0.at rfl | exact C0.at0 rfl) ?_ | refine ldM_mk (by first | exact C0.at rfl | exact C0.at0 rfl) ?_) | refine nn_mk ?_ | refine And.intro (by (repeat (first | refine ldI_mk (by first | exact C0.at rfl | exact C0.at0 rfl) ?_ | refine ldB_mk (by first | exact C0.at rfl | exact C0.at0 rfl) ?_ | refine ldL_mk (by first | exact C0.at rfl | exact C0.at0 rfl) ?_ | refine ldP_mk (by first | exact C0.at rfl | exact C0.at0 rfl) ?_ | refine ldS_mk (by first | exact C0.at rfl | exact C0.at0 rfl) ?_ | refine ldM_mk (by first | exact C0.at rfl | exact C0.at0 rfl) ?_)); exact rfl) ?_ | refine ifNS ?_ | refine And.intro (by decide) ?_)
    refine ifE (fun e5 => ?_) fun e5 => ?_
    · rw [if_pos e5] at hd
      have C0 := (H.get 0 rfl).cells; repeat (first | (first | refine ldI_mk (by first | exact C0.at rfl | exact C0.at0 rfl) ?_ | refine ldB_mk (by first | exact C0.at rfl | exact C0.at0 rfl) ?_ | refine ldL_mk (by first | exact C0.at rfl | exact C0.at0 rfl) ?_ | refine ldP_mk (by first | exact C0.at rfl | exact C0.at0 rfl) ?_ | refine ldS_mk (by first | exact C0.at rfl | exact C0.at0 rfl) ?_ | refine ldM_mk (by first | exact C0.at rfl | exact C0.at0 rfl) ?_) | refine nn_mk ?_ | refine And.intro (by (repeat (first | refine ldI_mk (by first | exact C0.at rfl | exact C0.at0 rfl) ?_ | refine ldB_mk (by first | exact C0.at rfl | exact C0.at0 rfl) ?_ | refine ldL_mk (by first | exact C0.at rfl | exact C0.at0 rfl) ?_ | refine ldP_mk (by first | exact C0.at rfl | exact C0.at0 rfl) ?_ | refine ldS_mk (by first | exact C0.at rfl | exact C0.at0 rfl) ?_ | refine ldM_mk (by first | exact C0.at rfl | exact C0.at0 rfl) ?_)); exact rfl) ?_ | refine ifNS ?_ | refine And.intro (by decide) ?_)
      refine M3.look nm ⟨_, rfl, ?_⟩
      refine ifN (fun e6 => ?_) fun e6 => ?_
      · rw [decide_eq_false_iff_not] at e6
        refine M3.len ⟨_, rfl, ifD (fun e7 => ?_) fun e7 => ?_⟩
        · rw [if_pos ⟨e6, by omega⟩] at hd
          have := he h3 F13 (by rw [hd]; show (11 : Int) ≠ 0; omega)
          rw [hd] at this; exact this
        · rw [if_neg (fun h => e7 (by have := h.2; omega))] at hd
          have C0 := (H.get 0 rfl).cells; repeat (first | (first | refine ldI_mk (by first | exact C0.at rfl | exact C0.at0 rfl) ?_ | refine ldB_mk (by first | exact C0.at rfl | exact C0.at0 rfl) ?_ | refine ldL_mk (by first | exact C0.at rfl | exact C0.at0 rfl) ?_ | refine ldP_mk (by first | exact C0.at rfl | exact C0.at0 rfl) ?_ | refine ldS_mk (by first | exact C0.at rfl | exact C0.at0 rfl) ?_ | refine ldM_mk (by first | exact C0.at rfl | exact C0.at0 rfl) ?_) | refine nn_mk ?_ | refine And.intro (by (repeat (first | refine ldI_mk (by first | exact C0.at rfl | exact C0.at0 rfl) ?_ | refine ldB_mk (by first | exact C0.at rfl | exact C0.at0 rfl) ?_ | refine ldL_mk (by first | exact C0.at rfl | exact C0.at0 rfl) ?_ | refine ldP_mk (by first | exact C0.at rfl | exact C0.at0 rfl) ?_ | refine ldS_mk (by first | exact C0.at rfl | exact C0.at0 rfl) ?_ | refine ldM_mk (by first | exact C0.at rfl | exact C0.at0 rfl) ?_)); exact rfl) ?_ | refine ifNS ?_ | refine And.intro (by decide) ?_)
          refine M3.put nm e6 fun h4 f4 s4 M4 => ?_
          exact go h4 _ (F13.trans f4) M4 hd
      · rw [decide_eq_true_eq] at e6
        rw [if_neg (fun h => h.1 e6)] at hd
        have ew : withL m nm = m := by unfold withL; rw [if_pos e6]
        rw [ew] at hd
        exact go h3 _ F13 M3 hd
    · rw [if_neg e5] at hd
      exact go h3 _ F13 M3 hd
  · rw [List.drop_eq_nil_of_le (by omega)] at hd
    have e0 : (doL l w.xs).1 = 0 := by rw [hd]; rfl
    have e1 : (doL l w.xs).2 = m := by rw [hd]; rfl
    exact h0 h1 f1 e0 (by rw [e1]; exact M1)
theorem do_c [Gh] {ok : Nat → Prop} {h : Heap} {v : Addr} {r1 r2 : Nat} {l1 l2 : List Nm} (V : VarF ok h v r1 r2 l1 l2) (hok : ∀ b, h.size ≤ b → ok b) (dir : Int) {w : Sl S_api_FlowOp} (ow : SlOk 2 S_api_FlowOp.vals S_api_FlowOp.ok h w) (hw : w.xs.length ≤ 2 ^ 40) {Q : Value → Heap → Prop}
    (hk : ∀ h' r1' r2', Fr (fun b => b = v.block) h h' → VarF ok h' v r1' r2' (doS dir l1 l2 w.xs).2.1 (doS dir l1 l2 w.xs).2.2 → Q (.int .i64 (doS dir l1 l2 w.xs).1) h') :
    CallT Try.prog fn_flowvars_Vars_Do #[.pointer (some v), .int .i64 dir, .slice w.p w.xs.length w.cap] h Q := by
  apply flowvars_Vars_Do_s
  unfold flowvars_Vars_Do_v
  refine ifNS ?_
  have lv := V.own.lt
  have n1 := V.m1.lt
  have n2 := V.m2.lt
  have hp : ∀ {r3 : Nat}, h.size ≤ r3 → 0 < w.xs.length → ∀ b, InA w.p b → b ≠ r3 := fun hr h0 b hb => by
    obtain ⟨ad, e, rfl⟩ := hb
    obtain ⟨ad', h1, h2, _⟩ := ow.at_ 0 h0
    rw [e] at h1; cases h1
    have := hcell_lt (h2.at0 (v := .int .i64 w.xs[0].Op) rfl)
    rw [add_block] at this
    omega
  refine right_c dir ⟨_, rfl, ifN (fun e => ?_) fun e => ?_⟩
  · rw [decide_eq_false_iff_not] at e
    unfold doS at hk
    rw [if_neg (fun h => e (.inl h)), if_neg (fun h => e (.inr h))] at hk
    exact hk h r1 r2 (Fr.refl _ _) V
  rw [decide_eq_true_eq] at e
  refine nn_mk ?_
  have lift : ∀ {a b : Heap} {r3 : Nat}, h.size ≤ r3 → a.size ≤ b.size → Fr (fun _ => False) h a → Fr (fun b => b = r3) a b → Fr (fun _ => False) h b := fun hr _ f g => f.tr g fun x hx hi => by omega
  rcases e with rfl | rfl
  · refine idxA_mk 0 (by decide) (by omega) ?_
    rw [show (wrap .i64 (1 - 1)).toNat * 1 = 0 from by decide]
    refine ldM_mk (V.own.cells.at (j := 0) rfl) (V.m1.clone fun r3 h1 f1 hr3 M => ⟨_, rfl, ?_⟩)
    have z1 := f1.size
    have hk : ∀ h' r1' r2', Fr (fun b => b = v.block) h h' → VarF ok h' v r1' r2' (if (doL l1 w.xs).1 = 0 then (doL l1 w.xs).2 else l1) l2 → Q (.int .i64 (doL l1 w.xs).1) h' := hk
    refine do_loop M (fun b hb => hok b (by omega)) (hok r3 hr3) (SlOk.fr0 S_api_FlowOp.ok_fr f1 ow) (hp hr3) hw (fun h2 f2 he => ?_) fun h2 f2 h0 M2 => ?_
    · rw [if_neg he] at hk
      have F := lift hr3 f2.size f1 f2
      exact hk h2 r1 r2 (F.mono fun _ h => h.elim) (V.fr0 F)
    · rw [if_pos h0, h0] at hk
      have F := lift hr3 f2.size f1 f2
      have V2 := V.fr0 F
      have lr := M2.lt
      unfold flowvars_Vars_Do_b2
      refine nn_mk (idxA_mk 0 (by decide) (by omega) ?_)
      rw [show (wrap .i64 (1 - 1)).toNat * 1 = 0 from by decide]
      refine st1_own V2.own 0 (by simp) rfl fun h3 f3 s3 o3 => ?_
      exact hk h3 r3 r2 ((F.mono fun _ h => h.elim).trans f3) ⟨o3, M2.fr f3 (by omega), V2.m2.fr f3 V.rv.2, by omega, ⟨by omega, V.rv.2⟩, V.okv, ⟨hok r3 hr3, V.okr.2⟩⟩
  · refine idxA_mk 1 (by decide) (by omega) ?_
    rw [show (wrap .i64 (2 - 1)).toNat * 1 = 1 from by decide]
    refine ldM_mk (V.own.cells.at (j := 1) rfl) (V.m2.clone fun r3 h1 f1 hr3 M => ⟨_, rfl, ?_⟩)
    have z1 := f1.size
    have hk : ∀ h' r1' r2', Fr (fun b => b = v.block) h h' → VarF ok h' v r1' r2' l1 (if (doL l2 w.xs).1 = 0 then (doL l2 w.xs).2 else l2) → Q (.int .i64 (doL l2 w.xs).1) h' := hk
    refine do_loop M (fun b hb => hok b (by omega)) (hok r3 hr3) (SlOk.fr0 S_api_FlowOp.ok_fr f1 ow) (hp hr3) hw (fun h2 f2 he => ?_) fun h2 f2 h0 M2 => ?_
    · rw [if_neg he] at hk
      have F := lift hr3 f2.size f1 f2
      exact hk h2 r1 r2 (F.mono fun _ h => h.elim) (V.fr0 F)
    · rw [if_pos h0, h0] at hk
      have F := lift hr3 f2.size f1 f2
      have V2 := V.fr0 F
      have lr := M2.lt
      unfold flowvars_Vars_Do_b2
      refine nn_mk (idxA_mk 1 (by decide) (by omega) ?_)
      rw [show (wrap .i64 (2 - 1)).toNat * 1 = 1 from by decide]
      refine st1_own V2.own 1 (by simp) rfl fun h3 f3 s3 o3 => ?_
      exact hk h3 r1 r3 ((F.mono fun _ h => h.elim).trans f3) ⟨o3, V2.m1.fr f3 V.rv.1, M2.fr f3 (by omega), by omega, ⟨V.rv.1, by omega⟩, V.okv, ⟨V.okr.1, hok r3 hr3⟩⟩
theorem clear_c [Gh] {ok : Nat → Prop} {h : Heap} {v : Addr} {r1 r2 : Nat} {l1 l2 : List Nm} (V : VarF ok h v r1 r2 l1 l2) {Q : Value → Heap → Prop} (hk : ∀ h', Fr ok h h' → VarF ok h' v r1 r2 [] [] → Q (.tuple #[]) h') :
    CallT Try.prog fn_flowvars_Vars_Clear #[.pointer (some v)] h Q := by
  apply flowvars_Vars_Clear_s
  unfold flowvars_Vars_Clear_v
  rw [if_pos (by rfl)]
  refine nn_mk (idxA_mk 0 (by decide) (by omega) ?_)
  rw [show ((0 : Int)).toNat * 1 = 0 from by decide]
  refine ldM_mk (V.own.cells.at (j := 0) rfl) (V.m1.clear fun h1 f1 s1 M1 => ⟨rfl, ?_⟩)
  have o1 := V.own.fr f1 fun h => V.rv.1 h.symm
  refine nn_mk (idxA_mk 1 (by decide) (by omega) ?_)
  rw [show ((1 : Int)).toNat * 1 = 1 from by decide]
  refine ldM_mk (o1.cells.at (j := 1) rfl) ((V.m2.fr f1 fun h => V.r12 h.symm).clear fun h2 f2 s2 M2 => ⟨rfl, ?_⟩)
  exact hk h2 ((f1.mono fun b hb => hb ▸ V.okr.1).trans (f2.mono fun b hb => hb ▸ V.okr.2)) ⟨o1.fr f2 (fun h => V.rv.2 h.symm), M1.fr f2 V.r12, M2, V.r12, V.rv, V.okv, V.okr⟩
end Go.Proofs.Ytflkadcffgpagaa
