/-
  The law FlowvarsCalls.
-/
import Derived.Test.YtflkadcffgpagaaFvI
namespace Go.Proofs.Ytflkadcffgpagaa
set_option linter.unusedSimpArgs false
set_option linter.unusedVariables false
set_option maxRecDepth 20000
open Go
open Go.IntKind (wrap)
theorem calls_b2 [Gh] {D : Nat → Prop} {h : Heap} {v x : Addr} {l1 l2 : List Nm} (T : TwoV D h v x l1 l2 l1 l2) (g1 : Good l1) (g2 : Good l2) {t6 : Addr} {kd dir : Int} {s : Value} (o6 : Own h t6 [.int .i64 kd, .int .i64 dir, s] T_intrusionlaw48_Call)
    {la : Option Addr} {ln lc : Nat} {t15 t16 : Int} {Q : Value → Heap → Prop} {Kn : Int → Heap → Prop} (hk : ∀ h', Fr (fun _ => False) h h' → Kn (wrap .i64 (t16 + 1)) h') : law48_FlowvarsCalls_b2 la ln lc (some v) (some x) t6 t15 t16 Q Kn h := by
  obtain ⟨okP, okR, r1, r2, A, B, dj, lt⟩ := T
  unfold law48_FlowvarsCalls_b2
  have c := o6.cells
  have n1 := g1.len
  have n2 := g2.len
  have sl := fun d => sel_len n1 n2 d
  refine ldI_mk (c.at (j := 1) rfl) (ldI_mk (c.at (j := 1) rfl) ?_)
  refine good_names A g1 g2 dir fun p1 c1 h1 f1 R1 _ => ⟨_, _, _, rfl, ?_⟩
  refine ⟨ldI_mk ((c.fr0 f1).at (j := 1) rfl) rfl, ?_⟩
  refine rNames_c (B.fr0 f1) n1 n2 dir fun p2 c2 h2 f2 R2 _ => ⟨_, _, _, rfl, ?_⟩
  refine same_c (R1.fr0 f2) R2 (by have := sl dir; omega) ⟨_, rfl, ?_⟩
  rw [if_neg (by simp)]
  have F2 := f1.trans f2
  refine good_names (A.fr0 F2) g1 g2 1 fun p3 c3 h3 f3 R3 _ => ⟨_, _, _, rfl, ?_⟩
  refine rNames_c ((B.fr0 F2).fr0 f3) n1 n2 1 fun p4 c4 h4 f4 R4 _ => ⟨_, _, _, rfl, ?_⟩
  refine same_c (R3.fr0 f4) R4 (by have := sl 1; omega) ⟨_, rfl, ?_⟩
  rw [if_neg (by simp)]
  have F4 := (F2.trans f3).trans f4
  refine good_names (A.fr0 F4) g1 g2 2 fun p5 c5 h5 f5 R5 _ => ⟨_, _, _, rfl, ?_⟩
  refine rNames_c ((B.fr0 F4).fr0 f5) n1 n2 2 fun p6 c6 h6 f6 R6 _ => ⟨_, _, _, rfl, ?_⟩
  refine same_c (R5.fr0 f6) R6 (by have := sl 2; omega) ⟨_, rfl, ?_⟩
  rw [if_neg (by simp)]
  exact hk h6 ((F4.trans f5).trans f6)
set_option maxHeartbeats 1000000 in
theorem FlowvarsCalls_c [Gh] (w : Sl S_intrusionlaw48_Call) {h : Heap} (ow : SlOk 3 S_intrusionlaw48_Call.vals S_intrusionlaw48_Call.ok h w) {Q : Value → Heap → Prop} (hk : ∀ h', Fr (fun _ => False) h h' → Q (.bool true) h') :
    CallT Try.prog fn_law48_FlowvarsCalls #[.slice w.p w.xs.length w.cap] h Q := by
  apply law48_FlowvarsCalls_s
  unfold law48_FlowvarsCalls_v
  refine large_c ow fun b hb => ⟨_, rfl, ?_⟩
  refine ifB (fun _ => awake_c fun h' f => ⟨_, rfl, hk h' f⟩) fun hbf => ?_
  obtain ⟨h60, h40⟩ := hb hbf
  refine new_c fun v r1 r2 h2 f2 A2 => ⟨_, rfl, ?_⟩
  have z2 := f2.size
  refine rNew_c fun y h3 f3 B3 => ⟨_, rfl, ifNS ?_⟩
  have z3 := f3.size
  have T3 : TwoV (fun b => h.size ≤ b) h3 v y [] [] [] [] := by
    refine ⟨fun b => h.size ≤ b ∧ b < h2.size, fun b => h2.size ≤ b ∧ b < h3.size, r1, r2, A2.rlt.fr0 f3, B3.to fun b h1 h2 => ⟨h2, h1⟩, fun b h1 h2 => by omega, fun b hb => by omega⟩
  have f13 : Fr (fun _ => False) h h3 := f2.trans f3
  refine LoopV.mk (fun s h' => ∃ (i : Nat) (l1 l2 : List Nm), s = (i : Int) ∧ i ≤ w.xs.length ∧ Fr (fun b => h.size ≤ b) h3 h' ∧ TwoV (fun b => h.size ≤ b) h' v y l1 l2 l1 l2 ∧ Good l1 ∧ Good l2) (fun s _ => w.xs.length - s.toNat)
    ⟨0, [], [], rfl, by omega, Fr.refl _ _, T3, Good.nil, Good.nil⟩ ?_
  rintro - h4 ⟨i, l1, l2, rfl, hin, f4, T4, g1, g2⟩
  have f14 : Fr (fun _ => False) h h4 := f13.tr f4 fun b hb hi => by omega
  have z4 := f4.size
  unfold law48_FlowvarsCalls_l1
  refine ifD (fun hi => ?_) fun hi => ?_
  · have hlt : i < w.xs.length := by omega
    obtain ⟨ad, hp, c, hok⟩ := (SlOk.fr0 S_intrusionlaw48_Call.ok_fr f14 ow).at_ i hlt
    have c : Cells h4 (ad.add (i * 3)) [.int .i64 w.xs[i].Kind, .int .i64 w.xs[i].Dir, .slice w.xs[i].Ops.p w.xs[i].Ops.xs.length w.xs[i].Ops.cap] := c
    have oo := hok.k2
    have hl40 := h40 _ (List.getElem_mem hlt)
    generalize hg : w.xs[i] = cl at *
    have ix : ∀ {K : Addr → Prop}, K ad → idxA (i : Int) w.xs.length (nn w.p fun a => K a) := fun hK => idxA_mk i rfl hlt (by rw [hp]; exact nn_mk hK)
    refine ix ?_
    rw [Int.toNat_natCast]
    refine ldI_mk (c.at0 rfl) (ldI_mk (c.at (j := 1) rfl) (ldL_mk (c.at (j := 2) rfl) ?_))
    refine al_mk (vs := [.int .i64 0, .int .i64 0, .slice none 0 0]) fun t6 h5' f5' e5 o5' => ?_
    refine stN_own o5' (ws := [.int .i64 cl.Kind, .int .i64 cl.Dir, .slice cl.Ops.p cl.Ops.xs.length cl.Ops.cap]) (by rfl) (by rfl) fun h5 f5'' s5 o6 => ?_
    have f5 : Fr (fun _ => False) h4 h5 := f5'.tr f5'' fun b hb hi => by omega
    have z5 := f5.size
    have l6 := o6.lt
    have T5 : TwoV (fun b => h.size ≤ b ∧ b ≠ t6.block) h5 v y l1 l2 l1 l2 := (T4.to fun b hb hi => ⟨hi, by omega⟩).fr0 f5
    have f45 : Fr (fun b => h.size ≤ b) h3 h5 := f4.trans (f5.mono fun _ h => h.elim)
    have hD : ∀ {a : Heap}, h5.size ≤ a.size → ∀ b, a.size ≤ b → h.size ≤ b ∧ b ≠ t6.block := fun hz b hb => by omega
    have oo5 : SlOk 2 S_api_FlowOp.vals S_api_FlowOp.ok h5 cl.Ops := SlOk.fr0 S_api_FlowOp.ok_fr f5 oo
    have F5 := f14.trans f5
    have cont : ∀ (h' : Heap) (m1 m2 : List Nm), Fr (fun b => h.size ≤ b ∧ b ≠ t6.block) h5 h' → TwoV (fun b => h.size ≤ b ∧ b ≠ t6.block) h' v y m1 m2 m1 m2 → Good m1 → Good m2 → law48_FlowvarsCalls_b2 w.p w.xs.length w.cap (some v) (some y) t6 ((w.xs.length : Nat) : Int) (i : Int) Q
        (fun s'' h' => (∃ (k : Nat) (l1 l2 : List Nm), s'' = (k : Int) ∧ k ≤ w.xs.length ∧ Fr (fun b => h.size ≤ b) h3 h' ∧ TwoV (fun b => h.size ≤ b) h' v y l1 l2 l1 l2 ∧ Good l1 ∧ Good l2) ∧ w.xs.length - s''.toNat < w.xs.length - (i : Int).toNat) h' := by
      intro h' m1 m2 f' T' k1 k2
      refine calls_b2 T' k1 k2 (o6.fr f' fun h => h.2 rfl) fun h'' f'' => ?_
      rw [wr (by omega) (by omega)]
      exact ⟨⟨i + 1, m1, m2, rfl, hlt, (f45.trans (f'.mono fun b h => h.1)).trans (f''.mono fun _ h => h.elim), (T'.fr0 f'').to fun b _ h => h.1, k1, k2⟩, by omega⟩
    have c5 := o6.cells
    have lift : ∀ {a : Heap}, Fr (fun b => h.size ≤ b ∧ b ≠ t6.block) h5 a → Fr (fun _ => False) h a := fun f => F5.tr f fun b hb hi => by omega
    refine ldI_mk (c5.at0 rfl) (ifE (fun _ => ?_) fun _ => ?_)
    · refine ldI_mk (c5.at (j := 1) rfl) (ldL_mk (c5.at (j := 2) rfl) (ldI_mk (c5.at (j := 1) rfl) (ldL_mk (c5.at (j := 2) rfl) ?_)))
      obtain ⟨ok, q1, q2, A', hok', up⟩ := T5.prog (hD (Nat.le_refl _))
      refine do_c A' hok' cl.Dir oo5 (by omega) fun h6 s1 s2 f6 A6 => ⟨_, rfl, ?_⟩
      obtain ⟨T6, g6⟩ := up h6 _ _ _ _ (f6.mono fun b hb => hb ▸ A'.okv) A6
      have c6 := (o6.fr g6 fun h => h.2 rfl).cells
      refine ⟨ldI_mk (c6.at (j := 1) rfl) rfl, ldL_mk (c6.at (j := 2) rfl) rfl, ?_⟩
      obtain ⟨ok', B', hok'', up'⟩ := T6.ref (hD g6.size)
      have oo6 : SlOk 2 S_api_FlowOp.vals S_api_FlowOp.ok h6 cl.Ops := by
        obtain ⟨ad', hp', c', ho'⟩ := (SlOk.fr0 S_intrusionlaw48_Call.ok_fr (lift g6) ow).at_ i hlt
        rw [hg] at ho'; exact ho'.k2
      refine rDo_c B' g1.len g2.len hok'' cl.Dir oo6 (by omega) fun h7 f7 B7 => ⟨_, rfl, ?_⟩
      obtain ⟨T7, g7⟩ := up' h7 _ _ (f7.mono fun b hb => hb ▸ B'.okv) B7
      rw [if_neg (by simp)]
      exact cont h7 _ _ (g6.trans g7) T7 (g1.doS1 g2 _ _) (g1.doS2 g2 _ _)
    refine ifE (fun _ => ?_) fun _ => ?_
    · refine ldI_mk (c5.at (j := 1) rfl) (ldL_mk (c5.at (j := 2) rfl) (ldI_mk (c5.at (j := 1) rfl) (ldL_mk (c5.at (j := 2) rfl) ?_)))
      obtain ⟨okP, okR, r1, r2, A, B, dj, lt⟩ := T5
      refine holds_c A cl.Dir oo5 (by omega) fun h6 f6 => ⟨_, rfl, ?_⟩
      have c6 := (o6.fr0 f6).cells
      refine ⟨ldI_mk (c6.at (j := 1) rfl) rfl, ldL_mk (c6.at (j := 2) rfl) rfl, ?_⟩
      refine rHolds_c (B.fr0 f6) g1.len g2.len cl.Dir (SlOk.fr0 S_api_FlowOp.ok_fr f6 oo5) (by omega) fun h7 f7 => ⟨_, rfl, ?_⟩
      rw [if_neg (by simp)]
      exact cont h7 _ _ ((f6.trans f7).mono fun _ h => h.elim) (TwoV.fr0 (f6.trans f7) ⟨okP, okR, r1, r2, A, B, dj, lt⟩) g1 g2
    refine ifE (fun _ => ?_) fun _ => ?_
    · obtain ⟨ok, q1, q2, A', hok', up⟩ := T5.prog (hD (Nat.le_refl _))
      refine clear_c A' fun h6 f6 A6 => ⟨rfl, ?_⟩
      obtain ⟨T6, g6⟩ := up h6 _ _ _ _ f6 A6
      obtain ⟨ok', B', hok'', up'⟩ := T6.ref (hD g6.size)
      refine rClear_c B' fun h7 f7 B7 => ⟨rfl, ?_⟩
      obtain ⟨T7, g7⟩ := up' h7 _ _ (f7.mono fun b hb => hb ▸ B'.okv) B7
      exact cont h7 _ _ (g6.trans g7) T7 Good.nil Good.nil
    · exact cont h5 _ _ (Fr.refl _ _) T5 g1 g2
  · unfold law48_FlowvarsCalls_b3
    exact awake_c fun h' f => ⟨_, rfl, hk h' (f14.trans f)⟩
end Go.Proofs.Ytflkadcffgpagaa
