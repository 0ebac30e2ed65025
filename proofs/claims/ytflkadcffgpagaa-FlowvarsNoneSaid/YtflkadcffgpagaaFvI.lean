/-
  The laws FlowvarsNone, FlowvarsFails and FlowvarsConditions.
-/
import Derived.Test.YtflkadcffgpagaaFvH
import Derived.Test.YtflkadcffgpagaaSubSl
namespace Go.Proofs.Ytflkadcffgpagaa
set_option linter.unusedSimpArgs false
set_option linter.unusedVariables false
set_option maxRecDepth 20000
open Go
open Go.IntKind (wrap)
theorem FlowvarsNone_c [Gh] (r : S_intrusionlaw48_Call) {h : Heap} (_ : S_intrusionlaw48_Call.ok h r) {Q : Value → Heap → Prop} (hk : ∀ h', Fr (fun _ => False) h h' → Q (.bool true) h') :
    CallT Try.prog fn_law48_FlowvarsNone #[.agg r.vals.toArray] h Q := by
  apply law48_FlowvarsNone_s
  unfold law48_FlowvarsNone_v
  refine al_mk (vs := [.int .i64 r.Kind, .int .i64 r.Dir, .slice r.Ops.p r.Ops.xs.length r.Ops.cap]) fun t1 h1 f1 e1 o1 => ?_
  have c := o1.cells
  apply flowvars_Vars_Clear_s
  unfold flowvars_Vars_Clear_v
  rw [if_neg (by decide)]
  refine ⟨rfl, ?_⟩
  refine ldI_mk (c.at (j := 1) rfl) (ldL_mk (c.at (j := 2) rfl) ?_)
  apply flowvars_Vars_Do_s
  unfold flowvars_Vars_Do_v
  refine ifNN ⟨_, rfl, ?_⟩
  rw [if_pos (by decide)]
  refine ldI_mk (c.at (j := 1) rfl) (ldL_mk (c.at (j := 2) rfl) ?_)
  apply flowvars_Vars_Holds_s
  unfold flowvars_Vars_Holds_v
  refine ifNN ⟨_, rfl, ?_⟩
  rw [if_pos (by decide)]
  refine ldI_mk (c.at (j := 1) rfl) ?_
  apply flowvars_Vars_Names_s
  unfold flowvars_Vars_Names_v
  refine ifNN (⟨_, _, _, rfl, ?_⟩)
  rw [if_pos (by decide)]
  exact awake_c fun h2 f2 => ⟨_, rfl, hk h2 (f1.trans f2)⟩
theorem doS_keep1 {dir : Int} {l1 l2 : List Nm} {ops : List S_api_FlowOp} (h : (doS dir l1 l2 ops).1 ≠ 0 ∨ dir ≠ 1) : (doS dir l1 l2 ops).2.1 = l1 := by
  unfold doS at h ⊢
  split
  · rename_i e
    rw [if_pos e] at h
    rcases h with h | h
    · dsimp only at h ⊢; rw [if_neg h]
    · exact absurd e h
  · split <;> rfl
theorem doS_keep2 {dir : Int} {l1 l2 : List Nm} {ops : List S_api_FlowOp} (h : (doS dir l1 l2 ops).1 ≠ 0 ∨ dir ≠ 2) : (doS dir l1 l2 ops).2.2 = l2 := by
  unfold doS at h ⊢
  split
  · rfl
  · rename_i e1
    rw [if_neg e1] at h
    split
    · rename_i e
      rw [if_pos e] at h
      rcases h with h | h
      · dsimp only at h ⊢; rw [if_neg h]
      · exact absurd e h
    · rfl
theorem names1 [Gh] {ok : Nat → Prop} {h : Heap} {v : Addr} {r1 r2 : Nat} {l1 l2 : List Nm} (V : VarF ok h v r1 r2 l1 l2) (g1 : Good l1) (g2 : Good l2) {Q : Value → Heap → Prop}
    (hk : ∀ p cap h', Fr (fun _ => False) h h' → Row 1 strV h' p cap l1 → (∀ b, InA p b → h.size ≤ b) → Q (.slice p l1.length cap) h') : CallT Try.prog fn_flowvars_Vars_Names #[.pointer (some v), .int .i64 1] h Q := good_names V g1 g2 1 hk
theorem names2 [Gh] {ok : Nat → Prop} {h : Heap} {v : Addr} {r1 r2 : Nat} {l1 l2 : List Nm} (V : VarF ok h v r1 r2 l1 l2) (g1 : Good l1) (g2 : Good l2) {Q : Value → Heap → Prop}
    (hk : ∀ p cap h', Fr (fun _ => False) h h' → Row 1 strV h' p cap l2 → (∀ b, InA p b → h.size ≤ b) → Q (.slice p l2.length cap) h') : CallT Try.prog fn_flowvars_Vars_Names #[.pointer (some v), .int .i64 2] h Q := good_names V g1 g2 2 hk
set_option maxHeartbeats 1000000 in
theorem FlowvarsFails_c [Gh] (w : Sl S_intrusionlaw48_Call) {h : Heap} (ow : SlOk 3 S_intrusionlaw48_Call.vals S_intrusionlaw48_Call.ok h w) {Q : Value → Heap → Prop} (hk : ∀ h', Fr (fun _ => False) h h' → Q (.bool true) h') :
    CallT Try.prog fn_law48_FlowvarsFails #[.slice w.p w.xs.length w.cap] h Q := by
  apply law48_FlowvarsFails_s
  unfold law48_FlowvarsFails_v
  refine new_c fun v r1 r2 h1 f1 V1 => ⟨_, rfl, ifNS ?_⟩
  have z1 := f1.size
  refine large_c (SlOk.fr0 S_intrusionlaw48_Call.ok_fr f1 ow) fun b hb => ⟨_, rfl, ?_⟩
  refine ifB (fun _ => awake_c fun h' f => ⟨_, rfl, hk h' (f1.trans f)⟩) fun hbf => ?_
  obtain ⟨h60, h40⟩ := hb hbf
  refine LoopV.mk (fun s h' => ∃ (i : Nat) (q1 q2 : Nat) (l1 l2 : List Nm), s = (i : Int) ∧ i ≤ w.xs.length ∧ Fr (fun _ => False) h h' ∧ VarF (fun b => h.size ≤ b) h' v q1 q2 l1 l2 ∧ Good l1 ∧ Good l2) (fun s _ => w.xs.length - s.toNat)
    ⟨0, r1, r2, [], [], rfl, by omega, f1, V1, Good.nil, Good.nil⟩ ?_
  rintro - h2 ⟨i, q1, q2, l1, l2, rfl, hi, f2, V2, g1, g2⟩
  unfold law48_FlowvarsFails_l1
  refine ifD (fun e => ?_) fun e => ?_
  · have hlt : i < w.xs.length := by omega
    refine names1 V2 g1 g2 fun pa ca h3 f3 Ra _ => ⟨_, _, _, rfl, ?_⟩
    refine names2 (V2.fr0 f3) g1 g2 fun pb cb h4 f4 Rb hpb => ⟨_, _, _, rfl, ?_⟩
    have F4 := (f2.trans f3).trans f4
    have z4 := F4.size
    have z3 := f3.size
    obtain ⟨ad, hp, c, hok⟩ := (SlOk.fr0 S_intrusionlaw48_Call.ok_fr F4 ow).at_ i hlt
    have c : Cells h4 (ad.add (i * 3)) [.int .i64 w.xs[i].Kind, .int .i64 w.xs[i].Dir, .slice w.xs[i].Ops.p w.xs[i].Ops.xs.length w.xs[i].Ops.cap] := c
    have oo := hok.k2
    have hl40 := h40 _ (List.getElem_mem hlt)
    generalize hg : w.xs[i] = cl at *
    rw [Int.toNat_natCast, hp]
    have ix : ∀ {K : Addr → Prop}, K ad → idxA (i : Int) w.xs.length (nn (some ad) fun a => K a) := fun hK => idxA_mk i rfl hlt (nn_mk hK)
    refine ix (ldI_mk (c.at (j := 1) rfl) (ix (ldL_mk (c.at (j := 2) rfl) ?_)))
    have V4 := (V2.fr0 f3).fr0 f4
    refine do_c V4 (fun b hb => by omega) cl.Dir oo (by omega) fun h5 s1 s2 f5 V5 => ⟨_, rfl, ?_⟩
    have F5 : Fr (fun _ => False) h h5 := F4.tr f5 fun b hb hi => by have := V4.okv; omega
    have k1 := g1.doS1 g2 cl.Dir cl.Ops.xs
    have k2 := g1.doS2 g2 cl.Dir cl.Ops.xs
    have keep1 := @doS_keep1 cl.Dir l1 l2 cl.Ops.xs
    have keep2 := @doS_keep2 cl.Dir l1 l2 cl.Ops.xs
    have lv := V2.own.lt
    have hov := V4.okv
    have Ra5 := (Ra.fr0 f4).fr f5 fun b hb h => by have := Ra.lt hb; have := ‹∀ b, InA pa b → h2.size ≤ b› b hb; omega
    have Rb5 := Rb.fr f5 fun b hb h => by have := hpb b hb; omega
    have c5 : Cells h5 (ad.add (i * 3)) [.int .i64 cl.Kind, .int .i64 cl.Dir, .slice cl.Ops.p cl.Ops.xs.length cl.Ops.cap] := by
      obtain ⟨ad', hp', c', _⟩ := (SlOk.fr0 S_intrusionlaw48_Call.ok_fr F5 ow).at_ i hlt
      rw [hg] at c'
      rw [hp] at hp'; cases hp'
      exact c'
    generalize (doS cl.Dir l1 l2 cl.Ops.xs).1 = er at *
    generalize (doS cl.Dir l1 l2 cl.Ops.xs).2.1 = n1 at *
    generalize (doS cl.Dir l1 l2 cl.Ops.xs).2.2 = n2 at *
    refine names1 V5 k1 k2 fun pc cc h6 f6 Rc _ => ⟨_, _, _, rfl, ?_⟩
    refine names2 (V5.fr0 f6) k1 k2 fun pd cd h7 f7 Rd _ => ⟨_, _, _, rfl, ?_⟩
    have F7 := (F5.trans f6).trans f7
    have c7 := (c5.fr0 f6).fr0 f7
    have Ra7 := (Ra5.fr0 f6).fr0 f7
    have Rb7 := (Rb5.fr0 f6).fr0 f7
    have Rc7 := Rc.fr0 f7
    have V7 := (V5.fr0 f6).fr0 f7
    have b1 := k1.len
    have b2 := k2.len
    have a1 := g1.len
    have a2 := g2.len
    have sA : ∀ {Q : Value → Heap → Prop}, er ≠ 0 ∨ cl.Dir ≠ 1 → Q (.bool true) h7 → CallT Try.prog fn_law48_same #[.slice pa l1.length ca, .slice pc n1.length cc] h7 Q := fun hd hq => by
      refine same_c Ra7 Rc7 (by omega) ?_
      rw [decide_eq_true (keep1 hd).symm]; exact hq
    have sB : ∀ {Q : Value → Heap → Prop}, er ≠ 0 ∨ cl.Dir ≠ 2 → Q (.bool true) h7 → CallT Try.prog fn_law48_same #[.slice pb l2.length cb, .slice pd n2.length cd] h7 Q := fun hd hq => by
      refine same_c Rb7 Rd (by omega) ?_
      rw [decide_eq_true (keep2 hd).symm]; exact hq
    have fin : (∃ (k : Nat) (q1 q2 : Nat) (l1 l2 : List Nm), wrap .i64 ((i : Int) + 1) = (k : Int) ∧ k ≤ w.xs.length ∧ Fr (fun _ => False) h h7 ∧ VarF (fun b => h.size ≤ b) h7 v q1 q2 l1 l2 ∧ Good l1 ∧ Good l2) ∧ w.xs.length - (wrap .i64 ((i : Int) + 1)).toNat < w.xs.length - (i : Int).toNat := by
      rw [wr (by omega) (by omega)]
      exact ⟨⟨i + 1, s1, s2, n1, n2, rfl, hlt, F7, V7, k1, k2⟩, by omega⟩
    refine ifNe (fun e1 => ?_) fun e1 => ?_
    · refine sA (.inl e1) ⟨_, rfl, ?_⟩
      rw [if_neg (by decide)]
      refine ifNe (fun _ => ?_) fun e => absurd e e1
      refine sB (.inl e1) ⟨_, rfl, ?_⟩
      rw [if_neg (by decide)]
      exact ifD (fun h => absurd h (by omega)) fun _ => ifD (fun h => absurd h (by omega)) fun _ => fin
    · refine ix (ldI_mk (c7.at (j := 1) rfl) (ifNe (fun e2 => ?_) fun e2 => ?_))
      · refine sA (.inr e2) ⟨_, rfl, ?_⟩
        rw [if_neg (by decide)]
        refine ifNe (fun e => absurd e1 e) fun _ => ix (ldI_mk (c7.at (j := 1) rfl) (ifNe (fun e3 => ?_) fun e3 => ?_))
        · refine sB (.inr e3) ⟨_, rfl, ?_⟩
          rw [if_neg (by decide)]
          exact ifD (fun h => absurd h (by omega)) fun _ => ifD (fun h => absurd h (by omega)) fun _ => fin
        · exact ifD (fun h => absurd h (by omega)) fun _ => ifD (fun h => absurd h (by omega)) fun _ => fin
      · refine ifNe (fun e => absurd e1 e) fun _ => ix (ldI_mk (c7.at (j := 1) rfl) (ifNe (fun e3 => ?_) fun e3 => ?_))
        · refine sB (.inr e3) ⟨_, rfl, ?_⟩
          rw [if_neg (by decide)]
          exact ifD (fun h => absurd h (by omega)) fun _ => ifD (fun h => absurd h (by omega)) fun _ => fin
        · exact ifD (fun h => absurd h (by omega)) fun _ => ifD (fun h => absurd h (by omega)) fun _ => fin
  · unfold law48_FlowvarsFails_b2
    exact awake_c fun h' f => ⟨_, rfl, hk h' (f2.trans f)⟩
theorem holdsB_append (l : List Nm) (a b : List S_api_FlowOp) : holdsB l (a ++ b) = (holdsB l a && holdsB l b) := List.all_append
set_option maxHeartbeats 1000000 in
theorem FlowvarsConditions_c [Gh] (w : Sl S_intrusionlaw48_Call) (dir : Int) (u : Sl S_api_FlowOp) {h : Heap} (ow : SlOk 3 S_intrusionlaw48_Call.vals S_intrusionlaw48_Call.ok h w) (_ : kOk .i64 h dir) (ou : SlOk 2 S_api_FlowOp.vals S_api_FlowOp.ok h u) {Q : Value → Heap → Prop} (hk : ∀ h', Fr (fun _ => False) h h' → Q (.bool true) h') :
    CallT Try.prog fn_law48_FlowvarsConditions #[.slice w.p w.xs.length w.cap, .int .i64 dir, .slice u.p u.xs.length u.cap] h Q := by
  apply law48_FlowvarsConditions_s
  unfold law48_FlowvarsConditions_v
  refine new_c fun v r1 r2 h1 f1 V1 => ⟨_, rfl, ifNS ?_⟩
  have z1 := f1.size
  refine large_c (SlOk.fr0 S_intrusionlaw48_Call.ok_fr f1 ow) fun b hb => ⟨_, rfl, ?_⟩
  refine ifB (fun _ => awake_c fun h' f => ⟨_, rfl, hk h' (f1.trans f)⟩) fun hbf => ?_
  refine ifD (fun _ => awake_c fun h' f => ⟨_, rfl, hk h' (f1.trans f)⟩) fun hu40 => ?_
  obtain ⟨h60, h40⟩ := hb hbf
  refine LoopV.mk (fun s h' => ∃ (i : Nat) (q1 q2 : Nat) (l1 l2 : List Nm), s = (i : Int) ∧ i ≤ w.xs.length ∧ Fr (fun _ => False) h h' ∧ VarF (fun b => h.size ≤ b) h' v q1 q2 l1 l2) (fun s _ => w.xs.length - s.toNat)
    ⟨0, r1, r2, [], [], rfl, by omega, f1, V1⟩ ?_
  rintro - h2 ⟨i, q1, q2, l1, l2, rfl, hi, f2, V2⟩
  have z2 := f2.size
  unfold law48_FlowvarsConditions_l1
  refine ifD (fun e => ?_) fun e => ?_
  · have hlt : i < w.xs.length := by omega
    obtain ⟨ad, hp, c, hok⟩ := (SlOk.fr0 S_intrusionlaw48_Call.ok_fr f2 ow).at_ i hlt
    have c : Cells h2 (ad.add (i * 3)) [.int .i64 w.xs[i].Kind, .int .i64 w.xs[i].Dir, .slice w.xs[i].Ops.p w.xs[i].Ops.xs.length w.xs[i].Ops.cap] := c
    have oo := hok.k2
    have hl40 := h40 _ (List.getElem_mem hlt)
    rw [Int.toNat_natCast, hp]
    have ix : ∀ {K : Addr → Prop}, K ad → idxA (i : Int) w.xs.length (nn (some ad) fun a => K a) := fun hK => idxA_mk i rfl hlt (nn_mk hK)
    refine ix (ldI_mk (c.at (j := 1) rfl) (ix (ldL_mk (c.at (j := 2) rfl) ?_)))
    refine do_c V2 (fun b hb => by omega) w.xs[i].Dir oo (by omega) fun h3 s1 s2 f3 V3 => ⟨_, rfl, ?_⟩
    rw [wr (by omega) (by omega)]
    exact ⟨⟨i + 1, s1, s2, _, _, rfl, hlt, f2.tr f3 fun b hb hi => by have := V2.okv; omega, V3⟩, by omega⟩
  · unfold law48_FlowvarsConditions_b2
    generalize hm : selL dir l1 l2 = m
    refine LoopV.mk (fun s h' => ∃ (i : Nat), s.2 = (i : Int) ∧ i ≤ u.xs.length ∧ Fr (fun _ => False) h2 h' ∧ s.1 = holdsB m (u.xs.take i)) (fun s _ => u.xs.length - s.2.toNat)
      ⟨0, rfl, by omega, Fr.refl _ _, rfl⟩ ?_
    rintro ⟨all, j⟩ h3 ⟨k, hj, hku, f3, hall⟩
    have hj : j = (k : Int) := hj
    have hall : all = holdsB m (u.xs.take k) := hall
    subst hj
    have V3 := V2.fr0 f3
    have ou3 := SlOk.fr0 S_api_FlowOp.ok_fr (f2.trans f3) ou
    unfold law48_FlowvarsConditions_l3
    refine ifD (fun e1 => ?_) fun e1 => ?_
    · have hlt : k < u.xs.length := by omega
      have htk : u.xs.take (k + 1) = u.xs.take k ++ [u.xs[k]] := by rw [List.take_append_getElem]
      refine idx_sl ou3 k rfl hlt fun ad c _ => ?_
      have c : Cells h3 (ad.add (k * 2)) [.int .i64 u.xs[k].Op, .string (bs u.xs[k].Name)] := c
      rw [Int.toNat_natCast]
      refine ldS_mk (c.at (j := 1) rfl) (ifD (fun _ => awake_c fun h' f => ⟨_, rfl, hk h' ((f2.trans f3).trans f)⟩) fun _ => ?_)
      refine ifB (fun e2 => ?_) fun e2 => ?_
      · refine sub_sl ou3 k (k + 1) rfl (by rw [wr (by omega) (by omega)]; rfl) (by omega) hlt fun p' o' => ?_
        have es : (u.xs.drop k).take (k + 1 - k) = [u.xs[k]] := by rw [List.drop_eq_getElem_cons hlt, Nat.add_sub_cancel_left]; rfl
        rw [es] at o' ⊢
        refine holds_c V3 dir (w := ⟨p', u.cap - k, [u.xs[k]]⟩) o' (by show [u.xs[k]].length ≤ _; simp) fun h4 f4 => ⟨_, rfl, ?_⟩
        rw [wr (by omega) (by omega), hm]
        refine ⟨⟨k + 1, rfl, hlt, f3.trans f4, ?_⟩, by dsimp only; omega⟩
        show holdsB m [u.xs[k]] = _
        rw [htk, holdsB_append, ← hall, e2]; rfl
      · rw [wr (by omega) (by omega)]
        refine ⟨⟨k + 1, rfl, hlt, f3, ?_⟩, by dsimp only; omega⟩
        show false = _
        rw [htk, holdsB_append, ← hall, e2]; rfl
    · unfold law48_FlowvarsConditions_b4
      rw [List.take_of_length_le (by omega)] at hall
      refine holds_c V3 dir ou3 (by omega) fun h4 f4 => ⟨_, rfl, ?_⟩
      rw [hm, hall, if_pos (by simp)]
      exact awake_c fun h' f => ⟨_, rfl, hk h' (((f2.trans f3).trans f4).trans f)⟩
end Go.Proofs.Ytflkadcffgpagaa
