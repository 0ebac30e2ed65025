/-
  The law FlowvarsOrders.
-/
import Derived.Test.YtflkadcffgpagaaFvJ
namespace Go.Proofs.Ytflkadcffgpagaa
set_option linter.unusedSimpArgs false
set_option linter.unusedVariables false
set_option maxRecDepth 20000
open Go
open Go.IntKind (wrap)
/-- Whether the last of the operations on a name sets it. -/
def stepB (n : Nm) (b : Bool) (o : S_api_FlowOp) : Bool := if o.Name = n ∧ (o.Op = 1 ∨ o.Op = 2) then decide (o.Op = 1) else b
def setB (n : Nm) (b : Bool) (ops : List S_api_FlowOp) : Bool := ops.foldl (stepB n) b
theorem doL_set (n : Nm) : ∀ (ops : List S_api_FlowOp) (l : List Nm), (doL l ops).1 = 0 → decide (n ∈ (doL l ops).2) = setB n (decide (n ∈ l)) ops
  | [], l, _ => rfl
  | o :: os, l, h => by
    rw [doL_cons] at h ⊢
    show _ = setB n (stepB n (decide (n ∈ l)) o) os
    unfold stepB
    by_cases h1 : o.Op < 1 ∨ o.Op > 4
    · rw [if_pos h1] at h; exact absurd h (show ¬ ((4 : Int) = 0) by decide)
    rw [if_neg h1] at h ⊢
    by_cases h2 : isNameB o.Name = false
    · rw [if_pos h2] at h; exact absurd h (show ¬ ((5 : Int) = 0) by decide)
    rw [if_neg h2] at h ⊢
    by_cases h3 : o.Op = 2
    · rw [if_pos h3] at h ⊢
      rw [doL_set n os _ h]
      congr 1
      by_cases hn : o.Name = n
      · rw [if_pos ⟨hn, .inr h3⟩]
        exact (decide_eq_false fun hm => (mem_without.1 hm).2 hn.symm).trans (decide_eq_false (by omega)).symm
      · rw [if_neg fun h => hn h.1, decide_eq_decide, mem_without]
        exact ⟨fun h => h.1, fun h => ⟨h, fun e => hn e.symm⟩⟩
    rw [if_neg h3] at h ⊢
    by_cases h4 : o.Op = 1
    · rw [if_pos h4] at h ⊢
      by_cases h5 : o.Name ∉ l ∧ l.length ≥ 32
      · rw [if_pos h5] at h; exact absurd h (show ¬ ((11 : Int) = 0) by decide)
      rw [if_neg h5] at h ⊢
      rw [doL_set n os _ h]
      congr 1
      by_cases hn : o.Name = n
      · rw [if_pos ⟨hn, .inl h4⟩, decide_eq_true h4]
        exact decide_eq_true (mem_with.2 (.inl hn.symm))
      · rw [if_neg fun h => hn h.1, decide_eq_decide, mem_with]
        exact ⟨fun h => h.resolve_left fun e => hn e.symm, .inr⟩
    rw [if_neg h4] at h ⊢
    rw [doL_set n os _ h, if_neg fun h => by rcases h.2 with h | h; exact h4 h; exact h3 h]
theorem doS_sel {d : Int} {l1 l2 : List Nm} {ops : List S_api_FlowOp} (h : (doS d l1 l2 ops).1 = 0) : (doL (selL d l1 l2) ops).1 = 0 ∧ selL d (doS d l1 l2 ops).2.1 (doS d l1 l2 ops).2.2 = (doL (selL d l1 l2) ops).2 := by
  unfold doS selL at *
  by_cases h1 : d = 1
  · rw [if_pos h1] at h ⊢
    dsimp only at h ⊢
    rw [if_pos h1, if_pos h1, if_pos h]
    exact ⟨h, rfl⟩
  rw [if_neg h1] at h ⊢
  by_cases h2 : d = 2
  · rw [if_pos h2] at h ⊢
    dsimp only at h ⊢
    rw [if_neg h1, if_pos h2, if_neg h1, if_pos h2, if_pos h]
    exact ⟨h, rfl⟩
  rw [if_neg h2] at h
  exact absurd h (show ¬ ((4 : Int) = 0) by decide)
theorem doS_other {c d : Int} {l1 l2 : List Nm} {ops : List S_api_FlowOp} (h : (doS c l1 l2 ops).1 ≠ 0 ∨ c ≠ d) : selL d (doS c l1 l2 ops).2.1 (doS c l1 l2 ops).2.2 = selL d l1 l2 := by
  have k1 := @doS_keep1 c l1 l2 ops
  have k2 := @doS_keep2 c l1 l2 ops
  unfold selL
  by_cases h1 : d = 1
  · rw [if_pos h1, if_pos h1]
    exact k1 (h.imp id fun h e => h (e.trans h1.symm))
  rw [if_neg h1, if_neg h1]
  by_cases h2 : d = 2
  · rw [if_pos h2, if_pos h2]
    exact k2 (h.imp id fun h e => h (e.trans h2.symm))
  rw [if_neg h2, if_neg h2]
theorem asc_at {m : List Nm} (h : Asc m) {i : Nat} (hi : i + 1 < m.length) : m[i] < m[i + 1] := (List.pairwise_iff_getElem.1 h) i (i + 1) (by omega) hi (by omega)
theorem no_le {x s : Nm} (h : s < x) : (Op.bytesLess (bs x).toList (bs s).toList || ((bs x).toList == (bs s).toList)) = false := by
  have := gt_iff (x := x) (s := s)
  rw [decide_eq_true h] at this
  simpa using this
section
variable {ok : Nat → Prop} {h : Heap} {v : Addr} {r1 r2 : Nat} {l1 l2 : List Nm} {dir : Int} {n : Nm}
theorem orders_b5 [Gh] (V : VarF ok h v r1 r2 l1 l2) (g1 : Good l1) (g2 : Good l2) (hn : n.length ≤ 9223372036854775807) {p : Option Addr} {cap : Nat} {Q : Value → Heap → Prop}
    (hk : ∀ h', Fr (fun _ => False) h h' → Q (.bool true) h') : law48_FlowvarsOrders_b5 dir (bs n) (some v) (decide (n ∈ selL dir l1 l2)) p (selL dir l1 l2).length cap (decide (n ∈ selL dir l1 l2)) Q h := by
  have hl := sel_len g1.len g2.len dir
  unfold law48_FlowvarsOrders_b5
  rw [if_neg (by simp)]
  have ho : ∀ (h : Heap) (op : Int), (Lit.int .i64 op).wf = true → ∀ x ∈ [(⟨op, n⟩ : S_api_FlowOp)], S_api_FlowOp.ok h x := fun h op hop x hx => by
    simp only [List.mem_cons, List.not_mem_nil, or_false] at hx
    subst hx; exact ⟨hop, hn⟩
  have e3 : holdsB (selL dir l1 l2) [⟨3, n⟩] = decide (n ∈ selL dir l1 l2) := by
    unfold holdsB; rw [List.all_cons]
    cases decide (n ∈ selL dir l1 l2) <;> rfl
  have e4 : holdsB (selL dir l1 l2) [⟨4, n⟩] = !decide (n ∈ selL dir l1 l2) := by
    unfold holdsB; rw [List.all_cons]
    cases decide (n ∈ selL dir l1 l2) <;> rfl
  refine al_mk (vs := List.flatMap S_api_FlowOp.vals [⟨3, n⟩]) fun t1 h1 f1 _ o1 => ?_
  refine holds_lit (V.fr0 f1) dir o1 (by simp) (ho _ 3 (by decide)) fun h2 f2 => ⟨_, rfl, ?_⟩
  rw [e3, if_neg (by simp)]
  refine al_mk (vs := List.flatMap S_api_FlowOp.vals [⟨4, n⟩]) fun t2 h3 f3 _ o3 => ?_
  refine holds_lit (((V.fr0 f1).fr0 f2).fr0 f3) dir o3 (by simp) (ho _ 4 (by decide)) fun h4 f4 => ⟨_, rfl, ?_⟩
  rw [e4, if_neg (by simp)]
  refine ifD (fun _ => ?_) fun h => absurd h (by omega)
  exact awake_c fun h' f => ⟨_, rfl, hk h' ((((f1.trans f2).trans f3).trans f4).trans f)⟩
theorem orders_b6 [Gh] {p : Option Addr} {cap : Nat} {m : List Nm} (R : Row 1 strV h p cap m) (g : Good m) {set found : Bool} {i : Nat} (hi : i < m.length) {Q : Value → Heap → Prop} {Kn : Bool × Int → Heap → Prop}
    (hk : Kn (found, (i : Int) + 1) h) : law48_FlowvarsOrders_b6 dir (bs n) (some v) set p m.length cap found (i : Int) ((m.length : Nat) : Int) (i : Int) Q Kn h := by
  have gl := g.len
  unfold law48_FlowvarsOrders_b6
  have tail : idxA (i : Int) m.length (nn p fun t128 => ldS h (Addr.add t128 ((i : Int).toNat * 1)) fun t129 => CallT Try.prog fn_lexer_IsName #[.string t129] h fun v h10 => ∃ t130 : Bool, v = .bool t130 ∧ if (!t130) = true then (Q (.bool false) h10) else (Kn (found, wrap .i64 ((i : Int) + 1)) h10)) := by
    refine R.idx strV_len (by omega) i rfl hi fun ad c => ?_
    rw [Int.toNat_natCast]
    refine ldS_mk (c.at0 rfl) (isName_c _ ⟨_, rfl, ?_⟩)
    rw [g.nm _ (List.getElem_mem hi), if_neg (by decide), wr (by omega) (by omega)]
    exact hk
  refine ifD (fun e => ?_) fun e => tail
  obtain ⟨k, rfl⟩ : ∃ k, i = k + 1 := ⟨i - 1, by omega⟩
  refine R.idx strV_len (by omega) (k + 1) rfl hi fun ad c => ?_
  rw [Int.toNat_natCast]
  refine ldS_mk (c.at0 rfl) ?_
  have ek : wrap .i64 (((k + 1 : Nat) : Int) - 1) = (k : Int) := by rw [wr (by omega) (by omega)]; omega
  refine R.idx strV_len (by omega) k ek (by omega) fun ad c => ?_
  rw [ek, Int.toNat_natCast]
  refine ldS_mk (c.at0 rfl) ?_
  rw [no_le (asc_at g.asc hi), if_neg (by decide)]
  exact tail
theorem orders_b3 [Gh] (V : VarF ok h v r1 r2 l1 l2) (g1 : Good l1) (g2 : Good l2) (hn : n.length ≤ 9223372036854775807) {set : Bool} (hs : set = decide (n ∈ selL dir l1 l2)) {Q : Value → Heap → Prop}
    (hk : ∀ h', Fr (fun _ => False) h h' → Q (.bool true) h') : law48_FlowvarsOrders_b3 dir (bs n) (some v) set Q h := by
  subst hs
  unfold law48_FlowvarsOrders_b3
  refine good_names V g1 g2 dir fun p cap h1 f1 R1 _ => ⟨_, _, _, rfl, ?_⟩
  have V1 := V.fr0 f1
  have b5 := orders_b5 (p := p) (cap := cap) (dir := dir) (Q := Q) V1 g1 g2 hn fun h' f => hk h' (f1.trans f)
  have gm := g1.sel g2 dir
  generalize selL dir l1 l2 = m at *
  have gl := gm.len
  refine LoopV.mk (fun s h' => ∃ (i : Nat), s.2 = (i : Int) ∧ i ≤ m.length ∧ h' = h1 ∧ s.1 = decide (n ∈ m.take i)) (fun s _ => m.length - s.2.toNat) ⟨0, rfl, by omega, rfl, by simp⟩ ?_
  rintro ⟨found, j⟩ h2 ⟨i, hj, hi, hh, hf⟩
  have hj : j = (i : Int) := hj
  subst hj hh
  have hf : found = decide (n ∈ m.take i) := hf
  unfold law48_FlowvarsOrders_l4
  refine ifD (fun e => ?_) fun e => ?_
  · have hlt : i < m.length := by omega
    have htk : m.take (i + 1) = m.take i ++ [m[i]] := by rw [List.take_append_getElem]
    have go : ∀ b : Bool, b = decide (n ∈ m.take (i + 1)) → (∃ (k : Nat), (i : Int) + 1 = (k : Int) ∧ k ≤ m.length ∧ h2 = h2 ∧ b = decide (n ∈ m.take k)) ∧ m.length - ((i : Int) + 1).toNat < m.length - (i : Int).toNat := fun b hb => ⟨⟨i + 1, rfl, hlt, rfl, hb⟩, by omega⟩
    refine ifB (fun e2 => ?_) fun e2 => ?_
    · refine orders_b6 R1 gm hlt (go true ?_)
      rw [show found = true from e2] at hf
      have hm := of_decide_eq_true hf.symm
      exact (decide_eq_true (by rw [htk]; exact List.mem_append_left _ hm)).symm
    · refine R1.idx strV_len (by omega) i rfl hlt fun ad c => ?_
      rw [Int.toNat_natCast]
      refine ldS_mk (c.at0 rfl) ?_
      refine orders_b6 R1 gm hlt (go ((bs m[i]).toList == (bs n).toList) ?_)
      rw [show found = false from e2] at hf
      have hm := of_decide_eq_false hf.symm
      rw [bs_toList, bs_toList, Bool.eq_iff_iff, beq_iff_eq, decide_eq_true_eq, htk, List.mem_append, List.mem_singleton]
      exact ⟨fun h => .inr h.symm, fun h => (h.resolve_left hm).symm⟩
  · rw [List.take_of_length_le (by omega)] at hf
    rw [hf]; exact b5
end
set_option maxHeartbeats 1000000 in
theorem FlowvarsOrders_c [Gh] (w : Sl S_intrusionlaw48_Call) (dir : Int) (n : Nm) {h : Heap} (ow : SlOk 3 S_intrusionlaw48_Call.vals S_intrusionlaw48_Call.ok h w) (_ : kOk .i64 h dir) (hn : sOk h n) {Q : Value → Heap → Prop} (hk : ∀ h', Fr (fun _ => False) h h' → Q (.bool true) h') :
    CallT Try.prog fn_law48_FlowvarsOrders #[.slice w.p w.xs.length w.cap, .int .i64 dir, .string (bs n)] h Q := by
  apply law48_FlowvarsOrders_s
  unfold law48_FlowvarsOrders_v
  refine new_c fun v r1 r2 h1 f1 V1 => ⟨_, rfl, ifNS ?_⟩
  have z1 := f1.size
  refine large_c (SlOk.fr0 S_intrusionlaw48_Call.ok_fr f1 ow) fun b hb => ⟨_, rfl, ?_⟩
  refine ifB (fun _ => awake_c fun h' f => ⟨_, rfl, hk h' (f1.trans f)⟩) fun hbf => ?_
  refine ifD (fun _ => awake_c fun h' f => ⟨_, rfl, hk h' (f1.trans f)⟩) fun _ => ?_
  obtain ⟨h60, h40⟩ := hb hbf
  refine LoopV.mk (fun s h' => ∃ (i : Nat) (q1 q2 : Nat) (l1 l2 : List Nm), s.2 = (i : Int) ∧ i ≤ w.xs.length ∧ Fr (fun _ => False) h h' ∧ VarF (fun b => h.size ≤ b) h' v q1 q2 l1 l2 ∧ Good l1 ∧ Good l2 ∧ s.1 = decide (n ∈ selL dir l1 l2)) (fun s _ => w.xs.length - s.2.toNat)
    ⟨0, r1, r2, [], [], rfl, by omega, f1, V1, Good.nil, Good.nil, by unfold selL; simp⟩ ?_
  rintro ⟨set, j⟩ h2 ⟨i, q1, q2, l1, l2, hj, hi, f2, V2, g1, g2, hset⟩
  have hj : j = (i : Int) := hj
  subst hj
  have hset : set = decide (n ∈ selL dir l1 l2) := hset
  have z2 := f2.size
  unfold law48_FlowvarsOrders_l1
  refine ifD (fun e => ?_) fun e => ?_
  · have hlt : i < w.xs.length := by omega
    obtain ⟨ad, hp, c, hok⟩ := (SlOk.fr0 S_intrusionlaw48_Call.ok_fr f2 ow).at_ i hlt
    have c : Cells h2 (ad.add (i * 3)) [.int .i64 w.xs[i].Kind, .int .i64 w.xs[i].Dir, .slice w.xs[i].Ops.p w.xs[i].Ops.xs.length w.xs[i].Ops.cap] := c
    have oo := hok.k2
    have hl40 := h40 _ (List.getElem_mem hlt)
    generalize hg : w.xs[i] = cl at *
    have ix : ∀ {K : Addr → Prop}, K ad → idxA (i : Int) w.xs.length (nn w.p fun a => K a) := fun hK => idxA_mk i rfl hlt (by rw [hp]; exact nn_mk hK)
    refine ix ?_
    rw [Int.toNat_natCast]
    refine ldI_mk (c.at0 rfl) (ldI_mk (c.at (j := 1) rfl) (ldL_mk (c.at (j := 2) rfl) ?_))
    refine al_mk (vs := [.int .i64 0, .int .i64 0, .slice none 0 0]) fun t6 h5' f5' e5 o5' => ?_
    refine stN_own o5' (ws := [.int .i64 cl.Kind, .int .i64 cl.Dir, .slice cl.Ops.p cl.Ops.xs.length cl.Ops.cap]) (by rfl) (by rfl) fun h5 f5'' s5 o6 => ?_
    have f5 : Fr (fun _ => False) h2 h5 := f5'.tr f5'' fun b hb hi => by omega
    have z5 := f5.size
    have F5 := f2.trans f5
    have V5 := V2.fr0 f5
    have c5 := o6.cells
    have hv6 : t6.block ≠ v.block := by have := V2.own.lt; omega
    have go : ∀ (s : Bool) (h' : Heap) (s1 s2 : Nat) (m1 m2 : List Nm), Fr (fun _ => False) h h' → VarF (fun b => h.size ≤ b) h' v s1 s2 m1 m2 → Good m1 → Good m2 → s = decide (n ∈ selL dir m1 m2) → (∃ (k : Nat) (q1 q2 : Nat) (l1 l2 : List Nm), wrap .i64 ((i : Int) + 1) = (k : Int) ∧ k ≤ w.xs.length ∧ Fr (fun _ => False) h h' ∧ VarF (fun b => h.size ≤ b) h' v q1 q2 l1 l2 ∧ Good l1 ∧ Good l2 ∧ s = decide (n ∈ selL dir l1 l2)) ∧ w.xs.length - (wrap .i64 ((i : Int) + 1)).toNat < w.xs.length - (i : Int).toNat := fun s h' s1 s2 m1 m2 F' V' k1 k2 hs => by
      rw [wr (by omega) (by omega)]
      exact ⟨⟨i + 1, s1, s2, m1, m2, rfl, hlt, F', V', k1, k2, hs⟩, by omega⟩
    refine ldI_mk (c5.at0 rfl) (ifE (fun _ => ?_) fun _ => ?_)
    · refine clear_c V5 fun h6 f6 V6 => ⟨rfl, ?_⟩
      exact go false h6 _ _ _ _ (F5.tr f6 fun b hb hi => by omega) V6 Good.nil Good.nil (by unfold selL; simp)
    refine ldI_mk (c5.at (j := 1) rfl) (ldL_mk (c5.at (j := 2) rfl) ?_)
    refine do_c V5 (fun b hb => by omega) cl.Dir (SlOk.fr0 S_api_FlowOp.ok_fr f5 oo) (by omega) fun h6 s1 s2 f6 V6 => ⟨_, rfl, ?_⟩
    have F6 : Fr (fun _ => False) h h6 := F5.tr f6 fun b hb hi => by have := V5.okv; omega
    have k1 := g1.doS1 g2 cl.Dir cl.Ops.xs
    have k2 := g1.doS2 g2 cl.Dir cl.Ops.xs
    have o6 := o6.fr f6 hv6
    have c6 := o6.cells
    refine ifNe (fun e1 => ?_) fun e1 => ?_
    · exact go set h6 _ _ _ _ F6 V6 k1 k2 (by rw [doS_other (.inl e1)]; exact hset)
    refine ldI_mk (c6.at (j := 1) rfl) (ifNe (fun e2 => ?_) fun e2 => ?_)
    · exact go set h6 _ _ _ _ F6 V6 k1 k2 (by rw [doS_other (.inr e2)]; exact hset)
    have e2 : cl.Dir = dir := e2
    have hsel := doS_sel e1
    have hfin := doL_set n cl.Ops.xs (selL cl.Dir l1 l2) hsel.1
    rw [← hsel.2] at hfin
    rw [e2] at hfin V6 k1 k2
    rw [← hset] at hfin
    have oo6 : SlOk 2 S_api_FlowOp.vals S_api_FlowOp.ok h6 cl.Ops := by
      obtain ⟨ad', hp', c', ho'⟩ := (SlOk.fr0 S_intrusionlaw48_Call.ok_fr F6 ow).at_ i hlt
      rw [hg] at ho'; exact ho'.k2
    refine ldL_mk (c6.at (j := 2) rfl) ?_
    refine LoopV.mk (fun s h' => ∃ (k : Nat), s.2 = (k : Int) ∧ k ≤ cl.Ops.xs.length ∧ h' = h6 ∧ s.1 = setB n set (cl.Ops.xs.take k)) (fun s _ => cl.Ops.xs.length - s.2.toNat) ⟨0, rfl, by omega, rfl, rfl⟩ ?_
    rintro ⟨b, j⟩ h7 ⟨k, hj, hk2, hh, hb⟩
    have hj : j = (k : Int) := hj
    subst hj hh
    have hb : b = setB n set (cl.Ops.xs.take k) := hb
    unfold law48_FlowvarsOrders_l2
    refine ifD (fun e4 => ?_) fun e4 => ?_
    · have hlk : k < cl.Ops.xs.length := by omega
      have htk : cl.Ops.xs.take (k + 1) = cl.Ops.xs.take k ++ [cl.Ops.xs[k]] := by rw [List.take_append_getElem]
      obtain ⟨ad2, hp2, c2, _⟩ := oo6.at_ k hlk
      have c2 : Cells h7 (ad2.add (k * 2)) [.int .i64 cl.Ops.xs[k].Op, .string (bs cl.Ops.xs[k].Name)] := c2
      have ix2 : ∀ {K : Addr → Prop}, K ad2 → idxA (k : Int) cl.Ops.xs.length (nn cl.Ops.p fun a => K a) := fun hK => idxA_mk k rfl hlk (by rw [hp2]; exact nn_mk hK)
      have gob : ∀ b' : Bool, b' = stepB n b cl.Ops.xs[k] → (∃ (k' : Nat), wrap .i64 ((k : Int) + 1) = (k' : Int) ∧ k' ≤ cl.Ops.xs.length ∧ h7 = h7 ∧ b' = setB n set (cl.Ops.xs.take k')) ∧ cl.Ops.xs.length - (wrap .i64 ((k : Int) + 1)).toNat < cl.Ops.xs.length - (k : Int).toNat := fun b' hb' => by
        rw [wr (by omega) (by omega)]
        refine ⟨⟨k + 1, rfl, hlk, rfl, ?_⟩, by omega⟩
        rw [htk, hb', hb]
        unfold setB
        rw [List.foldl_append]; rfl
      unfold stepB at gob
      generalize cl.Ops.xs[k] = o at *
      rw [Int.toNat_natCast]
      refine ldL_mk (c6.at (j := 2) rfl) (ix2 (ldS_mk (c2.at (j := 1) rfl) (ifS (fun e5 => ?_) fun e5 => ?_)))
      · refine ldL_mk (c6.at (j := 2) rfl) (ix2 (ldI_mk (c2.at0 rfl) (ifE (fun e6 => ?_) fun e6 => ?_)))
        · refine ldL_mk (c6.at (j := 2) rfl) (ix2 (ldI_mk (c2.at0 rfl) (gob _ ?_)))
          rw [if_pos ⟨e5, .inl e6⟩]; rfl
        · refine ldL_mk (c6.at (j := 2) rfl) (ix2 (ldI_mk (c2.at0 rfl) (ifE (fun e7 => ?_) fun e7 => ?_)))
          · refine ldL_mk (c6.at (j := 2) rfl) (ix2 (ldI_mk (c2.at0 rfl) (gob _ ?_)))
            rw [if_pos ⟨e5, .inr e7⟩]; rfl
          · exact gob _ (by rw [if_neg fun h => by rcases h.2 with h | h; exact e6 h; exact e7 h])
      · exact gob _ (by rw [if_neg fun h => e5 h.1])
    · rw [List.take_of_length_le (by omega)] at hb
      exact go b h7 _ _ _ _ F6 V6 k1 k2 (by rw [hb, hfin])
  · exact orders_b3 V2 g1 g2 hn hset fun h' f => hk h' (f2.trans f)
end Go.Proofs.Ytflkadcffgpagaa
