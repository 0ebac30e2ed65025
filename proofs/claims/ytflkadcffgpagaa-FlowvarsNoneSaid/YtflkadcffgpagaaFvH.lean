/-
  Both side by side; comparison of names; the example; the size of calls.
-/
import Derived.Test.YtflkadcffgpagaaFvG
namespace Go.Proofs.Ytflkadcffgpagaa
set_option linter.unusedSimpArgs false
set_option linter.unusedVariables false
set_option maxRecDepth 20000
open Go
open Go.IntKind (wrap)
theorem VarF.rlt {ok : Nat → Prop} {h : Heap} {v : Addr} {r1 r2 : Nat} {l1 l2 : List Nm} (V : VarF ok h v r1 r2 l1 l2) : VarF (fun b => ok b ∧ b < h.size) h v r1 r2 l1 l2 := V.to ⟨V.okv, V.own.lt⟩ ⟨V.okr.1, V.m1.lt⟩ ⟨V.okr.2, V.m2.lt⟩
def TwoV (D : Nat → Prop) (h : Heap) (v x : Addr) (l1 l2 m1 m2 : List Nm) : Prop :=
  ∃ (okP okR : Nat → Prop) (r1 r2 : Nat), VarF okP h v r1 r2 l1 l2 ∧ RefV okR h x m1 m2 ∧ (∀ b, okP b → okR b → False) ∧ ∀ b, okP b ∨ okR b → D b ∧ b < h.size
section
variable {D : Nat → Prop} {h : Heap} {v x : Addr} {l1 l2 m1 m2 : List Nm}
theorem TwoV.fr0 {h' : Heap} (f : Fr (fun _ => False) h h') (T : TwoV D h v x l1 l2 m1 m2) : TwoV D h' v x l1 l2 m1 m2 := by
  obtain ⟨okP, okR, r1, r2, A, B, dj, lt⟩ := T
  exact ⟨okP, okR, r1, r2, A.fr0 f, B.fr0 f, dj, fun b hb => ⟨(lt b hb).1, by have := (lt b hb).2; have := f.size; omega⟩⟩
theorem TwoV.to {D' : Nat → Prop} (T : TwoV D h v x l1 l2 m1 m2) (hD : ∀ b, b < h.size → D b → D' b) : TwoV D' h v x l1 l2 m1 m2 := by
  obtain ⟨okP, okR, r1, r2, A, B, dj, lt⟩ := T
  exact ⟨okP, okR, r1, r2, A, B, dj, fun b hb => ⟨hD b (lt b hb).2 (lt b hb).1, (lt b hb).2⟩⟩
theorem TwoV.prog (T : TwoV D h v x l1 l2 m1 m2) (hD : ∀ b, h.size ≤ b → D b) : ∃ (ok : Nat → Prop) (r1 r2 : Nat), VarF ok h v r1 r2 l1 l2 ∧ (∀ b, h.size ≤ b → ok b) ∧
    ∀ h' r1' r2' l1' l2', Fr ok h h' → VarF ok h' v r1' r2' l1' l2' → TwoV D h' v x l1' l2' m1 m2 ∧ Fr D h h' := by
  obtain ⟨okP, okR, r1, r2, A, B, dj, lt⟩ := T
  refine ⟨fun b => okP b ∨ h.size ≤ b, r1, r2, A.to (.inl A.okv) (.inl A.okr.1) (.inl A.okr.2), fun b hb => .inr hb, fun h' r1' r2' l1' l2' f A' => ⟨⟨_, okR, r1', r2', A'.rlt, ?_, fun b hb hr => ?_, fun b hb => ?_⟩, f.mono fun b hb => ?_⟩⟩
  · refine B.fr f fun b hb h1 h2 => ?_
    rcases h1 with h1 | h1
    · exact dj b h1 h2
    · omega
  · rcases hb.1 with h | h
    · exact dj b h hr
    · have := (lt b (.inr hr)).2; omega
  · have := f.size
    rcases hb with h | h
    · refine ⟨?_, h.2⟩
      rcases h.1 with h | h
      · exact (lt b (.inl h)).1
      · exact hD b h
    · exact ⟨(lt b (.inr h)).1, by have := (lt b (.inr h)).2; omega⟩
  · rcases hb with h | h
    · exact (lt b (.inl h)).1
    · exact hD b h
theorem TwoV.ref (T : TwoV D h v x l1 l2 m1 m2) (hD : ∀ b, h.size ≤ b → D b) : ∃ (ok : Nat → Prop), RefV ok h x m1 m2 ∧ (∀ b, h.size ≤ b → ok b) ∧
    ∀ h' m1' m2', Fr ok h h' → RefV ok h' x m1' m2' → TwoV D h' v x l1 l2 m1' m2' ∧ Fr D h h' := by
  obtain ⟨okP, okR, r1, r2, A, B, dj, lt⟩ := T
  refine ⟨fun b => okR b ∨ h.size ≤ b, B.to fun b _ h => .inl h, fun b hb => .inr hb, fun h' m1' m2' f B' => ⟨⟨okP, fun b => (okR b ∨ h.size ≤ b) ∧ b < h'.size, r1, r2, ?_, B'.to fun b hb h => ⟨h, hb⟩, fun b hb hr => ?_, fun b hb => ?_⟩, f.mono fun b hb => ?_⟩⟩
  · refine A.fr f fun b hb h1 h2 => ?_
    rcases h1 with h1 | h1
    · exact dj b h2 h1
    · omega
  · rcases hr.1 with h | h
    · exact dj b hb h
    · have := (lt b (.inl hb)).2; omega
  · have := f.size
    rcases hb with h | h
    · exact ⟨(lt b (.inl h)).1, by have := (lt b (.inl h)).2; omega⟩
    · refine ⟨?_, h.2⟩
      rcases h.1 with h | h
      · exact (lt b (.inr h)).1
      · exact hD b h
  · rcases hb with h | h
    · exact (lt b (.inr h)).1
    · exact hD b h
end
theorem same_c [Gh] {h : Heap} {p q : Option Addr} {c d : Nat} {xs ys : List Nm} (R : Row 1 strV h p c xs) (R' : Row 1 strV h q d ys) (hl : xs.length ≤ 1000) {Q : Value → Heap → Prop} (hk : Q (.bool (decide (xs = ys))) h) :
    CallT Try.prog fn_law48_same #[.slice p xs.length c, .slice q ys.length d] h Q := by
  apply law48_same_s
  unfold law48_same_v
  refine ifNe (fun e => ?_) fun e => ?_
  · rw [decide_eq_false (fun h => e (by rw [h]))] at hk; exact hk
  have el : xs.length = ys.length := by omega
  refine LoopV.mk (fun s h' => ∃ (i : Nat), s = (i : Int) ∧ i ≤ xs.length ∧ h' = h ∧ ∀ j (h1 : j < xs.length) (h2 : j < ys.length), j < i → xs[j] = ys[j]) (fun s _ => xs.length - s.toNat) ⟨0, rfl, by omega, rfl, fun j _ _ h => absurd h (by omega)⟩ ?_
  rintro j h2 ⟨i, rfl, hi, hh, hn⟩
  subst h2
  unfold law48_same_l1
  refine ifD (fun e1 => ?_) fun e1 => ?_
  · have hlt : i < xs.length := by omega
    refine R.idx strV_len (by omega) i rfl hlt fun ad ce => ?_
    rw [Int.toNat_natCast]
    refine ldS_mk (ce.at0 rfl) ?_
    refine R'.idx strV_len (by omega) i rfl (by omega) fun ad ce => ?_
    refine ldS_mk (ce.at0 rfl) ?_
    refine ifSn (fun e2 => ?_) fun e2 => ?_
    · rw [decide_eq_false (fun h => by subst h; exact e2 rfl)] at hk; exact hk
    · rw [wr (by omega) (by omega)]
      refine ⟨⟨i + 1, rfl, hlt, rfl, fun j h1 h2 hji => ?_⟩, by omega⟩
      by_cases h : j = i
      · subst h; exact e2
      · exact hn j h1 h2 (by omega)
  · rw [decide_eq_true (List.ext_getElem el fun j h1 h2 => hn j h1 h2 (by omega))] at hk
    exact hk
theorem opV_len (o : S_api_FlowOp) : o.vals.length = 2 := rfl
theorem opsOk {h : Heap} {a : Addr} {ops : List S_api_FlowOp} {T : TypeId} (o : Own h a (ops.flatMap S_api_FlowOp.vals) T) (hl : ops.length ≤ 1000) (hok : ∀ x ∈ ops, S_api_FlowOp.ok h x) : SlOk 2 S_api_FlowOp.vals S_api_FlowOp.ok h ⟨some a, ops.length, ops⟩ :=
  (Row.of_own opV_len o).sl opV_len (by omega) (by omega) hok
theorem nilOps (h : Heap) : SlOk 2 S_api_FlowOp.vals S_api_FlowOp.ok h ⟨none, 0, []⟩ := Row.nil.sl opV_len (by omega) (by simp) fun x hx => (List.not_mem_nil hx).elim
theorem okOp {h : Heap} {op : Int} {nm : Nm} (h1 : (Lit.int .i64 op).wf = true) (h2 : nm.length ≤ 1000) : S_api_FlowOp.ok h ⟨op, nm⟩ := ⟨h1, by unfold sOk; simp only; omega⟩
/-- A call on a literal of operations. -/
theorem do_lit [Gh] {ok : Nat → Prop} {h : Heap} {v : Addr} {r1 r2 : Nat} {l1 l2 : List Nm} (V : VarF ok h v r1 r2 l1 l2) (hok : ∀ b, h.size ≤ b → ok b) (dir : Int) {a : Addr} {ops : List S_api_FlowOp} {T : TypeId} (o : Own h a (ops.flatMap S_api_FlowOp.vals) T) (hl : ops.length ≤ 1000) (ho : ∀ x ∈ ops, S_api_FlowOp.ok h x) {e : Int} {n1 n2 : List Nm} (he : doS dir l1 l2 ops = (e, n1, n2)) {Q : Value → Heap → Prop}
    (hk : ∀ h' r1' r2', Fr (fun b => b = v.block) h h' → VarF ok h' v r1' r2' n1 n2 → Q (.int .i64 e) h') :
    CallT Try.prog fn_flowvars_Vars_Do #[.pointer (some v), .int .i64 dir, .slice (some a) ops.length ops.length] h Q :=
  do_c V hok dir (w := ⟨some a, ops.length, ops⟩) (opsOk o hl ho) (by show ops.length ≤ _; omega) fun h' r1' r2' f V' => by
    dsimp only at V' ⊢
    rw [he] at V' ⊢
    exact hk h' r1' r2' f V'
theorem holds_lit [Gh] {ok : Nat → Prop} {h : Heap} {v : Addr} {r1 r2 : Nat} {l1 l2 : List Nm} (V : VarF ok h v r1 r2 l1 l2) (dir : Int) {a : Addr} {ops : List S_api_FlowOp} {T : TypeId} (o : Own h a (ops.flatMap S_api_FlowOp.vals) T) (hl : ops.length ≤ 1000) (ho : ∀ x ∈ ops, S_api_FlowOp.ok h x) {Q : Value → Heap → Prop}
    (hk : ∀ h', Fr (fun _ => False) h h' → Q (.bool (holdsB (selL dir l1 l2) ops)) h') :
    CallT Try.prog fn_flowvars_Vars_Holds #[.pointer (some v), .int .i64 dir, .slice (some a) ops.length ops.length] h Q :=
  holds_c V dir (w := ⟨some a, ops.length, ops⟩) (opsOk o hl ho) (by show ops.length ≤ _; omega) hk
theorem good_names [Gh] {ok : Nat → Prop} {h : Heap} {v : Addr} {r1 r2 : Nat} {l1 l2 : List Nm} (V : VarF ok h v r1 r2 l1 l2) (g1 : Good l1) (g2 : Good l2) (dir : Int) {Q : Value → Heap → Prop}
    (hk : ∀ p cap h', Fr (fun _ => False) h h' → Row 1 strV h' p cap (selL dir l1 l2) → (∀ b, InA p b → h.size ≤ b) → Q (.slice p (selL dir l1 l2).length cap) h') :
    CallT Try.prog fn_flowvars_Vars_Names #[.pointer (some v), .int .i64 dir] h Q := by
  have nl : ∀ k : Nm, isNameB k = true → k.length ≤ 1000 := fun k hk => by
    unfold isNameB at hk
    simp only [Bool.and_eq_true, decide_eq_true_eq] at hk
    omega
  exact names_c V g1.asc g2.asc g1.len g2.len (fun k hk => nl k (g1.nm k hk)) (fun k hk => nl k (g2.nm k hk)) dir hk
set_option maxHeartbeats 1000000 in
theorem awake_c [Gh] {h : Heap} {Q : Value → Heap → Prop} (hk : ∀ h', Fr (fun _ => False) h h' → Q (.bool true) h') : CallT Try.prog fn_law48_awake #[] h Q := by
  apply law48_awake_s
  unfold law48_awake_v
  refine new_c fun v r1 r2 h1 f1 V1 => ⟨_, rfl, ifNS ?_⟩
  have z1 := f1.size
  refine holds_c V1 1 (w := ⟨none, 0, []⟩) (nilOps h1) (by simp) fun h2 f2 => ⟨_, rfl, ?_⟩
  rw [if_neg (by decide)]
  have z2 := f2.size
  have fin : ∀ {a b : Heap}, Fr (fun _ => False) h a → Fr (fun b => b = v.block) a b → Fr (fun _ => False) h b := fun f g => f.tr g fun x hx hi => by have := V1.okv; omega
  have F2 := f1.trans f2
  refine al_mk (vs := List.flatMap S_api_FlowOp.vals [⟨1, [98]⟩, ⟨1, [97]⟩, ⟨2, [98]⟩]) fun t16 h3 f3 e3 o3 => ?_
  have z3 := f3.size
  refine do_lit ((V1.fr0 f2).fr0 f3) (fun b hb => by omega) 1 o3 (by decide) (by
    intro x hx
    simp only [List.mem_cons, List.not_mem_nil, or_false] at hx
    rcases hx with rfl | rfl | rfl <;> exact okOp (by decide) (by decide)) (e := 0) (n1 := [[97]]) (n2 := []) (by decide) fun h4 q1 q2 f4 V4 => ⟨_, rfl, ?_⟩
  rw [if_neg (by decide)]
  have z4 := f4.size
  have F4 := fin (F2.trans f3) f4
  refine al_mk (vs := List.flatMap S_api_FlowOp.vals [⟨1, [120]⟩]) fun t23 h5 f5 e5 o5 => ?_
  have z5 := f5.size
  refine do_lit (V4.fr0 f5) (fun b hb => by omega) 2 o5 (by decide) (by
    intro x hx
    simp only [List.mem_cons, List.not_mem_nil, or_false] at hx
    subst hx; exact okOp (by decide) (by decide)) (e := 0) (n1 := [[97]]) (n2 := [[120]]) (by decide) fun h6 s1 s2 f6 V6 => ⟨_, rfl, ?_⟩
  rw [if_neg (by decide)]
  have z6 := f6.size
  have F6 := fin (F4.trans f5) f6
  refine al_mk (vs := List.flatMap S_api_FlowOp.vals [⟨3, [120]⟩]) fun t28 h7 f7 e7 o7 => ?_
  have ho : ∀ h, ∀ x ∈ [(⟨3, [120]⟩ : S_api_FlowOp)], S_api_FlowOp.ok h x := fun h x hx => by
    simp only [List.mem_cons, List.not_mem_nil, or_false] at hx
    subst hx; exact okOp (by decide) (by decide)
  have ga : Good [[97]] := ⟨List.pairwise_singleton _ _, by decide, by decide⟩
  have gx : Good [[120]] := ⟨List.pairwise_singleton _ _, by decide, by decide⟩
  have V7 := V6.fr0 f7
  refine good_names V7 ga gx 1 fun p cap h8 f8 R8 _ => ⟨_, _, _, rfl, ?_⟩
  refine al_mk (vs := List.flatMap strV [[97]]) fun t31 h9 f9 e9 o9 => ?_
  refine same_c (ys := [[97]]) (R8.fr0 f9) (Row.of_own strV_len o9) (by decide) ⟨_, rfl, ?_⟩
  rw [if_pos (by decide)]
  have V9 := (V7.fr0 f8).fr0 f9
  have o9 := (o7.fr0 f8).fr0 f9
  refine holds_lit V9 2 o9 (by decide) (ho _) fun h10 f10 => ⟨_, rfl, ?_⟩
  rw [if_pos (by decide)]
  refine holds_lit (V9.fr0 f10) 1 (o9.fr0 f10) (by decide) (ho _) fun h11 f11 => ⟨_, rfl, ?_⟩
  rw [if_pos (by decide)]
  have F11 := ((((F6.trans f7).trans f8).trans f9).trans f10).trans f11
  have z11 := F11.size
  have V11 := (V9.fr0 f10).fr0 f11
  have z7 := f7.size
  have z8 := f8.size
  have z9 := f9.size
  have z10 := f10.size
  have z12 := f11.size
  refine do_c V11 (fun b hb => by omega) 3 (w := ⟨none, 0, []⟩) (nilOps h11) (by simp) fun h12 y1 y2 f12 V12 => ⟨_, rfl, ?_⟩
  rw [if_pos (by decide)]
  have z13 := f12.size
  refine al_mk (vs := List.flatMap S_api_FlowOp.vals [⟨1, [49]⟩]) fun t52 h13 f13 e13 o13 => ?_
  have z14 := f13.size
  refine do_lit (V12.fr0 f13) (fun b hb => by omega) 1 o13 (by decide) (by
    intro x hx
    simp only [List.mem_cons, List.not_mem_nil, or_false] at hx
    subst hx; exact okOp (by decide) (by decide)) (e := 5) (n1 := [[97]]) (n2 := [[120]]) (by decide) fun h14 s1 s2 f14 V14 => ⟨_, rfl, ?_⟩
  exact hk h14 (fin ((fin F11 f12).trans f13) f14)
theorem large_c [Gh] {w : Sl S_intrusionlaw48_Call} {h : Heap} (ow : SlOk 3 S_intrusionlaw48_Call.vals S_intrusionlaw48_Call.ok h w) {Q : Value → Heap → Prop} (hk : ∀ b, (b = false → w.xs.length ≤ 60 ∧ ∀ c ∈ w.xs, c.Ops.xs.length ≤ 40) → Q (.bool b) h) :
    CallT Try.prog fn_law48_large #[.slice w.p w.xs.length w.cap] h Q := by
  apply law48_large_s
  unfold law48_large_v
  refine LoopV.mk (fun s h' => ∃ (i : Nat), s = (i : Int) ∧ i ≤ w.xs.length ∧ h' = h ∧ (∀ c ∈ w.xs.take i, c.Ops.xs.length ≤ 40) ∧ i ≤ 60) (fun s _ => w.xs.length - s.toNat) ⟨0, rfl, by omega, rfl, by simp, by omega⟩ ?_
  rintro - h2 ⟨i, rfl, hi, hh, hn, h60⟩
  subst hh
  have b3 : i = w.xs.length ∨ i = 60 → law48_large_b3 w.p w.xs.length w.cap Q h2 := fun he => by
    unfold law48_large_b3
    refine hk _ fun hb => ?_
    rw [decide_eq_false_iff_not] at hb
    refine ⟨by omega, fun c hc => hn c ?_⟩
    rw [List.take_of_length_le (by omega)]; exact hc
  unfold law48_large_l1
  refine ifD (fun e1 => ?_) fun e1 => b3 (.inl (by omega))
  refine ifD (fun e2 => ?_) fun e2 => b3 (.inr (by omega))
  have hlt : i < w.xs.length := by omega
  have htk : w.xs.take (i + 1) = w.xs.take i ++ [w.xs[i]] := by rw [List.take_append_getElem]
  obtain ⟨ad, hp, c, hok⟩ := ow.at_ i hlt
  have c : Cells h2 (ad.add (i * 3)) [.int .i64 w.xs[i].Kind, .int .i64 w.xs[i].Dir, .slice w.xs[i].Ops.p w.xs[i].Ops.xs.length w.xs[i].Ops.cap] := c
  have oo := hok.k2
  generalize hg : w.xs[i] = cl at *
  rw [Int.toNat_natCast, hp]
  have ix : ∀ {K : Addr → Prop}, K ad → idxA (i : Int) w.xs.length (nn (some ad) fun a => K a) := fun hK => idxA_mk i rfl hlt (nn_mk hK)
  refine ix (ldL_mk (c.at (j := 2) rfl) (ifD (fun e3 => hk _ fun h => by cases h) fun e3 => ?_))
  refine ix (ldL_mk (c.at (j := 2) rfl) ?_)
  refine LoopV.mk (fun s h' => ∃ (k : Nat), s = (k : Int) ∧ k ≤ cl.Ops.xs.length ∧ h' = h2) (fun s _ => cl.Ops.xs.length - s.toNat) ⟨0, rfl, by omega, rfl⟩ ?_
  rintro - h3 ⟨k, rfl, hk2, hh⟩
  subst hh
  unfold law48_large_l2
  refine ifD (fun e4 => ?_) fun e4 => ?_
  · have hlk : k < cl.Ops.xs.length := by omega
    rw [Int.toNat_natCast, Int.toNat_natCast]
    refine ix (ldL_mk (c.at (j := 2) rfl) ?_)
    refine idx_sl oo k rfl hlk fun ad2 c2 _ => ?_
    have c2 : Cells h3 (ad2.add (k * 2)) [.int .i64 cl.Ops.xs[k].Op, .string (bs cl.Ops.xs[k].Name)] := c2
    refine ldS_mk (c2.at (j := 1) rfl) (ifD (fun e5 => hk _ fun h => by cases h) fun e5 => ?_)
    have := oo.cap
    rw [wr (by omega) (by omega)]
    exact ⟨⟨k + 1, rfl, hlk, rfl⟩, by omega⟩
  · rw [wr (by omega) (by omega)]
    refine ⟨⟨i + 1, rfl, hlt, rfl, fun c hc => ?_, by omega⟩, by omega⟩
    rw [htk, List.mem_append, List.mem_singleton] at hc
    rcases hc with hc | rfl
    · exact hn c hc
    · omega
end Go.Proofs.Ytflkadcffgpagaa
