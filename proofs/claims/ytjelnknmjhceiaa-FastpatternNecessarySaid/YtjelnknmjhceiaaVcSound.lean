/-
  Each quiet operation's condition suffices.
-/
import Derived.Test.YtjelnknmjhceiaaVcOp
namespace Go.Proofs.Ytjelnknmjhceiaa
set_option linter.unusedSimpArgs false
set_option linter.unusedVariables false
set_option maxRecDepth 20000
open Go
variable {P : Program} {o : Oper} {e : Env} {h : Heap} {K : Value → Prop}

theorem exec_load {t : TypeId} {x : Operand} (ho : o.op = .load t x) (ρ : Operand → Value) : execOp ρ o = (do pure (.value (← Instr.loadAt t (ρ x)))) := by
  unfold execOp; rw [ho]
theorem q_load {t : TypeId} {x : Operand} (ho : o.op = .load t x) (hh : vcQ P o e h K) : ∃ v, QOk P o e h v ∧ K v := by
  unfold vcQ at hh; rw [ho] at hh; simp only at hh
  split at hh
  case h_2 => exact hh.elim
  rename_i a hx
  have key : ∀ (v : Value), (∀ w : World, w.heap = h → (loadVar t a).run P w = .ok v w) → QOk P o e h v := fun v hv w hw => by
    rw [exec_load ho, hx]
    exact run_value (hv w hw)
  by_cases hag : isAggB P t = true
  · rw [if_pos hag] at hh
    split at hh
    case isFalse => exact hh.elim
    rename_i hsz
    obtain ⟨vs, hl, hc, hk⟩ := ldN_ex hh
    refine ⟨_, key _ (fun w hw => ?_), hk⟩
    have hu : (P.underlying t).isSome := by
      unfold isAggB at hag; cases hq : P.underlying t with
      | none => simp [hq] at hag
      | some d => rfl
    unfold loadVar; simp only [bind]
    rw [runBind (isAgg_run hu w), hag]
    simp only [if_true]
    rw [runBind (size_run (underlying_info hu) w)]
    subst hw
    rw [runBind (loadCells_run (hl.trans hsz) hc)]; rfl
  · rw [if_neg hag] at hh
    split at hh
    case isFalse => exact hh.elim
    rename_i hu
    obtain ⟨v, hc, hk⟩ := ex1_ex hh
    refine ⟨v, key v (fun w hw => ?_), hk⟩
    unfold loadVar; simp only [bind]
    rw [runBind (isAgg_run hu w)]
    simp only [hag]
    subst hw
    exact load_run hc

theorem q_nilCheck {x : Operand} (ho : o.op = .nilCheck x) (hh : vcQ P o e h K) : ∃ v, QAll P o e v ∧ K v := by
  unfold vcQ at hh; rw [ho] at hh; simp only at hh
  split at hh
  case h_2 => exact hh.elim
  rename_i p hx
  cases p with
  | none => exact hh.elim
  | some a => exact ⟨_, fun w => by unfold execOp; rw [ho]; simp only [hx]; rfl, hh⟩

theorem bAt_of {s : ByteArray} {n : Int} (h0 : 0 ≤ n) (h1 : n < (s.size : Int)) : s[n.toNat]? = some (s.data[n.toNat]'(by have : s.data.size = s.size := rfl; omega)) := by
  have : n.toNat < s.size := by omega
  simp [this]; rfl

theorem q_index {t : TypeId} {x i : Operand} (ho : o.op = .index t x i) (hh : vcQ P o e h K) : ∃ v, QAll P o e v ∧ K v := by
  unfold vcQ at hh; rw [ho] at hh; simp only at hh
  have key : ∀ (v : Value), (∀ w : World, (Instr.index t (eev e x) (eev e i)).run P w = .ok v w) → QAll P o e v := fun v hv w => by
    unfold execOp; rw [ho]; exact run_value (hv w)
  split at hh
  case h_3 => exact hh.elim
  case h_1 s k n hu hx hi =>
    obtain ⟨h0, h1, hk⟩ := hh
    refine ⟨_, key _ (fun w => ?_), hk⟩
    rw [hx, hi]; unfold Instr.index; simp only [asIntOf, bind, pure, Sem.bind]
    rw [runBind (underlying_run hu w)]
    have hb := bAt_of h0 h1
    simp only [h0, if_true, hb]
    have h2 : n.toNat < s.data.size := by have : s.data.size = s.size := rfl; omega
    simp only [Sem.run, bAt, Array.getElem?_eq_getElem h2, Option.getD_some]
  case h_2 len el cs k n hu hx hi =>
    split at hh
    case isFalse => exact hh.elim
    rename_i hc
    obtain ⟨h1, h2, h3⟩ := hc
    obtain ⟨hn0, hn1, v, hv, hh⟩ := hh
    obtain ⟨v', rfl, hk⟩ := ex1_ex hh
    refine ⟨_, key _ (fun w => ?_), hk⟩
    rw [hx, hi]; unfold Instr.index; simp only [asIntOf, bind, pure, Sem.bind]
    rw [runBind (underlying_run hu w)]
    simp only [hn0, hn1, and_self, if_true]
    rw [runBind (size_run (underlying_info h3) w)]
    unfold part; simp only [bind]
    rw [runBind (isAgg_run h3 w), h1]
    simp [h2, hv, pure, Sem.run]

theorem q_indexAddr {t : TypeId} {x i : Operand} (ho : o.op = .indexAddr t x i) (hh : vcQ P o e h K) : ∃ v, QAll P o e v ∧ K v := by
  unfold vcQ at hh; rw [ho] at hh; simp only at hh
  have key : ∀ (v : Value), (∀ w : World, (Instr.indexAt t (eev e x) (eev e i)).run P w = .ok v w) → QAll P o e v := fun v hv w => by
    unfold execOp; rw [ho]; exact run_value (hv w)
  split at hh
  case h_3 => exact hh.elim
  case h_1 el b len c k n hu hx hi =>
    split at hh
    case isFalse => exact hh.elim
    rename_i h3
    obtain ⟨h0, h1, hk⟩ := hh
    cases b with
    | none => exact hk.elim
    | some a =>
      refine ⟨_, key _ (fun w => ?_), hk⟩
      rw [hx, hi]; unfold Instr.indexAt; simp only [asIntOf, bind, pure, Sem.bind]
      rw [runBind (underlying_run hu w)]
      simp only [Sem.bind]
      rw [runBind (underlying_run hu w)]
      simp only [h0, h1, and_self, if_true]
      rw [runBind (size_run h3 w)]
      rfl
  case h_2 len el a k n hu hx hi =>
    split at hh
    case isFalse => exact hh.elim
    rename_i h3
    obtain ⟨h0, h1, hk⟩ := hh
    refine ⟨_, key _ (fun w => ?_), hk⟩
    rw [hx, hi]; unfold Instr.indexAt; simp only [asIntOf, bind, pure, Sem.bind, Instr.sureAddr]
    rw [runBind (underlying_run hu w)]
    simp only [Sem.bind]
    rw [runBind (underlying_run hu w)]
    simp only [h0, h1, and_self, if_true]
    rw [runBind (size_run h3 w)]
    rfl

theorem q_pick {c a b : Operand} (ho : o.op = .pick c a b) (hh : vcQ P o e h K) : ∃ v, QAll P o e v ∧ K v := by
  unfold vcQ at hh; rw [ho] at hh; simp only at hh
  have key : ∀ (v : Value) (t : Bool), eev e c = .bool t → (if t then eev e a else eev e b) = v → QAll P o e v := fun v t ht hv w => by
    unfold execOp; rw [ho]; simp only [ht, asBool, bind, pure, Sem.bind, Sem.run]; rw [hv]
  split at hh
  · rename_i t x y hc ha hb
    refine ⟨_, key _ t hc ?_, hh⟩
    rw [ha, hb]; cases t <;> rfl
  · rename_i u x y t hc hb
    split at hh
    · rename_i ht; exact ⟨_, key _ _ hc (by simp [ht]), hh⟩
    · rename_i ht; exact ⟨_, key _ _ hc (by simp [ht]), hh⟩
  · exact hh.elim

theorem q_default (hh : match quietV P (execOp (eev e) o) with | some v => K v | none => False) : ∃ v, QAll P o e v ∧ K v := by
  split at hh
  · rename_i v hv; exact ⟨v, fun w => quietV_run _ hv w, hh⟩
  · exact hh.elim

theorem oint_cases {v : Option Value} {l : Option Int} (h : oint v = some l) : (v = none ∧ l = none) ∨ ∃ k n, v = some (.int k n) ∧ l = some n := by
  unfold oint at h
  split at h
  · simp at h; exact .inl ⟨rfl, h.symm⟩
  · rename_i k n; simp at h; exact .inr ⟨k, n, rfl, h.symm⟩
  · simp at h
theorem bound_run {k : IntKind} {n : Int} {y : Nat} {c : BoundsCode} (h0 : 0 ≤ n) (h1 : n ≤ (y : Int)) (w : World) :
    (Instr.sliceBound (.int k n) y c).run P w = .ok n.toNat w := by
  unfold Instr.sliceBound; simp only [asIntOf, bind, pure, Sem.bind, h0, h1, and_self, if_true, Sem.run]
/-- The bounds, as the model finds them. -/
theorem bounds_run {iS : Bool} {n c : Nat} {lo hi mx : Option Value} {l u m : Option Int} (hl : oint lo = some l) (hu : oint hi = some u) (hm : oint mx = some m)
    (h1 : ∀ x, m = some x → 0 ≤ x ∧ x ≤ (c : Int) ∧ u.isSome = true) (h2 : ∀ x, u = some x → 0 ≤ x ∧ x ≤ (match m with | some y => y | none => (c : Int)))
    (h3 : ∀ x, l = some x → 0 ≤ x ∧ x ≤ (match u with | some y => y | none => (n : Int))) (w : World) :
    (Instr.sliceBounds iS n c lo hi mx).run P w = .ok ((match l with | some x => x.toNat | none => 0), (match u with | some x => x.toNat | none => n), (match m with | some x => x.toNat | none => c)) w := by
  rcases oint_cases hm with ⟨rfl, rfl⟩ | ⟨km, nm, rfl, rfl⟩
  · rcases oint_cases hu with ⟨rfl, rfl⟩ | ⟨ku, nu, rfl, rfl⟩
    · rcases oint_cases hl with ⟨rfl, rfl⟩ | ⟨kl, nl, rfl, rfl⟩
      · rfl
      · obtain ⟨a, b⟩ := h3 _ rfl
        unfold Instr.sliceBounds; simp only [bind, pure, Sem.bind]
        rw [runBind (bound_run a b w)]; rfl
    · obtain ⟨a, b⟩ := h2 _ rfl
      rcases oint_cases hl with ⟨rfl, rfl⟩ | ⟨kl, nl, rfl, rfl⟩
      · unfold Instr.sliceBounds; simp only [bind, pure, Sem.bind]
        rw [runBind (bound_run a b w)]; rfl
      · obtain ⟨a', b'⟩ := h3 _ rfl
        unfold Instr.sliceBounds; simp only [bind, pure, Sem.bind]
        rw [runBind (bound_run a b w), runBind (bound_run a' (by simp only at b'; omega) w)]; rfl
  · obtain ⟨a0, b0, c0⟩ := h1 _ rfl
    rcases oint_cases hu with ⟨rfl, rfl⟩ | ⟨ku, nu, rfl, rfl⟩
    · simp at c0
    · obtain ⟨a, b⟩ := h2 _ rfl
      simp only at b
      rcases oint_cases hl with ⟨rfl, rfl⟩ | ⟨kl, nl, rfl, rfl⟩
      · unfold Instr.sliceBounds; simp only [bind, pure, Sem.bind]
        rw [runBind (bound_run a0 b0 w), runBind (bound_run a (by omega) w)]; rfl
      · obtain ⟨a', b'⟩ := h3 _ rfl
        unfold Instr.sliceBounds; simp only [bind, pure, Sem.bind]
        rw [runBind (bound_run a0 b0 w), runBind (bound_run a (by omega) w), runBind (bound_run a' (by simp only at b'; omega) w)]; rfl

theorem slice_core {el : TypeId} (h3 : (P.info? el).isSome) {iS : Bool} {a : Option Addr} {n c : Nat} {lo hi mx : Option Value} {l u m : Option Int} {K : Option Addr → Nat → Nat → Prop}
    (hl : oint lo = some l) (hu : oint hi = some u) (hm : oint mx = some m) (hh : sliceSl (sizeB P el) a n c l u m K) :
    ∃ x y z l' u' m', (∀ w, (Instr.sliceBounds iS n c lo hi mx).run P w = .ok (l', u', m') w) ∧ (x = if m' = l' then a else a.map (·.add (l' * sizeB P el))) ∧ y = u' - l' ∧ z = m' - l' ∧ K x y z := by
  cases l with
  | none =>
    have e0 : ∀ c' : Nat, a = if c' = 0 then a else a.map (·.add (0 * sizeB P el)) := fun c' => by simp [addr_map_add_zero]
    cases u with
    | none =>
      cases m with
      | none => exact ⟨a, n, c, 0, n, c, fun w => bounds_run hl hu hm (by simp) (by simp) (by simp) w, e0 c, by simp, by simp, hh⟩
      | some m => exact hh.elim
    | some u =>
      cases m with
      | none =>
        obtain ⟨h0, h1, hk⟩ := hh
        exact ⟨a, _, c, 0, _, c, fun w => bounds_run hl hu hm (by simp) (by simp; omega) (by simp) w, e0 c, (Nat.sub_zero _).symm, (Nat.sub_zero _).symm, hk⟩
      | some m =>
        obtain ⟨h0, h1, h2, hk⟩ := hh
        exact ⟨a, _, _, 0, _, _, fun w => bounds_run hl hu hm (by simp; omega) (by simp; omega) (by simp) w, e0 _, (Nat.sub_zero _).symm, (Nat.sub_zero _).symm, hk⟩
  | some l =>
    cases u with
    | none =>
      cases m with
      | none =>
        obtain ⟨h0, h1, hk⟩ := hh
        exact ⟨_, _, _, _, _, _, fun w => bounds_run hl hu hm (by simp) (by simp) (by simp; omega) w, rfl, rfl, rfl, hk⟩
      | some m => exact hh.elim
    | some u =>
      cases m with
      | none =>
        obtain ⟨h0, h1, h2, hk⟩ := hh
        exact ⟨_, _, _, _, _, _, fun w => bounds_run hl hu hm (by simp) (by simp; omega) (by simp; omega) w, rfl, rfl, rfl, hk⟩
      | some m =>
        obtain ⟨h0, h1, h2, h4, hk⟩ := hh
        exact ⟨_, _, _, _, _, _, fun w => bounds_run hl hu hm (by simp; omega) (by simp; omega) (by simp; omega) w, rfl, rfl, rfl, hk⟩

theorem q_slice {t : TypeId} {x : Operand} {lo hi mx : Option Operand} (ho : o.op = .slice t x lo hi mx) (hh : vcQ P o e h K) : ∃ v, QAll P o e v ∧ K v := by
  unfold vcQ at hh; rw [ho] at hh; simp only at hh
  have key : ∀ (v : Value), (∀ w : World, (Instr.sliceAt t (eev e x) (lo.map (eev e)) (hi.map (eev e)) (mx.map (eev e))).run P w = .ok v w) → QAll P o e v := fun v hv w => by
    unfold execOp; rw [ho]; exact run_value (hv w)
  split at hh
  case h_1 s l u hu hx hl hi' hm =>
    have hm0 : mx.map (eev e) = none := by rcases oint_cases hm with ⟨a, _⟩ | ⟨k, n, _, a⟩ <;> first | exact a | (simp at a)
    have main : ∀ (l' u' : Nat), (∀ w, (Instr.sliceBounds false s.size s.size (lo.map (eev e)) (hi.map (eev e)) none).run P w = .ok (l', u', s.size) w) → K (.string (s.extract l' u')) → ∃ v, QAll P o e v ∧ K v := fun l' u' hb hk => by
      refine ⟨_, key _ (fun w => ?_), hk⟩
      rw [hx, hm0]; unfold Instr.sliceAt; simp only [bind]
      rw [runBind (underlying_run hu w)]
      unfold Instr.slice; simp only [bind]
      rw [runBind (underlying_run hu w)]
      simp only [Option.isSome_none, Bool.false_eq_true, if_false, pure, Sem.bind]
      rw [runBind (hb w)]; rfl
    rw [hm0] at hm
    cases l with
    | none =>
      cases u with
      | none => exact main 0 s.size (fun w => bounds_run hl hi' hm (by simp) (by simp) (by simp) w) hh
      | some u => exact main 0 _ (fun w => bounds_run hl hi' hm (by simp) (by simp; exact ⟨hh.1, hh.2.1⟩) (by simp) w) hh.2.2
    | some l =>
      cases u with
      | none => exact main _ s.size (fun w => bounds_run hl hi' hm (by simp) (by simp) (by simp; exact ⟨hh.1, hh.2.1⟩) w) hh.2.2
      | some u =>
        obtain ⟨h0, h1, h2, hk⟩ := hh
        exact main _ _ (fun w => bounds_run hl hi' hm (by simp) (by simp; omega) (by simp; omega) w) hk
  case h_2 el a n c l u m hu hx hl hi' hm =>
    split at hh
    case isFalse => exact hh.elim
    rename_i h3
    obtain ⟨x', y, z, l', u', m', hb, rfl, rfl, rfl, hk⟩ := slice_core (iS := true) h3 hl hi' hm hh
    refine ⟨_, key _ (fun w => ?_), hk⟩
    rw [hx]; unfold Instr.sliceAt; simp only [bind]
    rw [runBind (underlying_run hu w)]
    unfold Instr.slice; simp only [bind]
    rw [runBind (underlying_run hu w)]
    simp only
    rw [runBind (hb w)]; simp only
    rw [runBind (size_run h3 w)]; rfl
  case h_3 k el a l u m hu hx hl hi' hm =>
    split at hh
    case isFalse => exact hh.elim
    rename_i h3
    obtain ⟨x', y, z, l', u', m', hb, rfl, rfl, rfl, hk⟩ := slice_core (iS := false) h3 hl hi' hm hh
    have hk' : K (.slice (some (if m' = l' then a else a.add (l' * sizeB P el))) (u' - l') (m' - l')) := by
      have : (if m' = l' then some a else (some a).map (·.add (l' * sizeB P el))) = some (if m' = l' then a else a.add (l' * sizeB P el)) := by split <;> rfl
      rw [← this]; exact hk
    refine ⟨_, key _ (fun w => ?_), hk'⟩
    rw [hx]; unfold Instr.sliceAt; simp only [bind]
    rw [runBind (underlying_run hu w)]
    simp only [Instr.sureAddr, pure, Sem.bind]
    rw [runBind (hb w)]; simp only
    rw [runBind (size_run h3 w)]; rfl
  case h_4 => exact hh.elim
end Go.Proofs.Ytjelnknmjhceiaa
