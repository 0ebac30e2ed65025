/-
  Regions in their text's order, and code.
-/
import Derived.Test.YtjelnknmjhceiaaVcEff
namespace Go.Proofs.Ytjelnknmjhceiaa
set_option linter.unusedSimpArgs false
set_option linter.unusedVariables false
set_option maxRecDepth 20000
open Go

def deferOf (e : Env) (c : Call) : Option Deferred :=
  match c.callee with
  | .value f =>
    match eev e f with
    | .func fn first cap => some { target := .fn fn cap, args := first ++ c.args.map (eev e) }
    | _ => none
  | _ => none
def vcOpV [Gh] (P : Program) (o : Oper) (e : Env) (ds : List Deferred) (h : Heap) (K : Value → List Deferred → Heap → Prop) : Prop :=
  match o.op with
  | .defer c =>
    match deferOf e c with
    | some d => K undef (d :: ds) h
    | none => False
  | _ => if isQuiet P o.op = true then vcQ P o e h fun v => K v ds h else vcE P o e h fun v h' => K v ds h'
def vcOp [Gh] (P : Program) (N : Nat) (o : Oper) (e : Env) (ds : List Deferred) (h : Heap) (K : Env → List Deferred → Heap → Prop) : Prop :=
  vcOpV P o e ds h fun v ds' h' => K (eput N e o.dst v) ds' h'
/-- A guard that is not decided parts the way; its slot is then known. -/
def vcG (ops : Array Oper) (o : Oper) (e : Env) (run skip : Env → Prop) : Prop :=
  match o.guard with
  | none => run e
  | some (g, want) =>
    match (ops[g]?).bind (·.dst) with
    | some d =>
      match e d with
      | .bool b => if b = true then (if want = true then run (upd e d (.bool true)) else skip (upd e d (.bool true))) else (if want = true then skip (upd e d (.bool false)) else run (upd e d (.bool false)))
      | _ => skip e
    | none => skip e
def vcOps [Gh] (P : Program) (N : Nat) (ops : Array Oper) (K : Env → List Deferred → Heap → Prop) : List Nat → Env → List Deferred → Heap → Prop
  | [], e, ds, h => K e ds h
  | i :: is, e, ds, h =>
    match ops[i]? with
    | none => False
    | some o => vcG ops o e (fun e => vcOp P N o e ds h fun e' ds' h' => vcOps P N ops K is e' ds' h') (fun e => vcOps P N ops K is (eput N e o.dst undef) ds h)

section
variable {P : Program} {Q : Exit → Act → World → Prop}
theorem yielded_eq (ops : Array Oper) (a : Act) (g : Nat) : yielded ops a.tmps g =
    match (ops[g]?).bind (·.dst) with
    | some d => (match aenv a d with | .bool b => some b | _ => none)
    | none => none := by
  unfold yielded
  cases hd : (ops[g]?).bind (·.dst) with
  | none => rfl
  | some d =>
    simp only [Option.bind_some, aenv, Array.getD_eq_getD_getElem?]
    cases a.tmps[d]? with
    | none => rfl
    | some v => cases v <;> rfl

/-- A guard's two ways. -/
theorem vcG_sound {ops : Array Oper} {o : Oper} {a : Act} {run skip : Env → Prop} (hh : vcG ops o (aenv a) run skip) :
    (Region.wanted o (yielded ops a.tmps) = true ∧ run (aenv a)) ∨ (Region.wanted o (yielded ops a.tmps) = false ∧ skip (aenv a)) := by
  unfold vcG at hh
  unfold Region.wanted
  cases hg : o.guard with
  | none => rw [hg] at hh; exact .inl ⟨rfl, hh⟩
  | some gw =>
    obtain ⟨g, want⟩ := gw
    rw [hg] at hh
    simp only at hh ⊢
    rw [yielded_eq]
    cases hd : (ops[g]?).bind (·.dst) with
    | none => rw [hd] at hh; exact .inr ⟨by simp, hh⟩
    | some d =>
      rw [hd] at hh
      simp only at hh ⊢
      split at hh
      · rename_i b hb
        cases b
        · simp only [Bool.false_eq_true, if_false] at hh
          rw [upd_self hb] at hh
          cases want
          · exact .inl ⟨by simp, by simpa using hh⟩
          · exact .inr ⟨by simp, by simpa using hh⟩
        · simp only [if_true] at hh
          rw [upd_self hb] at hh
          cases want
          · exact .inr ⟨by simp, by simpa using hh⟩
          · exact .inl ⟨by simp, by simpa using hh⟩
      · rename_i hb
        refine .inr ⟨?_, hh⟩
        cases hv : aenv a d with
        | bool b => exact absurd hv (hb b)
        | _ => rfl

/-- The state behind an operation. -/
def gotD [Gh] (a : Act) (o : Oper) (K : Value → List Deferred → Heap → Prop) : Act → World → Prop := fun a' w' => ∃ v ds', a' = ({ a with defers := ds' } : Act).put o.dst v ∧ K v ds' w'.heap ∧ Sm w'
theorem vcOpV_sound [Gh] {o : Oper} {e : Env} {K : Value → List Deferred → Heap → Prop} {a : Act} {w : World}
    (hs : Sm w) (hx : execOp a.eval o = execOp (eev e) o) (hh : vcOpV P o e a.defers w.heap K) : o.wp P a w (gotD a o K) Q := by
  unfold Oper.wp
  have quiet : (if isQuiet P o.op = true then vcQ P o e w.heap fun v => K v a.defers w.heap else vcE P o e w.heap fun v h' => K v a.defers h') →
      o.upon P a (gotD a o K) Q ((execOp a.eval o).run P w) := fun hh => by
    split at hh
    · obtain ⟨v, hv, hk⟩ := vcQ_sound hh
      rw [hx, hv w rfl]
      exact ⟨v, a.defers, rfl, hk, hs⟩
    · have h1 := vcE_sound (Q := Q) hs hx hh
      have : ∀ n w', o.upon P a (got a o fun v h' => K v a.defers h') Q (.ok n w') → o.upon P a (gotD a o K) Q (.ok n w') := fun n w' hu => by
        cases n <;> simp only [Oper.upon] at hu ⊢ <;> first
          | (obtain ⟨v, hv, hk⟩ := hu; exact ⟨v, a.defers, hv, hk⟩)
          | (refine Calls.mono hu fun e w'' he => ?_; cases e <;> first | (obtain ⟨v, hv, hk⟩ := he; exact ⟨v, a.defers, hv, hk⟩) | exact he)
          | (refine Rows.mono hu fun u w'' he => ?_; obtain ⟨v, hv, hk⟩ := he; exact ⟨v, a.defers, hv, hk⟩)
          | (obtain ⟨v, hv, hk⟩ := hu; exact ⟨v, _, hv, hk⟩)
      revert h1
      cases (execOp a.eval o).run P w with
      | ok n w' => exact this n w'
      | halt x w' => intro h1; cases x <;> exact h1
  unfold vcOpV at hh
  split at hh
  case h_1 c ho =>
    split at hh
    case h_2 => exact hh.elim
    rename_i d hd
    have : (execOp a.eval o).run P w = .ok (.defer d) w := by
      rw [hx]
      unfold execOp; rw [ho]
      unfold deferOf at hd
      simp only [resolve]
      split at hd
      case h_2 => simp at hd
      rename_i f hf
      split at hd
      case h_2 => simp at hd
      rename_i fn first cap hv
      simp only [Option.some.injEq] at hd
      subst hd
      simp only [hf, hv, Deferred.ofValue]
      rfl
    rw [this]
    simp only [Oper.upon]
    exact ⟨undef, _, rfl, hh, hs⟩
  case h_2 => exact quiet hh
theorem vcOp_sound [Gh] {o : Oper} {N : Nat} {K : Env → List Deferred → Heap → Prop} {a : Act} {w : World}
    (hN : Sz N a w) (hh : vcOp P N o (aenv a) a.defers w.heap K) : o.wp P a w (lift N K) Q := by
  refine Oper.wp_mono ?_ (vcOpV_sound (Q := Q) hN.2 (by rw [aeval_eq]) hh)
  rintro a' w' ⟨v, ds', rfl, hk, hs⟩
  refine ⟨⟨by rw [size_put]; exact hN.1, hs⟩, ?_⟩
  rw [aenv_put, defers_put]
  simp only
  rw [hN.1]; exact hk

theorem vcOps_sound [Gh] {ops : Array Oper} {N : Nat} {K : Env → List Deferred → Heap → Prop} (hQ : ∀ a w, lift N K a w → Q .normal a w) :
    ∀ (is : List Nat) (a : Act) (w : World), Sz N a w → vcOps P N ops K is (aenv a) a.defers w.heap → wpOps P ops Q is a w
  | [], a, w, hN, hh => hQ a w ⟨hN, hh⟩
  | i :: is, a, w, hN, hh => by
    unfold vcOps at hh
    rw [wpOps_cons]; unfold wpOp
    split at hh
    case h_1 => exact hh.elim
    rename_i o ho
    rw [ho]
    simp only
    rcases vcG_sound hh with ⟨hw, hr⟩ | ⟨hw, hr⟩
    · rw [hw]
      simp only [if_true]
      refine .inl (Oper.wp_mono ?_ (vcOp_sound (Q := Q) hN hr))
      rintro a' w' ⟨hN', hk⟩
      exact vcOps_sound hQ is a' w' hN' hk
    · rw [hw]
      simp only [Bool.false_eq_true, if_false]
      refine vcOps_sound hQ is _ w ⟨by rw [size_put, hN.1], hN.2⟩ ?_
      rw [aenv_put, defers_put, hN.1]; exact hr
end

/-! ### Code -/
abbrev EPost := Exit → Env → List Deferred → Heap → Prop
def liftE [Gh] (N : Nat) (Q : EPost) : Exit → Act → World → Prop := fun x a w => Sz N a w ∧ Q x (aenv a) a.defers w.heap
def EWP [Gh] (P : Program) (N : Nat) (c : Code) (Q : EPost) (e : Env) (ds : List Deferred) (h : Heap) : Prop :=
  ∀ (a : Act) (w : World), Sz N a w → aenv a = e → a.defers = ds → w.heap = h → c.wp P (liftE N Q) a w
section
variable {P : Program} {N : Nat} {Q : EPost} {e : Env} {ds : List Deferred} {h : Heap}
theorem EWP.mono [Gh] {c : Code} {Q' : EPost} (hh : EWP P N c Q e ds h) (hq : ∀ x e ds h, Q x e ds h → Q' x e ds h) : EWP P N c Q' e ds h :=
  fun a w h1 h2 h3 h4 => wp_mono (hh a w h1 h2 h3 h4) fun x a w ⟨hn, hx⟩ => ⟨hn, hq _ _ _ _ hx⟩
theorem EWP.region [Gh] {id : Nat} {ops : Array Oper} (hh : vcOps P N ops (fun e ds h => Q .normal e ds h) (List.range ops.size) e ds h) :
    EWP P N (.region id ops false) Q e ds h := by
  rintro a w hN rfl rfl rfl
  exact wp_region (vcOps_sound (fun a w hk => hk) _ a w hN hh)
def seqQ [Gh] (K : Env → List Deferred → Heap → Prop) (Q : EPost) : EPost
  | .normal, e, ds, h => K e ds h
  | x, e, ds, h => Q x e ds h
theorem EWP.seq [Gh] {x y : Code} (K : Env → List Deferred → Heap → Prop) (hx : EWP P N x (seqQ K Q) e ds h) (hy : ∀ e ds h, K e ds h → EWP P N y Q e ds h) :
    EWP P N (.seq x y) Q e ds h := by
  intro a w h1 h2 h3 h4
  refine wp_seq (wp_mono (hx a w h1 h2 h3 h4) ?_)
  rintro ex a' w' ⟨hN, hk⟩
  cases ex with
  | normal => exact hy _ _ _ hk a' w' hN rfl rfl rfl
  | _ => exact ⟨hN, hk⟩
theorem EWP.seq1 [Gh] {x y : Code} (hx : EWP P N x (seqQ (fun e ds h => EWP P N y Q e ds h) Q) e ds h) : EWP P N (.seq x y) Q e ds h :=
  EWP.seq _ hx fun _ _ _ h => h
theorem EWP.skip [Gh] (hh : Q .normal e ds h) : EWP P N .skip Q e ds h := by
  rintro a w hN rfl rfl rfl; exact wp_skip ⟨hN, hh⟩
theorem EWP.label [Gh] {l : Nat} (hh : Q .normal e ds h) : EWP P N (.label l) Q e ds h := by
  rintro a w hN rfl rfl rfl; exact wp_label ⟨hN, hh⟩
theorem EWP.ret [Gh] (hh : Q .ret e ds h) : EWP P N .ret Q e ds h := by
  rintro a w hN rfl rfl rfl; exact wp_ret ⟨hN, hh⟩
theorem EWP.exit [Gh] {id : Nat} (hh : Q (.exit id) e ds h) : EWP P N (.exit id) Q e ds h := by
  rintro a w hN rfl rfl rfl; exact wp_exit ⟨hN, hh⟩
theorem EWP.goto [Gh] {l : Nat} (hh : Q (.goto l) e ds h) : EWP P N (.goto l) Q e ds h := by
  rintro a w hN rfl rfl rfl; exact wp_goto ⟨hN, hh⟩
theorem EWP.cond [Gh] {c : Operand} {x y : Code} {t : Bool} (hc : eev e c = .bool t) (ht : t = true → EWP P N x Q e ds h) (hf : t = false → EWP P N y Q e ds h) :
    EWP P N (.cond c x y) Q e ds h := by
  rintro a w hN rfl rfl rfl
  refine wp_cond_split (t := t) (by rw [aeval_eq]; exact hc) (fun h => ht h a w hN rfl rfl rfl) (fun h => hf h a w hN rfl rfl rfl)
def blockQ [Gh] (id : Nat) (Q : EPost) : EPost
  | .exit id', e, ds, h => if id' = id then Q .normal e ds h else Q (.exit id') e ds h
  | x, e, ds, h => Q x e ds h
theorem EWP.block [Gh] {id : Nat} {c : Code} (hh : EWP P N c (blockQ id Q) e ds h) : EWP P N (.block id c) Q e ds h := by
  rintro a w hN rfl rfl rfl
  refine wp_block (wp_mono (hh a w hN rfl rfl rfl) ?_)
  rintro ex a' w' ⟨hN', hk⟩
  cases ex with
  | exit id' =>
    simp only [blockQ] at hk
    simp only [Exit.inBlock]
    split at hk
    · rename_i hi; rw [if_pos hi]; exact ⟨hN', hk⟩
    · rename_i hi; rw [if_neg hi]; exact ⟨hN', hk⟩
  | _ => exact ⟨hN', hk⟩
theorem least {p : Nat → Prop} (h : ∃ n, p n) : ∃ n, p n ∧ ∀ m, p m → n ≤ m := by
  obtain ⟨n, hn⟩ := h
  induction n using Nat.strongRecOn with
  | _ n ih =>
    by_cases hx : ∃ m, m < n ∧ p m
    · obtain ⟨m, hm, hp⟩ := hx; exact ih m hm hp
    · exact ⟨n, hn, fun m hm => by
        rcases Nat.lt_or_ge m n with h | h
        · exact absurd ⟨m, h, hm⟩ hx
        · exact h⟩
/-- A loop, by what holds of some states at each round's head, and a measure of these states. -/
theorem EWP.loop [Gh] {σ : Type} {c : Code} (R : Env → List Deferred → σ → Prop) (J : σ → Heap → Prop) (μ : σ → Heap → Nat) (s : σ) (hR : R e ds s) (hJ : J s h)
    (round : ∀ e ds s h, R e ds s → J s h → EWP P N c (seqQ (fun e' ds' h' => ∃ s', R e' ds' s' ∧ J s' h' ∧ μ s' h' < μ s h) Q) e ds h) :
    EWP P N (.loop c) Q e ds h := by
  rintro a w hN rfl rfl rfl
  classical
  let I : Act → World → Prop := fun a w => Sz N a w ∧ ∃ n s, R (aenv a) a.defers s ∧ J s w.heap ∧ μ s w.heap = n
  let m : Act → World → Nat := fun a w => if hx : ∃ n s, R (aenv a) a.defers s ∧ J s w.heap ∧ μ s w.heap = n then Classical.choose (least hx) else 0
  refine wp_loop I m ⟨hN, _, s, hR, hJ, rfl⟩ ?_
  rintro a w ⟨hN, hx⟩
  have hm : m a w = Classical.choose (least hx) := dif_pos hx
  obtain ⟨s, hR, hJ, hμ⟩ := (Classical.choose_spec (least hx)).1
  refine wp_mono (round _ _ s _ hR hJ a w hN rfl rfl rfl) ?_
  rintro ex a' w' ⟨hN', hk⟩
  cases ex with
  | normal =>
    obtain ⟨s', hR', hJ', hlt⟩ := hk
    have hx' : ∃ n s, R (aenv a') a'.defers s ∧ J s w'.heap ∧ μ s w'.heap = n := ⟨_, s', hR', hJ', rfl⟩
    refine ⟨⟨hN', hx'⟩, ?_⟩
    have hm' : m a' w' = Classical.choose (least hx') := dif_pos hx'
    have hle : Classical.choose (least hx') ≤ μ s' w'.heap := (Classical.choose_spec (least hx')).2 _ ⟨s', hR', hJ', rfl⟩
    omega
  | _ => exact ⟨hN', hk⟩
end
end Go.Proofs.Ytjelnknmjhceiaa
