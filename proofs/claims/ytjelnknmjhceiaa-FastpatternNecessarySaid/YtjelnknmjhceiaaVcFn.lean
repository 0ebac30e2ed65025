/-
  Functions: what stands at the end of a body; calls, and deferred calls.
-/
import Derived.Test.YtjelnknmjhceiaaVcReg
namespace Go.Proofs.Ytjelnknmjhceiaa
set_option linter.unusedSimpArgs false
set_option linter.unusedVariables false
set_option maxRecDepth 20000
open Go

theorem sem_bind_pure {α : Type} (s : Sem α) : s.bind .pure = s := by
  induction s <;> simp only [Sem.bind] <;> (try congr) <;> (try funext x) <;> (try apply_assumption)
theorem sem_bind_assoc {α β γ : Type} (s : Sem α) (f : α → Sem β) (g : β → Sem γ) : (s.bind f).bind g = s.bind fun a => (f a).bind g := by
  induction s <;> simp only [Sem.bind] <;> (try congr) <;> (try funext x) <;> (try apply_assumption)
instance : LawfulMonad Sem where
  map_const := rfl
  id_map := fun x => sem_bind_pure x
  seqLeft_eq := fun x y => by
    show x.bind (fun a => y.bind fun _ => .pure a) = (x.bind fun a => .pure (Function.const _ a)).bind fun f => y.bind fun b => .pure (f b)
    rw [sem_bind_assoc]; rfl
  seqRight_eq := fun x y => by
    show x.bind (fun _ => y) = (x.bind fun a => .pure (Function.const _ id a)).bind fun f => y.bind fun b => .pure (f b)
    rw [sem_bind_assoc]; simp only [Sem.bind]; congr; funext a; exact (sem_bind_pure y).symm
  pure_seq := fun _ _ => rfl
  bind_pure_comp := fun _ _ => rfl
  bind_map := fun _ _ => rfl
  pure_bind := fun _ _ => rfl
  bind_assoc := fun x f g => sem_bind_assoc x f g

def resF (tmps : Array Value) : ResultVar → Sem Value
  | .tmp t => pure (tmps.getD t undef)
  | .cell a t => do loadVar t (← asAddr (tmps.getD a undef))
/-- The results, read at the end. -/
def resL (P : Program) (e : Env) (h : Heap) : List ResultVar → (List Value → Prop) → Prop
  | [], K => K []
  | .tmp t :: rs, K => resL P e h rs fun vs => K (e t :: vs)
  | .cell c t :: rs, K =>
    match e c with
    | .pointer (some a) =>
      if isAggB P t then (if (kinds P 20 t).length = sizeB P t then ldN h a (kinds P 20 t) 0 fun vs => resL P e h rs fun ws => K (.agg vs.toArray :: ws) else False)
      else if (P.underlying t).isSome then ld1 h a (skOf P t) fun v => resL P e h rs fun ws => K (v :: ws) else False
    | _ => False
def tupV : List Value → Value
  | [v] => v
  | vs => .tuple vs.toArray
def resH (P : Program) (fn : Func) (e : Env) (h : Heap) (K : Value → Prop) : Prop := resL P e h fn.results.toList fun vs => K (tupV vs)

section
variable {P : Program} {N : Nat}
theorem loadVar_agg {t : TypeId} {a : Addr} {w : World} {vs : List Value} (hag : isAggB P t = true) (hsz : (kinds P 20 t).length = sizeB P t) (hl : vs.length = (kinds P 20 t).length)
    (hc : ∀ j (hj : j < vs.length), hcell w.heap (a.add (0 + j)) = some vs[j]) : (loadVar t a).run P w = .ok (.agg vs.toArray) w := by
  have hu : (P.underlying t).isSome := by
    unfold isAggB at hag; cases hq : P.underlying t with
    | none => simp [hq] at hag
    | some d => rfl
  unfold loadVar; simp only [bind]
  rw [runBind (isAgg_run hu w), hag]
  simp only [if_true]
  rw [runBind (size_run (underlying_info hu) w)]
  rw [runBind (loadCells_run (hl.trans hsz) hc)]; rfl
theorem loadVar_one {t : TypeId} {a : Addr} {w : World} {v : Value} (hag : isAggB P t ≠ true) (hu : (P.underlying t).isSome) (hc : hcell w.heap a = some v) : (loadVar t a).run P w = .ok v w := by
  unfold loadVar; simp only [bind]
  rw [runBind (isAgg_run hu w)]
  simp only [hag]
  exact load_run hc

theorem mapM_cons_run {α β : Type} {f : α → Sem β} {x : α} {xs : List α} {w : World} {v : β} {vs : List β} (h1 : (f x).run P w = .ok v w) (h2 : (xs.mapM f).run P w = .ok vs w) :
    ((x :: xs).mapM f).run P w = .ok (v :: vs) w := by
  rw [List.mapM_cons]; simp only [bind]
  rw [runBind h1, runBind h2]; rfl

theorem resL_run {e : Env} {w : World} (tmps : Array Value) (he : (fun t => tmps.getD t undef) = e) : ∀ {rs : List ResultVar} {K : List Value → Prop}, resL P e w.heap rs K →
    ∃ vs, (rs.mapM (resF tmps)).run P w = .ok vs w ∧ K vs
  | [], K, hh => ⟨[], rfl, hh⟩
  | .tmp t :: rs, K, hh => by
    unfold resL at hh
    obtain ⟨vs, hr, hk⟩ := resL_run tmps he hh
    exact ⟨e t :: vs, mapM_cons_run (by rw [← he]; rfl) hr, hk⟩
  | .cell c t :: rs, K, hh => by
    unfold resL at hh
    split at hh
    case h_2 => exact hh.elim
    rename_i a hc
    have hc' : tmps.getD c undef = .pointer (some a) := by rw [← he] at hc; exact hc
    split at hh
    · rename_i hag
      split at hh
      case isFalse => exact hh.elim
      rename_i hsz
      obtain ⟨ws, hl, hcs, hh⟩ := ldN_ex hh
      obtain ⟨vs, hr, hk⟩ := resL_run tmps he hh
      refine ⟨_, mapM_cons_run ?_ hr, hk⟩
      simp only [resF, bind, hc', asAddr, pure, Sem.bind]
      exact loadVar_agg hag hsz hl hcs
    · rename_i hag
      split at hh
      case isFalse => exact hh.elim
      rename_i hu
      obtain ⟨v, hcv, hh⟩ := ex1_ex hh
      obtain ⟨vs, hr, hk⟩ := resL_run tmps he hh
      refine ⟨_, mapM_cons_run ?_ hr, hk⟩
      simp only [resF, bind, hc', asAddr, pure, Sem.bind]
      exact loadVar_one hag hu hcv

theorem resH_run {fn : Func} {a : Act} {w : World} {K : Value → Prop} (hh : resH P fn (aenv a) w.heap K) : ∃ v, (results fn a.tmps).run P w = .ok v w ∧ K v := by
  obtain ⟨vs, hr, hk⟩ := resL_run a.tmps rfl hh
  refine ⟨tupV vs, ?_, hk⟩
  have e1 : results fn a.tmps = (do let vs ← fn.results.mapM (resF a.tmps); pure (if h : vs.size = 1 then vs[0] else .tuple vs)) := rfl
  rw [e1, Array.mapM_eq_mapM_toList]
  simp only [bind, Functor.map, sem_bind_assoc]
  rw [runBind hr]
  match vs with
  | [] => rfl
  | [v] => rfl
  | v :: u :: vs =>
    simp only [Function.comp, Sem.bind, pure, Sem.run, tupV]
    rw [dif_neg (by simp)]

def env0 (args : Array Value) : Env := fun t => args.getD t undef
theorem aenv_start (args : Array Value) (N : Nat) : aenv { tmps := args ++ Array.replicate (N - args.size) undef, defers := [] } = env0 args := by
  funext t
  simp only [aenv, env0, Array.getD_eq_getD_getElem?]
  by_cases ht : t < args.size
  · rw [Array.getElem?_append_left ht]
  · rw [Array.getElem?_append_right (by omega), Array.getElem?_eq_none (xs := args) (by omega)]
    by_cases h2 : t - args.size < N - args.size
    · simp [h2]
    · simp [h2]
/-- At a body's end, where nothing is deferred. -/
def fnPost (P : Program) (fn : Func) (K : Value → Heap → Prop) : EPost
  | .normal, e, ds, h => ds = [] ∧ resH P fn e h fun v => K v h
  | .ret, e, ds, h => ds = [] ∧ resH P fn e h fun v => K v h
  | _, _, _, _ => False
variable [Gh]
theorem bodyPost_of {fn : Func} {K : Value → Heap → Prop} {R : Ending → World → Prop} (hR : ∀ v w, K v w.heap → Sm w → R (.returned v) w) (x : Exit) (a : Act) (w : World)
    (hh : liftE N (fnPost P fn K) x a w) : bodyPost P fn R x a w := by
  obtain ⟨hz, hk⟩ := hh
  cases x with
  | normal => obtain ⟨hd, hr⟩ := hk; obtain ⟨v, hv, hk⟩ := resH_run hr; exact ⟨hd, v, hv, hR _ _ hk hz.2⟩
  | ret => obtain ⟨hd, hr⟩ := hk; obtain ⟨v, hv, hk⟩ := resH_run hr; exact ⟨hd, v, hv, hR _ _ hk hz.2⟩
  | _ => exact hk.elim
theorem body_wp {c : Code} {Q : EPost} {args : Array Value} {w : World} (hsm : Sm w) (hs : args.size ≤ N) (hh : EWP P N c Q (env0 args) [] w.heap) :
    c.wp P (liftE N Q) { tmps := args ++ Array.replicate (N - args.size) undef, defers := [] } w :=
  hh _ w ⟨by simp; omega, hsm⟩ (aenv_start args N) rfl rfl
theorem callT_of {f : FuncId} {fn : Func} {c : Code} {args : Array Value} {h : Heap} {K : Value → Heap → Prop} (hf : P.funcs[f]? = some fn) (hb : fn.body = some c) (hN : fn.ntmps = N)
    (hc : ∀ w, (callFunc f args).run P w = .ok (.enter f args) w) (hs : args.size ≤ N) (hh : EWP P N c (fnPost P fn K) (env0 args) [] h) : CallT P f args h K := by
  rintro w rfl hsm
  rw [hc w]
  subst hN
  exact calls_of_wp hf hb (wp_mono (body_wp hsm hs hh) fun x a w hx => bodyPost_of (fun v w hv hs => ⟨v, rfl, hv, hs⟩) x a w hx)

/-! ### Deferred calls -/
def CallDT (P : Program) (f : FuncId) (args : Array Value) (h : Heap) (K : Heap → Prop) : Prop :=
  ∀ w : World, w.heap = h → Sm w → (callFunc f args).run P w = .ok (.enter f args) w ∧ CallsD P f args .returning w fun e u' w' => u' = .returning ∧ (∃ v, e = .returned v) ∧ K w'.heap ∧ Sm w'
def leavesT (P : Program) (fn : Func) (e : Env) (K : Value → Heap → Prop) : List Deferred → Heap → Prop
  | [], h => resH P fn e h fun v => K v h
  | d :: ds, h =>
    match d.target with
    | .fn (.func g) cap => CallDT P g (d.args ++ cap) h fun h' => leavesT P fn e K ds h'
    | _ => False
def fnPostD (P : Program) (fn : Func) (K : Value → Heap → Prop) : EPost
  | .normal, e, ds, h => leavesT P fn e K ds h
  | .ret, e, ds, h => leavesT P fn e K ds h
  | _, _, _, _ => False
theorem leaves_of {fn : Func} {K : Value → Heap → Prop} {R : Ending → World → Prop} (hR : ∀ v w, K v w.heap → Sm w → R (.returned v) w) (a : Act) : ∀ (ds : List Deferred) (w : World), Sm w →
    leavesT P fn (aenv a) K ds w.heap → Leaves P fn a.tmps R ds .returning w
  | [], w, hsm, hh => by obtain ⟨v, hv, hk⟩ := resH_run hh; exact ⟨v, hv, hR _ _ hk hsm⟩
  | d :: ds, w, hsm, hh => by
    obtain ⟨t, dargs⟩ := d
    unfold leavesT at hh
    simp only at hh
    split at hh
    case h_2 => exact hh.elim
    rename_i g cap
    obtain ⟨h1, h2⟩ := hh w rfl hsm
    refine ⟨by simp, _, cap, g, _, rfl, h1, ?_⟩
    refine CallsD.mono h2 ?_
    rintro e u' w' ⟨rfl, ⟨v, rfl⟩, hk, hsm'⟩
    exact leaves_of hR a ds w' hsm' hk
theorem bodyPostD_of {fn : Func} {K : Value → Heap → Prop} {R : Ending → World → Prop} (hR : ∀ v w, K v w.heap → Sm w → R (.returned v) w) (x : Exit) (a : Act) (w : World)
    (hh : liftE N (fnPostD P fn K) x a w) : bodyPostD P fn R x a w := by
  obtain ⟨hz, hk⟩ := hh
  cases x with
  | normal => exact leaves_of hR a _ w hz.2 hk
  | ret => exact leaves_of hR a _ w hz.2 hk
  | _ => exact hk.elim
theorem callT_ofD {f : FuncId} {fn : Func} {c : Code} {args : Array Value} {h : Heap} {K : Value → Heap → Prop} (hf : P.funcs[f]? = some fn) (hb : fn.body = some c) (hN : fn.ntmps = N)
    (hc : ∀ w, (callFunc f args).run P w = .ok (.enter f args) w) (hs : args.size ≤ N) (hh : EWP P N c (fnPostD P fn K) (env0 args) [] h) : CallT P f args h K := by
  rintro w rfl hsm
  rw [hc w]
  subst hN
  exact calls_of_wp_defers hf hb (wp_mono (body_wp hsm hs hh) fun x a w hx => bodyPostD_of (fun v w hv hs => ⟨v, rfl, hv, hs⟩) x a w hx)
theorem callDT_of {f : FuncId} {fn : Func} {c : Code} {args : Array Value} {h : Heap} {K : Heap → Prop} (hf : P.funcs[f]? = some fn) (hb : fn.body = some c) (hN : fn.ntmps = N)
    (hc : ∀ w, (callFunc f args).run P w = .ok (.enter f args) w) (hs : args.size ≤ N) (hh : EWP P N c (fnPost P fn fun _ h => K h) (env0 args) [] h) : CallDT P f args h K := by
  rintro w rfl hsm
  refine ⟨hc w, ?_⟩
  subst hN
  refine CallsD.mono (callsD_of_wp (R := fun e w' => (∃ v, e = .returned v) ∧ K w'.heap ∧ Sm w') hf hb (wp_mono (body_wp hsm hs hh) fun x a w hx => bodyPost_of (fun v w hv hs => ⟨⟨v, rfl⟩, hv, hs⟩) x a w hx)) ?_
  rintro e u' w' ⟨rfl, hv, hk⟩
  exact ⟨rfl, hv, hk⟩
end
end Go.Proofs.Ytjelnknmjhceiaa
