/-
  Regions whose order is drawn: what only reads is taken first; what is read must still stand behind each operation that writes.
-/
import Derived.Test.YtjelnknmjhceiaaVcGen
namespace Go.Proofs.Ytjelnknmjhceiaa
set_option linter.unusedSimpArgs false
set_option linter.unusedVariables false
set_option maxRecDepth 20000
open Go

def pmask (o : Oper) : Nat := o.after.toList.foldr (fun e s => if Region.binds .any e = true then 2 ^ e.on ||| s else s) 0
def amask (acc : List Nat) (o : Oper) : Nat := o.after.toList.foldr (fun e s => if Region.binds .any e = true then 2 ^ e.on ||| acc.getD e.on 0 ||| s else s) 0
def amasks : List Oper → List Nat → List Nat
  | [], acc => acc
  | o :: os, acc => amasks os (acc ++ [amask acc o])
def hoistB (P : Program) (o : Oper) : Bool := isQuiet P o.op && (match o.op with | .assign _ => false | _ => true)
def rdy (ops : Array Oper) (done i : Nat) : Bool :=
  match ops[i]? with
  | some o => !done.testBit i && (pmask o &&& done == pmask o)
  | none => false
def hoistI (P : Program) (ops : Array Oper) (i : Nat) : Bool :=
  match ops[i]? with
  | some o => hoistB P o
  | none => false
def allP : List Prop → Prop
  | [] => True
  | [p] => p
  | p :: ps => p ∧ allP ps
theorem allP_mem : ∀ {l : List Prop} {p : Prop}, allP l → p ∈ l → p
  | [_], _, h, hm => by have := List.mem_singleton.1 hm; subst this; exact h
  | _ :: _ :: _, _, h, hm => by
    rcases List.mem_cons.1 hm with rfl | hm
    · exact h.1
    · exact allP_mem h.2 hm
/-- A load yields what it has yielded. -/
def stillB (P : Program) (ops : Array Oper) (e : Env) (h : Heap) (j : Nat) (X : Prop) : Prop :=
  match ops[j]? with
  | some o =>
    match o.dst with
    | some d => vcG ops o e (fun e => vcQ P o e h fun v => v = e d) (fun _ => True) ∧ X
    | none => False
  | none => False
def oblP (P : Program) (ops : Array Oper) (e : Env) (h : Heap) : List Nat → Prop → Prop
  | [], X => X
  | j :: js, X => stillB P ops e h j (oblP P ops e h js X)
def oblL (ops : Array Oper) (am : List Nat) (done i : Nat) : List Nat :=
  (List.range ops.size).filter fun j => done.testBit j && !(am.getD i 0).testBit j && (match ops[j]? with | some o => isLoad o.op | none => false)
def vcD [Gh] (P : Program) (N : Nat) (ops : Array Oper) (am : List Nat) (K : Env → List Deferred → Heap → Prop) : Nat → Nat → Env → List Deferred → Heap → Prop
  | 0, _, _, _, _ => False
  | f + 1, done, e, ds, h =>
    match (List.range ops.size).find? fun i => rdy ops done i && hoistI P ops i with
    | some i =>
      match ops[i]? with
      | some o => vcG ops o e (fun e => vcQ P o e h fun v => vcD P N ops am K f (done ||| 2 ^ i) (eput N e o.dst v) ds h) (fun e => vcD P N ops am K f (done ||| 2 ^ i) (eput N e o.dst undef) ds h)
      | none => False
    | none =>
      match (List.range ops.size).filter (rdy ops done) with
      | [] => K e ds h
      | rs => allP (rs.map fun i =>
        match ops[i]? with
        | some o => vcG ops o e (fun e => vcOpV P o e ds h fun v ds' h' => oblP P ops e h' (if isQuiet P o.op = true then [] else oblL ops am done i) (vcD P N ops am K f (done ||| 2 ^ i) (eput N e o.dst v) ds' h'))
            (fun e => vcD P N ops am K f (done ||| 2 ^ i) (eput N e o.dst undef) ds h)
        | none => False)
def memT (d : Option Tmp) (l : List Tmp) : Bool :=
  match d with
  | some d => l.contains d
  | none => false
/-- What does not touch each other's slots. -/
def chkD (P : Program) (ops : Array Oper) : Bool :=
  (List.range ops.size).all fun i =>
    match ops[i]? with
    | none => false
    | some o =>
      (match o.op with | .select .. => false | _ => true) && o.after.toList.all (fun e => !Region.binds .any e || e.on < i) &&
      (!hoistB P o || (!memT o.dst (o.looksAt ops) && (List.range ops.size).all fun j => j == i ||
        match ops[j]? with
        | none => false
        | some q =>
          (match o.dst with | some d => q.dst != some d && (!(q.looksAt ops).contains d || (pmask q).testBit i) | none => true) &&
          (!memT q.dst (o.looksAt ops) || (pmask q).testBit i || (pmask o).testBit j)))

section
variable {P : Program} {N : Nat} {ops : Array Oper}
def yieldE (ops : Array Oper) (e : Env) (g : Nat) : Option Bool :=
  match (ops[g]?).bind (·.dst) with
  | some d => (match e d with | .bool b => some b | _ => none)
  | none => none
def wantE (ops : Array Oper) (o : Oper) (e : Env) : Bool := Region.wanted o (yieldE ops e)
theorem vcG_env {o : Oper} {e : Env} {run skip : Env → Prop} (hh : vcG ops o e run skip) : (wantE ops o e = true ∧ run e) ∨ (wantE ops o e = false ∧ skip e) := by
  unfold vcG at hh
  unfold wantE Region.wanted
  cases hg : o.guard with
  | none => rw [hg] at hh; exact .inl ⟨rfl, hh⟩
  | some gw =>
    obtain ⟨g, want⟩ := gw
    rw [hg] at hh
    simp only at hh ⊢
    unfold yieldE
    cases hd : (ops[g]?).bind (·.dst) with
    | none => rw [hd] at hh; exact .inr ⟨by simp, hh⟩
    | some d =>
      rw [hd] at hh
      simp only at hh ⊢
      cases hv : e d with
      | bool b =>
        rw [hv] at hh
        simp only at hh
        cases b
        · simp only [Bool.false_eq_true, if_false] at hh
          rw [upd_self hv] at hh
          cases want
          · exact .inl ⟨by simp, by simpa using hh⟩
          · exact .inr ⟨by simp, by simpa using hh⟩
        · simp only [if_true] at hh
          rw [upd_self hv] at hh
          cases want
          · exact .inr ⟨by simp, by simpa using hh⟩
          · exact .inl ⟨by simp, by simpa using hh⟩
      | _ => rw [hv] at hh; exact .inr ⟨rfl, hh⟩
theorem wantE_aenv (o : Oper) (a : Act) : Region.wanted o (yielded ops a.tmps) = wantE ops o (aenv a) := by
  unfold wantE Region.wanted
  cases o.guard with
  | none => rfl
  | some gw => obtain ⟨g, want⟩ := gw; simp only; rw [yielded_eq]; rfl
/-- What an operation looks at decides what it does. -/
theorem exec_same {o : Oper} {e e' : Env} (hs : ∀ cs b, o.op ≠ .select cs b) (h : ∀ t ∈ o.looksAt ops, e t = e' t) : execOp (eev e) o = execOp (eev e') o := by
  refine execOp_congr o hs fun x hx => ?_
  cases x with
  | tmp t => exact h t (List.mem_append_left _ (List.mem_filterMap.2 ⟨.tmp t, by simpa using hx, rfl⟩))
  | _ => rfl
theorem want_same {o : Oper} {e e' : Env} (h : ∀ t ∈ o.looksAt ops, e t = e' t) : wantE ops o e = wantE ops o e' := by
  unfold wantE Region.wanted
  cases hg : o.guard with
  | none => rfl
  | some gw =>
    obtain ⟨g, want⟩ := gw
    simp only
    unfold yieldE
    cases hd : (ops[g]?).bind (·.dst) with
    | none => rfl
    | some d =>
      simp only
      rw [h d (List.mem_append_right _ (by simp [hg, hd]))]

theorem testBit_or_pow (a i j : Nat) : (a ||| 2 ^ i).testBit j = (a.testBit j || decide (i = j)) := by
  rw [Nat.testBit_or, Nat.testBit_two_pow]
theorem foldr_mask (f : Edge → Nat) : ∀ (l : List Edge) (j : Nat), (l.foldr (fun e s => if Region.binds .any e = true then f e ||| s else s) 0).testBit j = true →
    ∃ e ∈ l, Region.binds .any e = true ∧ (f e).testBit j = true
  | [], j, h => by simp at h
  | e :: l, j, h => by
    simp only [List.foldr_cons] at h
    split at h
    · rename_i hb
      rw [Nat.testBit_or, Bool.or_eq_true] at h
      rcases h with h | h
      · exact ⟨e, by simp, hb, h⟩
      · obtain ⟨e', hm, h⟩ := foldr_mask f l j h; exact ⟨e', by simp [hm], h⟩
    · obtain ⟨e', hm, h⟩ := foldr_mask f l j h; exact ⟨e', by simp [hm], h⟩
theorem foldr_mask_mem (f : Edge → Nat) : ∀ (l : List Edge) (j : Nat) (e : Edge), e ∈ l → Region.binds .any e = true → (f e).testBit j = true →
    (l.foldr (fun e s => if Region.binds .any e = true then f e ||| s else s) 0).testBit j = true
  | e' :: l, j, e, hm, hb, h => by
    simp only [List.foldr_cons]
    rcases List.mem_cons.1 hm with rfl | hm
    · rw [if_pos hb, Nat.testBit_or, h]; rfl
    · have := foldr_mask_mem f l j e hm hb h
      split
      · rw [Nat.testBit_or, this]; simp
      · exact this
theorem pmask_iff {o : Oper} {j : Nat} : (pmask o).testBit j = true ↔ ∃ e ∈ o.after, Region.binds .any e = true ∧ e.on = j := by
  constructor
  · intro h
    obtain ⟨e, hm, hb, ht⟩ := foldr_mask (fun e => 2 ^ e.on) _ _ h
    rw [Nat.testBit_two_pow] at ht
    exact ⟨e, by simpa using hm, hb, by simpa using ht⟩
  · rintro ⟨e, hm, hb, rfl⟩
    exact foldr_mask_mem (fun e => 2 ^ e.on) _ _ e (by simpa using hm) hb (by simp [Nat.testBit_two_pow])
/-- Before. -/
inductive Anc (ops : Array Oper) : Nat → Nat → Prop
  | one {j : Nat} {o : Oper} {e : Edge} (ho : ops[j]? = some o) (hm : e ∈ o.after) (hb : Region.binds .any e = true) : Anc ops e.on j
  | step {i j : Nat} {o : Oper} {e : Edge} (ho : ops[j]? = some o) (hm : e ∈ o.after) (hb : Region.binds .any e = true) (h : Anc ops i e.on) : Anc ops i j
theorem amasks_anc : ∀ (os : List Oper) (acc : List Nat), (∀ k, k < os.length → ops[acc.length + k]? = os[k]?) → (∀ j i, (acc.getD j 0).testBit i = true → Anc ops i j) →
    ∀ j i, ((amasks os acc).getD j 0).testBit i = true → Anc ops i j
  | [], acc, _, h => h
  | o :: os, acc, hs, h => by
    unfold amasks
    refine amasks_anc os _ (fun k hk => ?_) ?_
    · have := hs (k + 1) (by simpa using hk)
      simp only [List.length_append, List.length_cons, List.length_nil, List.getElem?_cons_succ] at this ⊢
      rw [← this]; congr 1; omega
    · intro j i hb
      rw [List.getD_eq_getElem?_getD] at hb
      rcases Nat.lt_trichotomy j acc.length with hj | hj | hj
      · rw [List.getElem?_append_left hj, ← List.getD_eq_getElem?_getD] at hb; exact h j i hb
      · subst hj
        rw [List.getElem?_append_right (Nat.le_refl _)] at hb
        simp only [Nat.sub_self, List.getElem?_cons_zero, Option.getD_some] at hb
        have ho := hs 0 (by simp)
        simp only [Nat.add_zero, List.getElem?_cons_zero] at ho
        unfold amask at hb
        obtain ⟨e, hm, hbd, ht⟩ := foldr_mask (fun e => 2 ^ e.on ||| acc.getD e.on 0) _ _ hb
        rw [Nat.testBit_or, Bool.or_eq_true] at ht
        rcases ht with ht | ht
        · rw [Nat.testBit_two_pow] at ht
          have : e.on = i := by simpa using ht
          subst this
          exact .one ho (by simpa using hm) hbd
        · exact .step ho (by simpa using hm) hbd (h _ _ ht)
      · rw [List.getElem?_eq_none (by simp; omega)] at hb; simp at hb

/-- What stands between an order that was drawn and the one that is walked. -/
structure Rel [Gh] (P : Program) (N : Nat) (ops : Array Oper) (listed : Array Bool) (done : Nat) (e : Env) (ds : List Deferred) (h : Heap) (a : Act) (w : World) : Prop where
  size : listed.size = ops.size
  tmps : a.tmps.size = N
  sm : Sm w
  defers : a.defers = ds
  heap : w.heap = h
  sub : ∀ j, listed.getD j false = true → done.testBit j = true
  down : ∀ j o, ops[j]? = some o → done.testBit j = true → ∀ i, (pmask o).testBit i = true → done.testBit i = true
  downL : ∀ j o, ops[j]? = some o → listed.getD j false = true → ∀ i, (pmask o).testBit i = true → listed.getD i false = true
  pend : ∀ j o, ops[j]? = some o → done.testBit j = true → listed.getD j false = false → hoistB P o = true ∧
    ((wantE ops o e = true ∧ ∃ v, (isLoad o.op = true → QOk P o e h v) ∧ (isLoad o.op = false → QAll P o e v) ∧ ∀ d, o.dst = some d → d < N → e d = v) ∨
     (wantE ops o e = false ∧ ∀ d, o.dst = some d → d < N → e d = undef))
  env : ∀ t, (∀ j o, ops[j]? = some o → done.testBit j = true → listed.getD j false = false → o.dst ≠ some t) → aenv a t = e t
  hi : ∀ t, N ≤ t → e t = undef

structure Chk (P : Program) (ops : Array Oper) : Prop where
  sel : ∀ (j : Nat) (o : Oper) cs b, ops[j]? = some o → o.op ≠ .select cs b
  low : ∀ (j : Nat) (o : Oper), ops[j]? = some o → ∀ i, (pmask o).testBit i = true → i < j
  own : ∀ (i : Nat) (o : Oper), ops[i]? = some o → hoistB P o = true → ∀ d, o.dst = some d → d ∉ o.looksAt ops
  dst : ∀ (i : Nat) (o : Oper) (j : Nat) (q : Oper), ops[i]? = some o → ops[j]? = some q → i ≠ j → hoistB P o = true → ∀ d, o.dst = some d → q.dst ≠ some d ∧ (d ∈ q.looksAt ops → (pmask q).testBit i = true)
  look : ∀ (i : Nat) (o : Oper) (j : Nat) (q : Oper), ops[i]? = some o → ops[j]? = some q → i ≠ j → hoistB P o = true → ∀ t, q.dst = some t → t ∈ o.looksAt ops → (pmask q).testBit i = true ∨ (pmask o).testBit j = true
theorem lt_of_ops {j : Nat} {o : Oper} (h : ops[j]? = some o) : j < ops.size := (Array.getElem?_eq_some_iff.1 h).1
theorem chk_of [Gh] (h : chkD P ops = true) : Chk P ops := by
  have h0 : ∀ (i : Nat) (o : Oper), ops[i]? = some o → ((match o.op with | .select .. => false | _ => true) && o.after.toList.all (fun e => !Region.binds .any e || e.on < i) &&
      (!hoistB P o || (!memT o.dst (o.looksAt ops) && (List.range ops.size).all fun j => j == i ||
        match ops[j]? with
        | none => false
        | some q =>
          (match o.dst with | some d => q.dst != some d && (!(q.looksAt ops).contains d || (pmask q).testBit i) | none => true) &&
          (!memT q.dst (o.looksAt ops) || (pmask q).testBit i || (pmask o).testBit j)))) = true := fun i o ho => by
    unfold chkD at h
    rw [List.all_eq_true] at h
    have := h i (List.mem_range.2 (lt_of_ops ho))
    simpa only [ho] using this
  have h1 : ∀ (i : Nat) (o : Oper) (j : Nat) (q : Oper), ops[i]? = some o → ops[j]? = some q → i ≠ j → hoistB P o = true →
      ((match o.dst with | some d => q.dst != some d && (!(q.looksAt ops).contains d || (pmask q).testBit i) | none => true) &&
          (!memT q.dst (o.looksAt ops) || (pmask q).testBit i || (pmask o).testBit j)) = true := fun i o j q ho hq hne hh => by
    have := h0 i o ho
    simp only [Bool.and_eq_true, hh, Bool.not_true, Bool.false_or] at this
    have := this.2.2
    rw [List.all_eq_true] at this
    have := this j (List.mem_range.2 (lt_of_ops hq))
    simp only [hq, Bool.or_eq_true, beq_iff_eq] at this
    rcases this with rfl | this
    · exact absurd rfl hne
    · exact this
  refine ⟨?_, ?_, ?_, ?_, ?_⟩
  · intro j o cs b ho hs
    have := h0 j o ho
    simp [hs] at this
  · intro j o ho i hi
    obtain ⟨e, hm, hb, rfl⟩ := pmask_iff.1 hi
    have := h0 j o ho
    simp only [Bool.and_eq_true] at this
    have := this.1.2
    rw [List.all_eq_true] at this
    have := this e (by simpa using hm)
    simpa [hb] using this
  · intro i o ho hh d hd hm
    have := h0 i o ho
    simp only [Bool.and_eq_true, hh, Bool.not_true, Bool.false_or] at this
    have := this.2.1
    simp [memT, hd, hm] at this
  · intro i o j q ho hq hne hh d hd
    have := h1 i o j q ho hq hne hh
    simp only [Bool.and_eq_true, hd] at this
    refine ⟨by simpa using this.1.1, fun hm => ?_⟩
    have := this.1.2
    simpa [hm] using this
  · intro i o j q ho hq hne hh t ht hm
    have := h1 i o j q ho hq hne hh
    simp only [Bool.and_eq_true] at this
    have := this.2
    simpa [memT, ht, hm] using this

theorem eput_ne {e : Env} {d : Option Tmp} {v : Value} {t : Nat} (h : d ≠ some t) : eput N e d v t = e t := by
  cases d with
  | none => rfl
  | some d =>
    simp only [eput]; split
    · unfold upd; rw [if_neg]; rintro rfl; exact h rfl
    · rfl
theorem eput_hi {e : Env} {d : Option Tmp} {v : Value} {t : Nat} (h : N ≤ t) : eput N e d v t = e t := by
  cases d with
  | none => rfl
  | some d =>
    by_cases hd : d < N
    · simp only [eput, hd, if_true, upd]; rw [if_neg]; intro ht; rw [ht] at h; exact absurd hd (Nat.not_lt.2 h)
    · simp only [eput, hd, if_false]
theorem aenv_hi {a : Act} {t : Nat} (h : a.tmps.size ≤ t) : aenv a t = undef := by
  simp [aenv, Array.getD_eq_getD_getElem?, Array.getElem?_eq_none h]
theorem eput_eq {e : Env} {d : Nat} {v : Value} (h : d < N) : eput N e (some d) v d = v := by
  simp [eput, h, upd]
theorem mem_rdy {done i : Nat} {o : Oper} (ho : ops[i]? = some o) : rdy ops done i = true ↔ done.testBit i = false ∧ ∀ k, (pmask o).testBit k = true → done.testBit k = true := by
  unfold rdy; rw [ho]
  simp only [Bool.and_eq_true, Bool.not_eq_true', beq_iff_eq]
  constructor
  · rintro ⟨h1, h2⟩
    refine ⟨h1, fun k hk => ?_⟩
    have := congrArg (fun n => n.testBit k) h2
    simp only [Nat.testBit_and, hk, Bool.true_and] at this
    exact this
  · rintro ⟨h1, h2⟩
    refine ⟨h1, Nat.eq_of_testBit_eq fun k => ?_⟩
    rw [Nat.testBit_and]
    cases hk : (pmask o).testBit k with
    | false => rfl
    | true => rw [h2 k hk]; rfl
theorem mem_ready' [Gh] {listed : Array Bool} {i : Nat} (hs : listed.size = ops.size) : i ∈ Region.ready .any ops listed ↔ ∃ o, ops[i]? = some o ∧ listed.getD i false = false ∧ ∀ k, (pmask o).testBit k = true → listed.getD k false = true := by
  rw [mem_ready]
  constructor
  · rintro ⟨h1, o, ho, h2⟩
    have hl : i < listed.size := by rw [hs]; exact lt_of_ops ho
    refine ⟨o, ho, by simpa [hl] using h1, fun k hk => ?_⟩
    obtain ⟨e, hm, hb, rfl⟩ := pmask_iff.1 hk
    exact h2 e hm hb
  · rintro ⟨o, ho, h1, h2⟩
    have hl : i < listed.size := by rw [hs]; exact lt_of_ops ho
    exact ⟨by simpa [hl] using h1, o, ho, fun e hm hb => h2 _ (pmask_iff.2 ⟨e, hm, hb, rfl⟩)⟩
theorem getD_set {listed : Array Bool} {i j : Nat} (hi : i < listed.size) : (listed.setIfInBounds i true).getD j false = (listed.getD j false || decide (i = j)) := by
  by_cases h : i = j
  · subst h; simp [hi]
  · rw [getD_set_ne false h]; simp [h]
theorem anc_listed {listed : Array Bool} (hd : ∀ j o, ops[j]? = some o → listed.getD j false = true → ∀ i, (pmask o).testBit i = true → listed.getD i false = true) {i j : Nat} (ha : Anc ops i j) :
    ∀ {o : Oper}, ops[j]? = some o → (∀ k, (pmask o).testBit k = true → listed.getD k false = true) → listed.size = ops.size → listed.getD i false = true := by
  induction ha with
  | one ho hm hb => intro o ho' h _; rw [ho] at ho'; cases ho'; exact h _ (pmask_iff.2 ⟨_, hm, hb, rfl⟩)
  | @step i j o e ho hm hb h ih =>
    intro o' ho' hp hs
    rw [ho] at ho'; cases ho'
    have hl := hp e.on (pmask_iff.2 ⟨_, hm, hb, rfl⟩)
    have hlt : e.on < ops.size := by
      rw [← hs]
      rcases Nat.lt_or_ge e.on listed.size with h | h
      · exact h
      · simp [Array.getElem?_eq_none h] at hl
    exact ih (Array.getElem?_eq_getElem hlt) (fun k hk => hd _ _ (Array.getElem?_eq_getElem hlt) hl k hk) hs
theorem Rel.looks [Gh] {listed : Array Bool} {done : Nat} {e : Env} {ds : List Deferred} {h : Heap} {a : Act} {w : World} (c : Chk P ops) (r : Rel P N ops listed done e ds h a w)
    {i : Nat} {o : Oper} (ho : ops[i]? = some o) (hp : ∀ k, (pmask o).testBit k = true → listed.getD k false = true) : ∀ t ∈ o.looksAt ops, aenv a t = e t := by
  intro t ht
  refine r.env t fun j q hq hdj hlj hdst => ?_
  obtain ⟨hh, _⟩ := r.pend j q hq hdj hlj
  by_cases hij : i = j
  · subst hij; rw [ho] at hq; cases hq; exact c.own i o ho hh t hdst ht
  · have := (c.dst j q i o hq ho (Ne.symm hij) hh t hdst).2 ht
    rw [hp j this] at hlj; cases hlj

theorem vcOpV_quiet [Gh] {o : Oper} {e : Env} {ds : List Deferred} {h : Heap} {K : Value → List Deferred → Heap → Prop} (hq : isQuiet P o.op = true) (hh : vcOpV P o e ds h K) :
    ∃ v, QOk P o e h v ∧ K v ds h := by
  unfold vcOpV at hh
  split at hh
  · rename_i c hc; rw [hc] at hq; simp [isQuiet] at hq
  · rw [if_pos hq] at hh; exact vcQ_sound hh

theorem oblP_elim {e : Env} {h : Heap} {X : Prop} : ∀ {l : List Nat}, oblP P ops e h l X → X ∧ ∀ j ∈ l, ∃ o d, ops[j]? = some o ∧ o.dst = some d ∧ ((wantE ops o e = true ∧ vcQ P o e h fun v => v = e d) ∨ wantE ops o e = false)
  | [], hx => ⟨hx, fun _ hj => by cases hj⟩
  | j :: l, hx => by
    unfold oblP stillB at hx
    split at hx
    case h_2 => exact hx.elim
    rename_i o ho
    split at hx
    case h_2 => exact hx.elim
    rename_i d hd
    obtain ⟨h1, h2⟩ := hx
    obtain ⟨hX, hr⟩ := oblP_elim h2
    refine ⟨hX, fun k hk => ?_⟩
    rcases List.mem_cons.1 hk with rfl | hk
    · refine ⟨o, d, ho, hd, ?_⟩
      rcases vcG_env h1 with ⟨hw, hv⟩ | ⟨hw, _⟩
      · exact .inl ⟨hw, hv⟩
      · exact .inr hw
    · exact hr k hk

section main
variable {listed : Array Bool} {done : Nat} {e : Env} {ds : List Deferred} {h : Heap} {a : Act} {w : World}
/-- What an operation yields in a state. -/
def Gives (P : Program) (N : Nat) (ops : Array Oper) (o : Oper) (e : Env) (h : Heap) (v : Value) : Prop :=
  (wantE ops o e = true ∧ (isLoad o.op = true → QOk P o e h v) ∧ (isLoad o.op = false → QAll P o e v)) ∨ (wantE ops o e = false ∧ v = undef)
theorem Gives.same {o : Oper} {e e' : Env} {v : Value} (hs : ∀ cs b, o.op ≠ .select cs b) (hl : ∀ t ∈ o.looksAt ops, e t = e' t) (g : Gives P N ops o e h v) : Gives P N ops o e' h v := by
  unfold Gives QOk QAll at *
  rw [← want_same hl, ← exec_same hs hl]; exact g
theorem gives_of_vcQ {o : Oper} {K : Value → Prop} (hw : wantE ops o e = true) (hh : vcQ P o e h K) : ∃ v, Gives P N ops o e h v ∧ K v := by
  cases hl : isLoad o.op with
  | true => obtain ⟨v, hv, hk⟩ := vcQ_sound hh; exact ⟨v, .inl ⟨hw, fun _ => hv, fun h => by rw [hl] at h; cases h⟩, hk⟩
  | false => obtain ⟨v, hv, hk⟩ := vcQ_all hl hh; exact ⟨v, .inl ⟨hw, fun h => (by rw [hl] at h; cases h), fun _ => hv⟩, hk⟩
theorem pend_of {o : Oper} {v : Value} (g : Gives P N ops o e h v) (hd : ∀ d, o.dst = some d → d < N → e d = v) :
    ((wantE ops o e = true ∧ ∃ v, (isLoad o.op = true → QOk P o e h v) ∧ (isLoad o.op = false → QAll P o e v) ∧ ∀ d, o.dst = some d → d < N → e d = v) ∨
     (wantE ops o e = false ∧ ∀ d, o.dst = some d → d < N → e d = undef)) := by
  rcases g with ⟨hw, h1, h2⟩ | ⟨hw, rfl⟩
  · exact .inl ⟨hw, v, h1, h2, hd⟩
  · exact .inr ⟨hw, hd⟩
theorem gives_of_pend {o : Oper} (p : ((wantE ops o e = true ∧ ∃ v, (isLoad o.op = true → QOk P o e h v) ∧ (isLoad o.op = false → QAll P o e v) ∧ ∀ d, o.dst = some d → d < N → e d = v) ∨
     (wantE ops o e = false ∧ ∀ d, o.dst = some d → d < N → e d = undef))) : ∃ v, Gives P N ops o e h v ∧ ∀ d, o.dst = some d → d < N → e d = v := by
  rcases p with ⟨hw, v, h1, h2, h3⟩ | ⟨hw, h3⟩
  · exact ⟨v, .inl ⟨hw, h1, h2⟩, h3⟩
  · exact ⟨undef, .inr ⟨hw, rfl⟩, h3⟩

theorem Rel.hoist [Gh] (c : Chk P ops) (r : Rel P N ops listed done e ds h a w) {i : Nat} {o : Oper} (ho : ops[i]? = some o) (hr : rdy ops done i = true) (hh : hoistB P o = true) {v : Value}
    (g : Gives P N ops o e h v) : Rel P N ops listed (done ||| 2 ^ i) (eput N e o.dst v) ds h a w := by
  obtain ⟨hni, hpi⟩ := (mem_rdy ho).1 hr
  have eself : ∀ t ∈ o.looksAt ops, e t = eput N e o.dst v t := fun t ht => (eput_ne (fun hd => c.own i o ho hh t hd ht)).symm
  refine { r with sub := fun j hj => ?_, down := ?_, pend := ?_, env := ?_, hi := fun t ht => by rw [eput_hi ht]; exact r.hi t ht }
  · rw [testBit_or_pow, r.sub j hj]; rfl
  · intro j q hq hj k hk
    rw [testBit_or_pow, Bool.or_eq_true] at hj ⊢
    rcases hj with hj | hj
    · exact .inl (r.down j q hq hj k hk)
    · have : i = j := by simpa using hj
      subst this; rw [ho] at hq; cases hq
      exact .inl (hpi k hk)
  · intro j q hq hj hlj
    rw [testBit_or_pow, Bool.or_eq_true] at hj
    by_cases hij : i = j
    · subst hij; rw [ho] at hq; cases hq
      refine ⟨hh, pend_of (v := v) (g.same (fun cs b => c.sel i o cs b ho) eself) fun d hd hdN => ?_⟩
      rw [hd]; exact eput_eq hdN
    · have hj' : done.testBit j = true := by simpa [hij] using hj
      obtain ⟨hhj, hp⟩ := r.pend j q hq hj' hlj
      obtain ⟨u, gu, hu⟩ := gives_of_pend hp
      have hl : ∀ t ∈ q.looksAt ops, e t = eput N e o.dst v t := fun t ht => (eput_ne fun hd => by
        have := (c.dst i o j q ho hq hij hh t hd).2 ht
        have := r.down j q hq hj' i this
        rw [hni] at this; cases this).symm
      refine ⟨hhj, pend_of (gu.same (fun cs b => c.sel j q cs b hq) hl) fun d hd hdN => ?_⟩
      rw [eput_ne fun hdo => (c.dst i o j q ho hq hij hh d hdo).1 hd]
      exact hu d hd hdN
  · intro t ht
    have h1 : o.dst ≠ some t := by
      refine ht i o ho ?_ ?_
      · rw [testBit_or_pow]; simp
      · cases hl : listed.getD i false with
        | false => rfl
        | true => have := r.sub i hl; rw [hni] at this; cases this
    rw [eput_ne h1]
    refine r.env t fun j q hq hj hlj => ht j q hq ?_ hlj
    rw [testBit_or_pow, hj]; rfl

theorem lt_listed [Gh] (r : Rel P N ops listed done e ds h a w) {i : Nat} {o : Oper} (ho : ops[i]? = some o) : i < listed.size := by rw [r.size]; exact lt_of_ops ho
theorem Rel.downL_set [Gh] (r : Rel P N ops listed done e ds h a w) {i : Nat} {o : Oper} (ho : ops[i]? = some o) (hp : ∀ k, (pmask o).testBit k = true → listed.getD k false = true) :
    ∀ j o, ops[j]? = some o → (listed.setIfInBounds i true).getD j false = true → ∀ k, (pmask o).testBit k = true → (listed.setIfInBounds i true).getD k false = true := by
  intro j q hq hj k hk
  rw [getD_set (lt_listed r ho), Bool.or_eq_true] at hj ⊢
  rcases hj with hj | hj
  · exact .inl (r.downL j q hq hj k hk)
  · have : i = j := by simpa using hj
    subst this; rw [ho] at hq; cases hq; exact .inl (hp k hk)

/-- One that was taken first comes up. -/
theorem Rel.pop [Gh] (c : Chk P ops) (r : Rel P N ops listed done e ds h a w) {i : Nat} {o : Oper} (ho : ops[i]? = some o) (hp : ∀ k, (pmask o).testBit k = true → listed.getD k false = true)
    (hl : listed.getD i false = false) (hd : done.testBit i = true) {Q : Exit → Act → World → Prop} {K : Act → World → Prop}
    (hK : ∀ v, Rel P N ops (listed.setIfInBounds i true) done e ds h (a.put o.dst v) w → K (a.put o.dst v) w) : wpOp P ops Q i K a w := by
  obtain ⟨hh, hpd⟩ := r.pend i o ho hd hl
  obtain ⟨v, g, hv⟩ := gives_of_pend hpd
  have hlk := r.looks c ho hp
  have g' : Gives P N ops o (aenv a) h v := g.same (fun cs b => c.sel i o cs b ho) fun t ht => (hlk t ht).symm
  have key : K (a.put o.dst v) w := by
    refine hK v { size := by simp [r.size], tmps := by rw [size_put]; exact r.tmps, sm := r.sm, defers := by rw [defers_put]; exact r.defers, heap := r.heap, sub := ?_, down := r.down, downL := r.downL_set ho hp, pend := ?_, env := ?_, hi := r.hi }
    · intro j hj
      rw [getD_set (lt_listed r ho), Bool.or_eq_true] at hj
      rcases hj with hj | hj
      · exact r.sub j hj
      · have : i = j := by simpa using hj
        subst this; exact hd
    · intro j q hq hj hlj
      rw [getD_set (lt_listed r ho), Bool.or_eq_false_iff] at hlj
      exact r.pend j q hq hj hlj.1
    · intro t ht
      rw [aenv_put, r.tmps]
      by_cases hdt : o.dst = some t
      · by_cases htN : t < N
        · rw [hdt, eput_eq htN, hv t hdt htN]
        · have e1 : eput N (aenv a) o.dst v t = aenv a t := by rw [hdt]; simp [eput, htN]
          rw [e1, r.hi t (by omega), aenv_hi (by rw [r.tmps]; omega)]
      · rw [eput_ne hdt]
        refine r.env t fun j q hq hj hlj => ?_
        by_cases hij : i = j
        · subst hij; rw [ho] at hq; cases hq; exact hdt
        · exact ht j q hq hj (by rw [getD_set (lt_listed r ho)]; simp [hlj, hij])
  unfold wpOp; rw [ho]; simp only
  rw [wantE_aenv]
  rcases g' with ⟨hw, h1, h2⟩ | ⟨hw, rfl⟩
  · rw [hw]; simp only [if_true]
    refine .inl ?_
    have hx : (execOp a.eval o).run P w = .ok (.value v) w := by
      rw [aeval_eq]
      cases hld : isLoad o.op with
      | true => exact h1 hld w r.heap
      | false => exact h2 hld w
    unfold Oper.wp; rw [hx]; exact key
  · rw [hw]; simp only [Bool.false_eq_true, if_false]; exact key

/-- One that writes comes up. -/
theorem Rel.push [Gh] (c : Chk P ops) (r : Rel P N ops listed done e ds h a w) {i : Nat} {o : Oper} (ho : ops[i]? = some o) (hp : ∀ k, (pmask o).testBit k = true → listed.getD k false = true)
    (hl : listed.getD i false = false) (hd : done.testBit i = false) {v : Value} {ds' : List Deferred} {w' : World} {h' : Heap} (hw : w'.heap = h') (hsm : Sm w')
    (still : h' = h ∨ ∀ j q, ops[j]? = some q → done.testBit j = true → listed.getD j false = false → isLoad q.op = true → ∃ d, q.dst = some d ∧ ((wantE ops q e = true ∧ vcQ P q e h' fun v => v = e d) ∨ wantE ops q e = false)) :
    Rel P N ops (listed.setIfInBounds i true) (done ||| 2 ^ i) (eput N e o.dst v) ds' h' (({ a with defers := ds' } : Act).put o.dst v) w' := by
  refine { size := by simp [r.size], tmps := by rw [size_put]; exact r.tmps, sm := hsm, defers := by rw [defers_put], heap := hw, sub := ?_, down := ?_, downL := r.downL_set ho hp, pend := ?_, env := ?_, hi := fun t ht => by rw [eput_hi ht]; exact r.hi t ht }
  · intro j hj
    rw [getD_set (lt_listed r ho), Bool.or_eq_true] at hj
    rw [testBit_or_pow, Bool.or_eq_true]
    rcases hj with hj | hj
    · exact .inl (r.sub j hj)
    · exact .inr hj
  · intro j q hq hj k hk
    rw [testBit_or_pow, Bool.or_eq_true] at hj ⊢
    rcases hj with hj | hj
    · exact .inl (r.down j q hq hj k hk)
    · have : i = j := by simpa using hj
      subst this; rw [ho] at hq; cases hq
      exact .inl (r.sub k (hp k hk))
  · intro j q hq hj hlj
    rw [getD_set (lt_listed r ho), Bool.or_eq_false_iff] at hlj
    have hij : i ≠ j := by simpa using hlj.2
    have hj' : done.testBit j = true := by
      rw [testBit_or_pow] at hj; simpa [hij] using hj
    obtain ⟨hhj, hpd⟩ := r.pend j q hq hj' hlj.1
    have hne : ∀ t, o.dst = some t → q.dst ≠ some t := fun t ht hq' => (c.dst j q i o hq ho (Ne.symm hij) hhj t hq').1 ht
    have hlk : ∀ t ∈ q.looksAt ops, e t = eput N e o.dst v t := fun t ht => (eput_ne fun hdo => by
      rcases c.look j q i o hq ho (Ne.symm hij) hhj t hdo ht with h1 | h1
      · rw [hp j h1] at hlj; cases hlj.1
      · have := r.down j q hq hj' i h1
        rw [hd] at this; cases this).symm
    refine ⟨hhj, ?_⟩
    have base : ∃ u, Gives P N ops q e h' u ∧ ∀ d, q.dst = some d → d < N → e d = u := by
      obtain ⟨u, gu, hu⟩ := gives_of_pend hpd
      cases hld : isLoad q.op with
      | false =>
        refine ⟨u, ?_, hu⟩
        rcases gu with ⟨h1, _, h3⟩ | ⟨h1, h2⟩
        · exact .inl ⟨h1, fun hx => (by rw [hld] at hx; cases hx), h3⟩
        · exact .inr ⟨h1, h2⟩
      | true =>
        rcases still with rfl | still
        · exact ⟨u, gu, hu⟩
        · obtain ⟨d, hqd, hv⟩ := still j q hq hj' hlj.1 hld
          rcases hv with ⟨hw, hv⟩ | hw
          · obtain ⟨v', g', rfl⟩ := gives_of_vcQ (N := N) hw hv
            refine ⟨_, g', fun d' hd' _ => ?_⟩
            rw [hqd] at hd'; cases hd'; rfl
          · rcases gu with ⟨h1, _⟩ | ⟨_, h2⟩
            · rw [hw] at h1; cases h1
            · exact ⟨u, .inr ⟨hw, h2⟩, hu⟩
    obtain ⟨u, gu, hu⟩ := base
    refine pend_of (gu.same (fun cs b => c.sel j q cs b hq) hlk) fun d hd' hdN => ?_
    rw [eput_ne fun hdo => hne d hdo hd']
    exact hu d hd' hdN
  · intro t ht
    rw [aenv_put]
    have e0 : aenv ({ a with defers := ds' } : Act) = aenv a := rfl
    rw [e0]
    simp only [r.tmps]
    by_cases hdt : o.dst = some t
    · by_cases htN : t < N
      · rw [hdt, eput_eq htN, eput_eq htN]
      · rw [eput_hi (by omega), eput_hi (by omega), r.hi t (by omega), aenv_hi (by rw [r.tmps]; omega)]
    · rw [eput_ne hdt, eput_ne hdt]
      refine r.env t fun j q hq hj hlj => ?_
      by_cases hij : i = j
      · subst hij; rw [hd] at hj; cases hj
      · exact ht j q hq (by rw [testBit_or_pow, hj]; rfl) (by rw [getD_set (lt_listed r ho)]; simp [hlj, hij])

def unl (ops : Array Oper) (listed : Array Bool) : Nat := ((List.range ops.size).filter fun j => !listed.getD j false).length
theorem filter_set_len (l : List Nat) (hn : l.Nodup) {listed : Array Bool} {i : Nat} (hi : i < listed.size) (hm : i ∈ l) (hl : listed.getD i false = false) :
    (l.filter fun j => !(listed.setIfInBounds i true).getD j false).length + 1 = (l.filter fun j => !listed.getD j false).length := by
  induction l with
  | nil => cases hm
  | cons x l ih =>
    rw [List.nodup_cons] at hn
    by_cases hx : x = i
    · subst hx
      have hsame : l.filter (fun j => !(listed.setIfInBounds x true).getD j false) = l.filter (fun j => !listed.getD j false) := by
        refine List.filter_congr fun j hj => ?_
        rw [getD_set_ne false]; rintro rfl; exact hn.1 hj
      rw [List.filter_cons, List.filter_cons, hsame, hl]
      simp [hi]
    · have hm' : i ∈ l := by
        rcases List.mem_cons.1 hm with h | h
        · exact absurd h.symm hx
        · exact h
      have := ih hn.2 hm'
      rw [List.filter_cons, List.filter_cons, getD_set_ne false (Ne.symm hx)]
      split
      · simp only [List.length_cons]; omega
      · exact this
theorem unl_set [Gh] (hs : listed.size = ops.size) {i : Nat} {o : Oper} (ho : ops[i]? = some o) (hl : listed.getD i false = false) : unl ops (listed.setIfInBounds i true) + 1 = unl ops listed :=
  filter_set_len _ List.nodup_range (by rw [hs]; exact lt_of_ops ho) (List.mem_range.2 (lt_of_ops ho)) hl

theorem all_listed [Gh] (c : Chk P ops) (hs : listed.size = ops.size) (hn : Region.ready .any ops listed = []) : ∀ (j : Nat) (o : Oper), ops[j]? = some o → listed.getD j false = true := by
  intro j
  induction j using Nat.strongRecOn with
  | _ j ih =>
    intro o ho
    cases hl : listed.getD j false with
    | true => rfl
    | false =>
      have : j ∈ Region.ready .any ops listed := (mem_ready' hs).2 ⟨o, ho, hl, fun k hk => by
        have hlt := c.low j o ho k hk
        have hk' : k < ops.size := Nat.lt_trans hlt (lt_of_ops ho)
        exact ih k hlt _ (Array.getElem?_eq_getElem hk')⟩
      rw [hn] at this; cases this
theorem rdy_lt {done i : Nat} (h : rdy ops done i = true) : ∃ o, ops[i]? = some o := by
  unfold rdy at h; split at h
  · exact ⟨_, ‹_›⟩
  · cases h
theorem vcD_fin [Gh] {am : List Nat} {K : Env → List Deferred → Heap → Prop} {Q : Exit → Act → World → Prop} {ds0 : List Deferred} {e0 : Env} (c : Chk P ops) (hQ : ∀ a w, (noDefer ops = true → a.defers = ds0) → (∀ t, keepB ops t = true → aenv a t = e0 t) → lift N K a w → Q .normal a w) (hnd : noDefer ops = true → ds = ds0) (hkp : ∀ t, keepB ops t = true → aenv a t = e0 t)
    (r : Rel P N ops listed done e ds h a w) {f : Nat} (hv : vcD P N ops am K f done e ds h) (hn : ∀ (j : Nat) (o : Oper), ops[j]? = some o → listed.getD j false = true) : Q .normal a w := by
  have none_rdy : ∀ i, rdy ops done i = false := fun i => by
    cases hr : rdy ops done i with
    | false => rfl
    | true =>
      obtain ⟨o, ho⟩ := rdy_lt hr
      have := ((mem_rdy ho).1 hr).1
      rw [r.sub i (hn i o ho)] at this; cases this
  cases f with
  | zero => exact hv.elim
  | succ f =>
    unfold vcD at hv
    have e1 : ((List.range ops.size).find? fun i => rdy ops done i && hoistI P ops i) = none := by
      rw [List.find?_eq_none]; intro i _; simp [none_rdy i]
    have e2 : (List.range ops.size).filter (rdy ops done) = [] := by
      rw [List.filter_eq_nil_iff]; intro i _; simp [none_rdy i]
    rw [e1] at hv
    simp only [e2] at hv
    refine hQ a w (fun hn => r.defers.trans (hnd hn)) hkp ⟨⟨r.tmps, r.sm⟩, ?_⟩
    have he : aenv a = e := funext fun t => r.env t fun j o ho hj hl => by rw [hn j o ho] at hl; cases hl
    rw [he, r.defers, r.heap]; exact hv

theorem vcD_sound [Gh] {am : List Nat} {K : Env → List Deferred → Heap → Prop} {Q : Exit → Act → World → Prop} (c : Chk P ops) (ha : ∀ j i, (am.getD j 0).testBit i = true → Anc ops i j)
    {ds0 : List Deferred} {e0 : Env} (hQ : ∀ a w, (noDefer ops = true → a.defers = ds0) → (∀ t, keepB ops t = true → aenv a t = e0 t) → lift N K a w → Q .normal a w) : ∀ (m f : Nat) (listed : Array Bool) (done : Nat) (e : Env) (ds : List Deferred) (h : Heap) (a : Act) (w : World),
      (noDefer ops = true → ds = ds0) → (∀ t, keepB ops t = true → aenv a t = e0 t) → unl ops listed ≤ m → Rel P N ops listed done e ds h a w → vcD P N ops am K f done e ds h → wpAny P .any ops Q m listed a w := by
  intro m
  induction m with
  | zero =>
    intro f listed done e ds h a w hnd hkp hu r hv
    have hall : ∀ (j : Nat) (o : Oper), ops[j]? = some o → listed.getD j false = true := fun j o ho => by
      have h0 : unl ops listed = 0 := by omega
      unfold unl at h0
      rw [List.length_eq_zero_iff, List.filter_eq_nil_iff] at h0
      have := h0 j (List.mem_range.2 (lt_of_ops ho))
      simpa using this
    refine ⟨?_, vcD_fin c hQ hnd hkp r hv hall⟩
    rw [List.eq_nil_iff_forall_not_mem]
    intro i hi
    obtain ⟨o, ho, hl, _⟩ := (mem_ready' r.size).1 hi
    rw [hall i o ho] at hl; cases hl
  | succ m ihm =>
    intro f
    induction f with
    | zero => intro listed done e ds h a w hnd hkp hu r hv; exact hv.elim
    | succ f ihf =>
      intro listed done e ds h a w hnd hkp hu r hv
      have hv0 := hv
      unfold vcD at hv
      split at hv
      · rename_i i hfind
        have hfi := List.find?_some hfind
        rw [Bool.and_eq_true] at hfi
        split at hv
        case h_2 => exact hv.elim
        rename_i o ho
        have hh : hoistB P o = true := by have := hfi.2; unfold hoistI at this; rw [ho] at this; exact this
        rcases vcG_env hv with ⟨hw, hq⟩ | ⟨hw, hs⟩
        · obtain ⟨v, g, hk⟩ := gives_of_vcQ (N := N) hw hq
          exact ihf _ _ _ _ _ _ _ hnd hkp hu (r.hoist c ho hfi.1 hh g) hk
        · exact ihf _ _ _ _ _ _ _ hnd hkp hu (r.hoist c ho hfi.1 hh (.inr ⟨hw, rfl⟩)) hs
      · rename_i hfind
        refine ⟨fun hn => vcD_fin c hQ hnd hkp r hv0 (all_listed c r.size hn), fun i hi => ?_⟩
        obtain ⟨o, ho, hl, hp⟩ := (mem_ready' r.size).1 hi
        have hu' : unl ops (listed.setIfInBounds i true) ≤ m := by have := unl_set r.size ho hl; omega
        cases hd : done.testBit i with
        | true => exact r.pop c ho hp hl hd fun v r' => ihm (f + 1) _ _ _ _ _ _ _ hnd (fun t ht => (keep_put ho ht).trans (hkp t ht)) hu' r' hv0
        | false =>
          have hrdy : rdy ops done i = true := (mem_rdy ho).2 ⟨hd, fun k hk => r.sub k (hp k hk)⟩
          have hmem : i ∈ (List.range ops.size).filter (rdy ops done) := List.mem_filter.2 ⟨List.mem_range.2 (lt_of_ops ho), hrdy⟩
          split at hv
          · rename_i hnil; rw [hnil] at hmem; cases hmem
          rename_i rs hrs
          have hP := allP_mem hv (List.mem_map.2 ⟨i, hmem, rfl⟩)
          simp only [ho] at hP
          have hlk := r.looks c ho hp
          unfold wpOp; rw [ho]; simp only
          rw [wantE_aenv, want_same hlk]
          rcases vcG_env hP with ⟨hw, hq⟩ | ⟨hw, hs⟩
          · rw [hw]; simp only [if_true]
            have hx : execOp a.eval o = execOp (eev e) o := by rw [aeval_eq]; exact exec_same (fun cs b => c.sel i o cs b ho) hlk
            refine .inl ?_
            by_cases hqt : isQuiet P o.op = true
            · obtain ⟨v, hv', hk⟩ := vcOpV_quiet hqt hq
              rw [if_pos hqt] at hk
              unfold Oper.wp; rw [hx, hv' w r.heap]
              have e0 : a.put o.dst v = ({ a with defers := ds } : Act).put o.dst v := by rw [← r.defers]
              show wpAny P .any ops Q m (listed.setIfInBounds i true) (a.put o.dst v) w
              rw [e0]
              exact ihm f _ _ _ _ _ _ _ hnd (fun t ht => (keep_put ho ht).trans (hkp t ht)) hu' (r.push c ho hp hl hd r.heap r.sm (.inl rfl)) hk
            · rw [if_neg hqt] at hq
              have hq2 : vcOpV P o e ds h fun v ds' h' => (noDefer ops = true → ds' = ds) ∧ oblP P ops e h' (oblL ops am done i) (vcD P N ops am K f (done ||| 2 ^ i) (eput N e o.dst v) ds' h') := by
                by_cases hn : noDefer ops = true
                · have hnd' : ∀ c, o.op ≠ .defer c := fun c hc => by
                    have := Array.all_eq_true_iff_forall_mem.1 hn o (Array.mem_of_getElem? ho)
                    simp [hc] at this
                  simpa only [hn, true_implies] using vcOpV_same hnd' hq
                · simpa [hn] using hq
              rw [← r.defers, ← r.heap] at hq2
              refine Oper.wp_mono ?_ (vcOpV_sound (Q := Q) r.sm hx hq2)
              rintro a' w' ⟨v, ds', rfl, ⟨hds, hk⟩, hsm⟩
              obtain ⟨hk, hobl⟩ := oblP_elim hk
              refine ihm f _ _ _ _ _ _ _ (fun hn => (hds hn).trans (r.defers.trans (hnd hn))) (fun t ht => (keep_put (a := { a with defers := ds' }) ho ht).trans (hkp t ht)) hu' (r.push c ho hp hl hd rfl hsm (.inr fun j q hq hj hlj hld => ?_)) hk
              have hjm : j ∈ oblL ops am done i := by
                unfold oblL
                rw [List.mem_filter]
                refine ⟨List.mem_range.2 (lt_of_ops hq), ?_⟩
                rw [hj, hq]
                simp only [Bool.true_and, hld, Bool.and_true, Bool.not_eq_true']
                cases hb : (am.getD i 0).testBit j with
                | false => rfl
                | true =>
                  have := anc_listed r.downL (ha i j hb) ho hp r.size
                  rw [this] at hlj; cases hlj
              obtain ⟨q', d, hq', hdq, hst⟩ := hobl j hjm
              rw [hq] at hq'; cases hq'
              exact ⟨d, hdq, hst⟩
          · rw [hw]; simp only [Bool.false_eq_true, if_false]
            have e0 : a.put o.dst undef = ({ a with defers := ds } : Act).put o.dst undef := by rw [← r.defers]
            rw [e0]
            exact ihm f _ _ _ _ _ _ _ hnd (fun t ht => (keep_put ho ht).trans (hkp t ht)) hu' (r.push c ho hp hl hd r.heap r.sm (.inl rfl)) hs
end main
/-- A region whose order is drawn. -/
def vcDraw [Gh] (P : Program) (N : Nat) (ops : Array Oper) (K : Env → List Deferred → Heap → Prop) (e : Env) (ds : List Deferred) (h : Heap) : Prop :=
  if chkD P ops = true then vcD P N ops (amasks ops.toList []) K (ops.size + 1) 0 e ds h else False
theorem EWP.draw [Gh] {Q : EPost} {e : Env} {ds : List Deferred} {h : Heap} {id : Nat} (hm : P.follows .mixedOrders = true) (hh : vcDraw P N ops (fun e ds h => Q .normal e ds h) e ds h) :
    EWP P N (.region id ops true) Q e ds h := by
  rintro a w hN rfl rfl rfl
  unfold vcDraw at hh
  split at hh
  case isFalse => exact hh.elim
  rename_i hc
  refine wp_region_any hm ?_
  refine vcD_sound (chk_of hc) (amasks_anc ops.toList [] (fun k hk => by simp) (fun j i hb => by simp at hb)) (ds0 := a.defers) (e0 := aenv a) (fun a' w' _ _ hk => hk) _ _ _ 0 (aenv a) a.defers w.heap a _ (fun _ => rfl) (fun _ _ => rfl) ?_ ?_ hh
  · unfold unl; exact Nat.le_trans (List.length_filter_le _ _) (by simp)
  · have lf : ∀ j, (Array.replicate ops.size false).getD j false = false := fun j => by
      simp only [Array.getD_eq_getD_getElem?, Array.getElem?_replicate]
      split <;> rfl
    exact { size := by simp, tmps := hN.1, sm := hN.2, defers := rfl, heap := rfl, sub := fun j hj => (by rw [lf] at hj; cases hj), down := fun j o ho hj => (by simp at hj),
            downL := fun j o ho hj => (by rw [lf] at hj; cases hj), pend := fun j o ho hj => (by simp at hj), env := fun t _ => rfl, hi := fun t ht => aenv_hi (by rw [hN.1]; exact ht) }
theorem EWP.drawN [Gh] {Q : EPost} {e : Env} {ds : List Deferred} {h : Heap} {id : Nat} (K : Env → Heap → Prop) (hn : noDefer ops = true) (hm : P.follows .mixedOrders = true) (hh : vcDraw P N ops (fun e _ h => K e h) e ds h)
    (hk : ∀ e' h, (∀ t, keepB ops t = true → e' t = e t) → K e' h → Q .normal e' ds h) : EWP P N (.region id ops true) Q e ds h := by
  rintro a w hN rfl rfl rfl
  unfold vcDraw at hh
  split at hh
  case isFalse => exact hh.elim
  rename_i hc
  refine wp_region_any hm ?_
  refine vcD_sound (chk_of hc) (amasks_anc ops.toList [] (fun k hk => by simp) (fun j i hb => by simp at hb)) (ds0 := a.defers) (e0 := aenv a) (fun a' w' hd hkp hk' => ⟨hk'.1, by rw [hd hn]; exact hk _ _ hkp hk'.2⟩) _ _ _ 0 (aenv a) a.defers w.heap a _ (fun _ => rfl) (fun _ _ => rfl) ?_ ?_ hh
  · unfold unl; exact Nat.le_trans (List.length_filter_le _ _) (by simp)
  · have lf : ∀ j, (Array.replicate ops.size false).getD j false = false := fun j => by
      simp only [Array.getD_eq_getD_getElem?, Array.getElem?_replicate]
      split <;> rfl
    exact { size := by simp, tmps := hN.1, sm := hN.2, defers := rfl, heap := rfl, sub := fun j hj => (by rw [lf] at hj; cases hj), down := fun j o ho hj => (by simp at hj),
            downL := fun j o ho hj => (by rw [lf] at hj; cases hj), pend := fun j o ho hj => (by simp at hj), env := fun t _ => rfl, hi := fun t ht => aenv_hi (by rw [hN.1]; exact ht) }
theorem EWP.seqD [Gh] {Q : EPost} {e : Env} {ds : List Deferred} {h : Heap} {id : Nat} {y : Code} (K : Env → Heap → Prop) (hn : noDefer ops = true) (hm : P.follows .mixedOrders = true)
    (h1 : vcDraw P N ops (fun e _ h => K e h) e ds h) (h2 : ∀ e' h, (∀ t, keepB ops t = true → e' t = e t) → K e' h → EWP P N y Q e' ds h) : EWP P N (.seq (.region id ops true) y) Q e ds h :=
  EWP.seq1 (EWP.drawN K hn hm h1 fun e h hp hk => h2 e h hp hk)
end
end Go.Proofs.Ytjelnknmjhceiaa
