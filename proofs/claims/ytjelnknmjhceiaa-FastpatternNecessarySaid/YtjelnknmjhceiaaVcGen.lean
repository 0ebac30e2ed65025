/-
  The words that the printed conditions are made of, and the steps of the printed proofs.
-/
import Derived.ScopeJumps
import Derived.Test.YtjelnknmjhceiaaVcFn
namespace Go.Proofs.Ytjelnknmjhceiaa
set_option linter.unusedSimpArgs false
set_option linter.unusedVariables false
set_option maxRecDepth 20000
open Go
theorem eqMp {a b : Prop} (h : a = b) (hb : b) : a := h ▸ hb
def ldI (h : Heap) (a : Addr) (k : IntKind) (K : Int → Prop) : Prop := ∃ n : Int, hcell h a = some (.int k n) ∧ K n
def ldB (h : Heap) (a : Addr) (K : Bool → Prop) : Prop := ∃ b : Bool, hcell h a = some (.bool b) ∧ K b
def ldS (h : Heap) (a : Addr) (K : ByteArray → Prop) : Prop := ∃ s : ByteArray, hcell h a = some (.string s) ∧ K s
def ldP (h : Heap) (a : Addr) (K : Option Addr → Prop) : Prop := ∃ p : Option Addr, hcell h a = some (.pointer p) ∧ K p
def ldL (h : Heap) (a : Addr) (K : Option Addr → Nat → Nat → Prop) : Prop := ∃ (p : Option Addr) (n c : Nat), hcell h a = some (.slice p n c) ∧ K p n c
def ldM (h : Heap) (a : Addr) (K : Option Nat → Prop) : Prop := ∃ r : Option Nat, hcell h a = some (.map r) ∧ K r
def ldV (h : Heap) (a : Addr) (K : Value → Prop) : Prop := ∃ v : Value, hcell h a = some v ∧ K v
def alV (h : Heap) (o : Obj) (K : Addr → Heap → Prop) : Prop := K ⟨h.size, 0, none⟩ (h.push o)
def mkMapV (h : Heap) (K : Nat → Heap → Prop) : Prop := K h.size (h.push (.map #[] 0))
def bltV (P : Program) (b : Builtin) (argTypes : Array TypeId) (ty : TypeId) (consts : Array Bool) (args : Array Value) (h : Heap) (K : Value → Heap → Prop) : Prop :=
  wpH P (builtin b argTypes ty consts args) (nxK K) h
def convV (P : Program) (s d : TypeId) (x : Value) (h : Heap) (K : Value → Heap → Prop) : Prop := wpH P (convert s d x) K h
def mkSlV (P : Program) (t : TypeId) (l c : Value) (h : Heap) (K : Value → Heap → Prop) : Prop := wpH P (Instr.makeSlice t l c) K h
/-- A type's assertion. -/
def taV (P : Program) (x : Value) (xt t : TypeId) (ok : Bool) (h : Heap) (K : Value → Heap → Prop) : Prop := wpH P (Instr.typeAssert x xt t ok) K h
def lookV (P : Program) (t : TypeId) (m k : Value) (ok : Bool) (h : Heap) (K : Value → Heap → Prop) : Prop := wpH P (Instr.lookup t m k ok) K h
def mapUpdV (P : Program) (t : TypeId) (m k v : Value) (h : Heap) (K : Heap → Prop) : Prop := wpH P (Instr.mapUpdate t m k v) (fun _ h' => K h') h
def rangeV (P : Program) (t : TypeId) (x : Value) (h : Heap) (K : Value → Heap → Prop) : Prop := wpH P (Instr.range t x) K h
def nextV (P : Program) (it : Value) (s : Bool) (ty : TypeId) (h : Heap) (K : Value → Heap → Prop) : Prop := wpH P (Instr.next it s ty) K h
def entryV (P : Program) (it : Value) (h : Heap) (K : Value → Heap → Prop) : Prop := wpH P (Instr.entry it) K h
def mapEntryV (P : Program) (t : TypeId) (m k : Value) (h : Heap) (K : Value → Heap → Prop) : Prop := wpH P (Instr.mapEntry t m k) K h
def entryStV (P : Program) (t : TypeId) (m s v : Value) (h : Heap) (K : Heap → Prop) : Prop := wpH P (Instr.entryStore t m s v) (fun _ h' => K h') h

theorem dI_intro {k : IntKind} {v : Value} {n : Int} {K : Int → Prop} (e : v = .int k n) (h : K n) : dI k v K := by subst e; simp only [dI, if_true]; exact h
theorem dB_intro {v : Value} {b : Bool} {K : Bool → Prop} (e : v = .bool b) (h : K b) : dB v K := by subst e; exact h
theorem dS_intro {v : Value} {b : ByteArray} {K : ByteArray → Prop} (e : v = .string b) (h : K b) : dS v K := by subst e; exact h
theorem dP_intro {v : Value} {b : Option Addr} {K : Option Addr → Prop} (e : v = .pointer b) (h : K b) : dP v K := by subst e; exact h
theorem deq {v u : Value} {K : Prop} (_ : v = u) (h : K) : K := h
theorem dA_intro {v : Value} {b : Addr} {K : Addr → Prop} (e : v = .pointer (some b)) (h : K b) : dA v K := by subst e; exact h
theorem dL_intro {v : Value} {a : Option Addr} {n c : Nat} {K : Option Addr → Nat → Nat → Prop} (e : v = .slice a n c) (h : K a n c) : dL v K := by subst e; exact h
theorem dM_intro {v : Value} {b : Option Nat} {K : Option Nat → Prop} (e : v = .map b) (h : K b) : dM v K := by subst e; exact h
/-- A loop. -/
def LoopV {σ : Type} (body : σ → Heap → (σ → Heap → Prop) → Prop) (s : σ) (h : Heap) : Prop :=
  ∃ (J : σ → Heap → Prop) (μ : σ → Heap → Nat), J s h ∧ ∀ s h, J s h → body s h fun s' h' => J s' h' ∧ μ s' h' < μ s h
theorem LoopV.mk {σ : Type} {body : σ → Heap → (σ → Heap → Prop) → Prop} {s : σ} {h : Heap} (J : σ → Heap → Prop) (μ : σ → Heap → Nat) (h0 : J s h)
    (hr : ∀ s h, J s h → body s h fun s' h' => J s' h' ∧ μ s' h' < μ s h) : LoopV body s h := ⟨J, μ, h0, hr⟩

def noDefer (ops : Array Oper) : Bool := ops.all fun o => match o.op with | .defer _ => false | _ => true
section
variable {P : Program} {N : Nat} {Q : EPost} {e : Env} {ds : List Deferred} {h : Heap}
theorem vcOpV_same [Gh] {o : Oper} {K : Value → List Deferred → Heap → Prop} (hn : ∀ c, o.op ≠ .defer c) : vcOpV P o e ds h K → vcOpV P o e ds h fun v ds' h' => ds' = ds ∧ K v ds' h' := by
  unfold vcOpV
  split
  · rename_i c hc; exact absurd hc (hn c)
  · simp
/-- No operation writes the slot. -/
def keepB (ops : Array Oper) (t : Nat) : Bool := ops.all fun o => o.dst != some t
theorem keep_put {ops : Array Oper} {o : Oper} {i : Nat} (ho : ops[i]? = some o) {a : Act} {v : Value} {t : Nat} (hk : keepB ops t = true) : aenv (a.put o.dst v) t = aenv a t := by
  have := Array.all_eq_true_iff_forall_mem.1 hk o (Array.mem_of_getElem? ho)
  have hne : o.dst ≠ some t := by simpa using this
  rw [aenv_put]
  cases hd : o.dst with
  | none => rfl
  | some d =>
    simp only [eput]; split
    · unfold upd; rw [if_neg]; intro h; apply hne; rw [hd, h]
    · rfl
variable [Gh]
theorem vcOps_soundN {ops : Array Oper} {K : Env → Heap → Prop} {Q : Exit → Act → World → Prop} {e0 : Env} (hn : noDefer ops = true) (hQ : ∀ a w, Sz N a w → a.defers = ds → (∀ t, keepB ops t = true → aenv a t = e0 t) → K (aenv a) w.heap → Q .normal a w) :
    ∀ (is : List Nat) (a : Act) (w : World), Sz N a w → a.defers = ds → (∀ t, keepB ops t = true → aenv a t = e0 t) → vcOps P N ops (fun e _ h => K e h) is (aenv a) ds w.heap → wpOps P ops Q is a w
  | [], a, w, hN, hd, hkp, hh => hQ a w hN hd hkp hh
  | i :: is, a, w, hN, hd, hkp, hh => by
    unfold vcOps at hh
    rw [wpOps_cons]; unfold wpOp
    split at hh
    case h_1 => exact hh.elim
    rename_i o ho
    rw [ho]
    simp only
    have hnd : ∀ c, o.op ≠ .defer c := fun c hc => by
      have := Array.all_eq_true_iff_forall_mem.1 hn o (Array.mem_of_getElem? ho)
      simp [hc] at this
    rcases vcG_sound hh with ⟨hw, hr⟩ | ⟨hw, hr⟩
    · rw [hw]
      simp only [if_true]
      have hr2 := vcOpV_same hnd hr
      rw [← hd] at hr2
      refine .inl (Oper.wp_mono ?_ (vcOpV_sound (Q := Q) hN.2 (by rw [aeval_eq]) hr2))
      rintro a' w' ⟨v, ds', rfl, ⟨hds, hk⟩, hs⟩
      refine vcOps_soundN hn hQ is _ w' ⟨by rw [size_put]; exact hN.1, hs⟩ (by rw [defers_put]; exact hds.trans hd) (fun t ht => (keep_put ho ht).trans (hkp t ht)) ?_
      rw [aenv_put]; simp only; rw [hN.1]; rw [hds, hd] at hk; exact hk
    · rw [hw]
      simp only [Bool.false_eq_true, if_false]
      refine vcOps_soundN hn hQ is _ w ⟨by rw [size_put, hN.1], hN.2⟩ (by rw [defers_put]; exact hd) (fun t ht => (keep_put ho ht).trans (hkp t ht)) ?_
      rw [aenv_put, hN.1]; exact hr
theorem EWP.regionN {id : Nat} {ops : Array Oper} (K : Env → Heap → Prop) (hn : noDefer ops = true) (h1 : vcOps P N ops (fun e _ h => K e h) (List.range ops.size) e ds h)
    (h2 : ∀ e' h, (∀ t, keepB ops t = true → e' t = e t) → K e' h → Q .normal e' ds h) : EWP P N (.region id ops false) Q e ds h := by
  rintro a w hN rfl rfl rfl
  refine wp_region (vcOps_soundN hn (fun a' w' hN' hd' hkp hk => ⟨hN', ?_⟩) _ a w hN rfl (fun _ _ => rfl) h1)
  rw [hd']; exact h2 _ _ hkp hk
theorem EWP.seqR {id : Nat} {ops : Array Oper} {y : Code} (K : Env → Heap → Prop) (hn : noDefer ops = true) (h1 : vcOps P N ops (fun e _ h => K e h) (List.range ops.size) e ds h)
    (h2 : ∀ e' h, (∀ t, keepB ops t = true → e' t = e t) → K e' h → EWP P N y Q e' ds h) : EWP P N (.seq (.region id ops false) y) Q e ds h :=
  EWP.seq1 (EWP.regionN K hn h1 fun e h hp hk => h2 e h hp hk)
theorem EWP.seqC {x y : Code} (K : Env → Heap → Prop) (hx : EWP P N x (seqQ (fun e' ds' h' => ds' = ds ∧ K e' h') Q) e ds h) (hy : ∀ e h, K e h → EWP P N y Q e ds h) :
    EWP P N (.seq x y) Q e ds h :=
  EWP.seq _ hx fun e' ds' h' hk => by obtain ⟨rfl, hk⟩ := hk; exact hy _ _ hk
theorem EWP.condI {c : Operand} {x y : Code} {t : Bool} {X Y : Prop} (hc : eev e c = .bool t) (hh : if t = true then X else Y) (hx : X → EWP P N x Q e ds h) (hy : Y → EWP P N y Q e ds h) :
    EWP P N (.cond c x y) Q e ds h := by
  refine EWP.cond hc (fun ht => hx ?_) (fun ht => hy ?_)
  · rw [if_pos ht] at hh; exact hh
  · rw [if_neg (by simp [ht])] at hh; exact hh
theorem EWP.loopV {σ : Type} {c : Code} (R : Env → σ → Prop) {body : σ → Heap → (σ → Heap → Prop) → Prop} {s : σ} (hR : R e s) (hl : LoopV body s h)
    (round : ∀ e s h (Kn : σ → Heap → Prop), R e s → body s h Kn → EWP P N c (seqQ (fun e' ds' h' => ds' = ds ∧ ∃ s', R e' s' ∧ Kn s' h') Q) e ds h) :
    EWP P N (.loop c) Q e ds h := by
  obtain ⟨J, μ, h0, hr⟩ := hl
  refine EWP.loop (fun e' ds' s' => ds' = ds ∧ R e' s') J μ s ⟨rfl, hR⟩ h0 ?_
  rintro e ds s h ⟨rfl, hR⟩ hJ
  refine EWP.mono (round e s h _ hR (hr s h hJ)) ?_
  intro x e' ds' h' hx
  cases x with
  | normal => obtain ⟨rfl, s', hR', hJ', hlt⟩ := hx; exact ⟨s', ⟨rfl, hR'⟩, hJ', hlt⟩
  | _ => exact hx
def jumpQ (l : Nat) (K : Env → List Deferred → Heap → Prop) (Q : EPost) : EPost
  | .goto l', e, ds, h => l' = l ∧ K e ds h
  | x, e, ds, h => Q x e ds h
theorem jump_of {l : Nat} {K : Env → List Deferred → Heap → Prop} {x : Exit} {a : Act} {w : World} (h : liftE N (jumpQ l K Q) x a w) :
    Exit.jump l (fun a w => Sz N a w ∧ K (aenv a) a.defers w.heap) (liftE N Q) x a w := by
  obtain ⟨hN, hq⟩ := h
  cases x with
  | goto l' => exact ⟨hq.1, hN, hq.2⟩
  | _ => exact ⟨hN, hq⟩
theorem EWP.seqSkip {B : Code} (hh : EWP P N B Q e ds h) : EWP P N (.seq .skip B) Q e ds h :=
  EWP.seq1 (EWP.skip hh)
theorem EWP.seqLabel {B : Code} {l : Nat} (hh : EWP P N B Q e ds h) : EWP P N (.seq (.label l) B) Q e ds h :=
  EWP.seq1 (EWP.label hh)
/-- A scope in which the run comes to one label, by falling or by jumps. -/
theorem EWP.scopeV {σ : Type} {c B : Code} {l : Nat} (R : Env → σ → Prop) {body : σ → Heap → (σ → Heap → Prop) → Prop} (hf : findLabel c l = some (.seq .skip B))
    (round : ∀ e s h (Kn : σ → Heap → Prop), R e s → body s h Kn → EWP P N B (jumpQ l (fun e' ds' h' => ds' = ds ∧ ∃ s', R e' s' ∧ Kn s' h') Q) e ds h)
    (first : (∀ e s h, R e s → LoopV body s h → EWP P N (.seq (.label l) B) (jumpQ l (fun e' ds' h' => ds' = ds ∧ ∃ s, R e' s ∧ LoopV body s h') Q) e ds h) →
      EWP P N c (jumpQ l (fun e' ds' h' => ds' = ds ∧ ∃ s, R e' s ∧ LoopV body s h') Q) e ds h) : EWP P N (.scope c) Q e ds h := by
  have fall : ∀ e s h, R e s → LoopV body s h → EWP P N B (jumpQ l (fun e' ds' h' => ds' = ds ∧ ∃ s, R e' s ∧ LoopV body s h') Q) e ds h := by
    rintro e s h hR ⟨J, μ, h0, hr⟩
    refine EWP.mono (round e s h _ hR (hr s h h0)) ?_
    intro x e' ds' h' hx
    cases x with
    | goto l' => obtain ⟨hl, hd, s', hR', hJ', _⟩ := hx; exact ⟨hl, hd, s', hR', J, μ, hJ', hr⟩
    | _ => exact hx
  have hfirst := first fun e s h hR hl => EWP.seqLabel (fall e s h hR hl)
  rintro a w hN rfl hd rfl
  classical
  let G : Act → World → Nat → Prop := fun a w n => ∃ (s : σ) (J : σ → Heap → Prop) (μ : σ → Heap → Nat), R (aenv a) s ∧ J s w.heap ∧ (∀ s h, J s h → body s h fun s' h' => J s' h' ∧ μ s' h' < μ s h) ∧ μ s w.heap = n
  let I : Act → World → Prop := fun a w => Sz N a w ∧ a.defers = ds ∧ ∃ n, G a w n
  let m : Act → World → Nat := fun a w => if hx : ∃ n, G a w n then Classical.choose (least hx) else 0
  refine wp_scope_jumps l I m hf (wp_mono (hfirst a w hN rfl hd rfl) ?_) ?_
  · intro x a' w' hx
    have := jump_of hx
    cases x with
    | goto l' =>
      obtain ⟨hl, hN', hd', s, hR, J, μ, h0, hr⟩ := this
      exact ⟨hl, hN', hd', _, s, J, μ, hR, h0, hr, rfl⟩
    | _ => exact this
  · rintro a w ⟨hN, hd, hx⟩
    have hm : m a w = Classical.choose (least hx) := dif_pos hx
    obtain ⟨s, J, μ, hR, hJ, hr, hμ⟩ := (Classical.choose_spec (least hx)).1
    refine wp_mono (EWP.seqSkip (round (aenv a) s w.heap _ hR (hr s w.heap hJ)) a w hN rfl hd rfl) ?_
    intro x a' w' hx'
    have := jump_of hx'
    cases x with
    | goto l' =>
      obtain ⟨hl, hN', hd', s', hR', hJ', hlt⟩ := this
      have hx2 : ∃ n, G a' w' n := ⟨_, s', J, μ, hR', hJ', hr, rfl⟩
      refine ⟨hl, ⟨hN', hd', hx2⟩, ?_⟩
      have hm' : m a' w' = Classical.choose (least hx2) := dif_pos hx2
      have hle : Classical.choose (least hx2) ≤ μ s' w'.heap := (Classical.choose_spec (least hx2)).2 _ ⟨s', J, μ, hR', hJ', hr, rfl⟩
      omega
    | _ => exact this
end
end Go.Proofs.Ytjelnknmjhceiaa
