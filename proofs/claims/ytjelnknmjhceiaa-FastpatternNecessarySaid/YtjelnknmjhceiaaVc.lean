/-
  A verification condition of a Go function's code, computed by Lean over heaps alone, and the proof that it suffices.
-/
import Derived.Calls
import Derived.Defers
import Derived.Orders
import Derived.KernelRfl
namespace Go.Proofs.Ytjelnknmjhceiaa
set_option linter.unusedSimpArgs false
set_option linter.unusedVariables false
set_option maxRecDepth 20000
open Go

/-! ### Heaps -/
abbrev Heap := Array Obj
def hcell (h : Heap) (a : Addr) : Option Value :=
  match h[a.block]? with
  | some (.cells c _ _) => if a.spot.isSome then none else c[a.off]?
  | _ => none
def hshape (h : Heap) (r : Nat) : Option (TypeId × Nat) :=
  match h[r]? with
  | some (.cells c elem _) => some (elem, c.size)
  | _ => none
def hfrozen (h : Heap) (a : Addr) : Bool :=
  match h[a.block]? with
  | some (.cells _ _ (lo, hi)) => lo ≤ a.off && a.off < hi
  | _ => false
def hfreeze (h : Heap) (a : Addr) (n : Nat) : Heap :=
  if n = 0 then h else
  h.modify a.block fun
      | .cells c elem (lo, hi) => .cells c elem (if lo == hi then (a.off, a.off + n) else (min lo a.off, max hi (a.off + n)))
      | o => o
def hset (h : Heap) (a : Addr) (v : Value) : Heap :=
  h.modify a.block fun
      | .cells c elem frozen => .cells (if a.spot.isSome then c else c.setIfInBounds a.off v) elem frozen
      | o => o
def cellV : Value → Bool
  | .agg _ | .tuple _ => false
  | _ => true
def notRow : Obj → Bool
  | .cells .. => false
  | _ => true

/-- What a computation of the model does to heaps, whatever the tape answers. -/
def wpH (P : Program) {α : Type} : Sem α → (α → Heap → Prop) → Heap → Prop
  | .pure a, K, h => K a h
  | .load _ a k, K, h => ∃ v, hcell h a = some v ∧ wpH P (k v) K h
  | .store _ a v k, K, h => cellV v = true ∧ (hcell h a).isSome = true ∧ hfrozen h a = false ∧ wpH P k K (hset h a v)
  | .new o k, K, h => wpH P (k h.size) K (h.push o)
  | .shape r k, K, h => wpH P (k (hshape h r)) K h
  | .freeze a n k, K, h => wpH P k K (hfreeze h a n)
  | .frozen a k, K, h => wpH P (k (hfrozen h a)) K h
  | .getObj r k, K, h => ∃ o, h[r]? = some o ∧ notRow o = true ∧ wpH P (k o) K h
  | .setObj r o k, K, h => (∃ o', h[r]? = some o' ∧ notRow o' = true) ∧ wpH P k K (h.setIfInBounds r o)
  | .choose q k, K, h => (∀ t, wpH P (k (q.cut t)) K h) ∧ (q.forced = true → wpH P (k 0) K h)
  | .program k, K, h => wpH P (k P) K h
  | .mark _ k, K, h => wpH P k K h
  | .sys _ _, _, _ => False
  | .halt _, _, _ => False

/-- The world from which all is told: what no program here turns is told of it. -/
class Gh where
  w0 : World
def Sm [Gh] (w : World) : Prop := w.os = Gh.w0.os ∧ w.tape = Gh.w0.tape ∧ w.output = Gh.w0.output
def Sz [Gh] (N : Nat) (a : Act) (w : World) : Prop := a.tmps.size = N ∧ Sm w
theorem wpH_run {P : Program} {α : Type} (s : Sem α) : ∀ (K : α → Heap → Prop) (w : World), wpH P s K w.heap →
    ∃ a w', s.run P w = .ok a w' ∧ K a w'.heap ∧ w'.os = w.os ∧ w'.tape = w.tape ∧ w'.output = w.output := by
  induction s with
  | pure a => intro K w h; exact ⟨a, w, rfl, h, rfl, rfl, rfl⟩
  | load m a k ih =>
    intro K w h
    obtain ⟨v, hv, h⟩ := h
    have hv' : w.cell? a = some v := hv
    obtain ⟨x, w', hr, hk⟩ := ih v K w h
    exact ⟨x, w', by simp only [Sem.run, hv']; exact hr, hk⟩
  | store m a v k ih =>
    intro K w h
    obtain ⟨hc, hs, hf, h⟩ := h
    have hs' : (w.cell? a).isSome = true := hs
    have hf' : w.frozen? a = false := hf
    obtain ⟨x, w', hr, hk⟩ := ih K (w.setCell a v) h
    obtain ⟨o, ho⟩ := Option.isSome_iff_exists.1 hs'
    refine ⟨x, w', ?_, hk⟩
    cases v <;> first | (simp [cellV] at hc; done) | (simp only [Sem.run, ho, hf']; exact hr)
  | new o k ih => intro K w h; exact ih _ K { w with heap := w.heap.push o } h
  | shape r k ih => intro K w h; exact ih _ K w h
  | freeze a n k ih =>
    intro K w h
    have e : (w.freeze a n).heap = hfreeze w.heap a n := by unfold World.freeze hfreeze; split <;> rfl
    have e2 : (w.freeze a n).os = w.os ∧ (w.freeze a n).tape = w.tape ∧ (w.freeze a n).output = w.output := by unfold World.freeze; split <;> exact ⟨rfl, rfl, rfl⟩
    obtain ⟨x, w', hr, hk, g1, g2, g3⟩ := ih K (w.freeze a n) (e ▸ h)
    exact ⟨x, w', hr, hk, g1.trans e2.1, g2.trans e2.2.1, g3.trans e2.2.2⟩
  | frozen a k ih => intro K w h; exact ih _ K w h
  | getObj r k ih =>
    intro K w h
    obtain ⟨o, ho, hn, h⟩ := h
    obtain ⟨x, w', hr, hk⟩ := ih o K w h
    refine ⟨x, w', ?_, hk⟩
    cases o <;> first | (simp [notRow] at hn; done) | (simp only [Sem.run, ho]; exact hr)
  | setObj r o k ih =>
    intro K w h
    obtain ⟨⟨o', ho, hn⟩, h⟩ := h
    obtain ⟨x, w', hr, hk⟩ := ih K { w with heap := w.heap.setIfInBounds r o } h
    refine ⟨x, w', ?_, hk⟩
    cases o' <;> first | (simp [notRow] at hn; done) | (simp only [Sem.run, ho]; exact hr)
  | choose q k ih =>
    intro K w h
    by_cases hq : q.forced = true
    · obtain ⟨x, w', hr, hk⟩ := ih 0 K w (h.2 hq)
      exact ⟨x, w', by simp only [Sem.run, hq, if_true]; exact hr, hk⟩
    · obtain ⟨x, w', hr, hk⟩ := ih _ K { w with drawn := w.drawn + 1 } (h.1 (w.tape w.drawn q))
      exact ⟨x, w', by simp only [Sem.run, hq]; exact hr, hk⟩
  | sys c k ih => intro K w h; exact h.elim
  | program k ih => intro K w h; exact ih _ K w h
  | mark m k ih => intro K w h; exact ih K w h
  | halt x => intro K w h; exact h.elim

theorem wpH_bind {P : Program} {α β : Type} (s : Sem α) (f : α → Sem β) : ∀ (K : β → Heap → Prop) (h : Heap),
    wpH P (s.bind f) K h ↔ wpH P s (fun a h' => wpH P (f a) K h') h := by
  induction s with
  | pure a => intro K h; exact Iff.rfl
  | load m a k ih => intro K h; simp only [Sem.bind, wpH, ih]
  | store m a v k ih => intro K h; simp only [Sem.bind, wpH, ih]
  | new o k ih => intro K h; simp only [Sem.bind, wpH, ih]
  | shape r k ih => intro K h; simp only [Sem.bind, wpH, ih]
  | freeze a n k ih => intro K h; simp only [Sem.bind, wpH, ih]
  | frozen a k ih => intro K h; simp only [Sem.bind, wpH, ih]
  | getObj r k ih => intro K h; simp only [Sem.bind, wpH, ih]
  | setObj r o k ih => intro K h; simp only [Sem.bind, wpH, ih]
  | choose q k ih => intro K h; simp only [Sem.bind, wpH, ih]
  | sys c k ih => intro K h; simp only [Sem.bind, wpH]
  | program k ih => intro K h; simp only [Sem.bind, wpH, ih]
  | mark m k ih => intro K h; simp only [Sem.bind, wpH, ih]
  | halt x => intro K h; simp only [Sem.bind, wpH]

theorem wpH_mono {P : Program} {α : Type} (s : Sem α) : ∀ {K K' : α → Heap → Prop} {h : Heap}, (∀ a h', K a h' → K' a h') →
    wpH P s K h → wpH P s K' h := by
  induction s with
  | pure a => intro K K' h hk hh; exact hk _ _ hh
  | load m a k ih => rintro K K' h hk ⟨v, hv, hh⟩; exact ⟨v, hv, ih _ hk hh⟩
  | store m a v k ih => rintro K K' h hk ⟨h1, h2, h3, hh⟩; exact ⟨h1, h2, h3, ih hk hh⟩
  | new o k ih => intro K K' h hk hh; exact ih _ hk hh
  | shape r k ih => intro K K' h hk hh; exact ih _ hk hh
  | freeze a n k ih => intro K K' h hk hh; exact ih hk hh
  | frozen a k ih => intro K K' h hk hh; exact ih _ hk hh
  | getObj r k ih => rintro K K' h hk ⟨o, h1, h2, hh⟩; exact ⟨o, h1, h2, ih _ hk hh⟩
  | setObj r o k ih => rintro K K' h hk ⟨h1, hh⟩; exact ⟨h1, ih hk hh⟩
  | choose q k ih => rintro K K' h hk ⟨h1, h2⟩; exact ⟨fun t => ih _ hk (h1 t), fun f => ih _ hk (h2 f)⟩
  | sys c k ih => intro K K' h hk hh; exact hh.elim
  | program k ih => intro K K' h hk hh; exact ih _ hk hh
  | mark m k ih => intro K K' h hk hh; exact ih hk hh
  | halt x => intro K K' h hk hh; exact hh.elim

/-- The value of a computation that asks the program's tables alone. -/
def quietV (P : Program) : Sem Next → Option Value
  | .pure (.value v) => some v
  | .program k => quietV P (k P)
  | _ => none
theorem quietV_run {P : Program} (s : Sem Next) : ∀ {v : Value}, quietV P s = some v → ∀ w, s.run P w = .ok (.value v) w := by
  induction s with
  | pure a =>
    intro v h w
    cases a <;> simp [quietV] at h
    subst h; rfl
  | program k ih => intro v h w; exact ih _ h w
  | _ => intro v h; simp [quietV] at h

/-! ### Kinds of cells -/
inductive SK where
  | int (k : IntKind) | bool | str | ptr | slice | map | any
def skOf (P : Program) (t : TypeId) : SK :=
  match P.underlying t with
  | some (.int k) => .int k
  | some .bool => .bool
  | some .string => .str
  | some (.pointer _) => .ptr
  | some (.slice _) => .slice
  | some (.map _ _) => .map
  | _ => .any
def isAggB (P : Program) (t : TypeId) : Bool :=
  match P.underlying t with
  | some (.struct _) | some (.array _ _) => true
  | _ => false
def kinds (P : Program) : Nat → TypeId → List SK
  | 0, _ => []
  | n + 1, t =>
    match P.underlying t with
    | some (.struct fs) => fs.toList.flatMap fun f => kinds P n f.type
    | some (.array k e) => (List.replicate k (kinds P n e)).flatten
    | _ => [skOf P t]
def sizeB (P : Program) (t : TypeId) : Nat := ((P.info? t).map (·.size)).getD 0
/-- Some value of a kind, its shape laid open. -/
def ex1 : SK → (Value → Prop) → Prop
  | .int k, K => ∃ n : Int, K (.int k n)
  | .bool, K => ∃ b : Bool, K (.bool b)
  | .str, K => ∃ s : ByteArray, K (.string s)
  | .ptr, K => ∃ p : Option Addr, K (.pointer p)
  | .slice, K => ∃ (a : Option Addr) (n c : Nat), K (.slice a n c)
  | .map, K => ∃ r : Option Nat, K (.map r)
  | .any, K => ∃ v : Value, K v
theorem ex1_ex {k : SK} {K : Value → Prop} (h : ex1 k K) : ∃ v, K v := by
  cases k <;> simp only [ex1] at h
  case slice => obtain ⟨a, n, c, h⟩ := h; exact ⟨_, h⟩
  all_goals (obtain ⟨x, h⟩ := h; exact ⟨_, h⟩)
def exN : List SK → (List Value → Prop) → Prop
  | [], K => K []
  | k :: ks, K => ex1 k fun v => exN ks fun vs => K (v :: vs)
theorem exN_ex : ∀ {ks : List SK} {K : List Value → Prop}, exN ks K → ∃ vs, vs.length = ks.length ∧ K vs
  | [], _, h => ⟨[], rfl, h⟩
  | _ :: _, _, h => by
    obtain ⟨v, h⟩ := ex1_ex h
    obtain ⟨vs, hl, h⟩ := exN_ex h
    exact ⟨v :: vs, by simp [hl], h⟩
def ld1 (h : Heap) (a : Addr) (k : SK) (K : Value → Prop) : Prop := ex1 k fun v => hcell h a = some v ∧ K v
def ldN (h : Heap) (a : Addr) : List SK → Nat → (List Value → Prop) → Prop
  | [], _, K => K []
  | k :: ks, i, K => ld1 h (a.add i) k fun v => ldN h a ks (i + 1) fun vs => K (v :: vs)
theorem ldN_ex {h : Heap} {a : Addr} : ∀ {ks : List SK} {i : Nat} {K : List Value → Prop}, ldN h a ks i K →
    ∃ vs : List Value, vs.length = ks.length ∧ (∀ j (hj : j < vs.length), hcell h (a.add (i + j)) = some vs[j]) ∧ K vs
  | [], _, _, hh => ⟨[], rfl, fun j hj => absurd hj (by simp), hh⟩
  | k :: ks, i, K, hh => by
    obtain ⟨v, hv, hh⟩ := ex1_ex hh
    obtain ⟨vs, hl, hc, hh⟩ := ldN_ex hh
    refine ⟨v :: vs, by simp [hl], fun j hj => ?_, hh⟩
    cases j with
    | zero => simpa using hv
    | succ j => have := hc j (by simpa using hj); simpa [Nat.add_assoc, Nat.add_comm 1 j] using this
/-! What a slot holds, at a cut. -/
def dI (k : IntKind) (v : Value) (K : Int → Prop) : Prop :=
  match v with
  | .int k' n => if k' = k then K n else False
  | _ => False
def dB (v : Value) (K : Bool → Prop) : Prop := match v with | .bool b => K b | _ => False
def dS (v : Value) (K : ByteArray → Prop) : Prop := match v with | .string s => K s | _ => False
def dP (v : Value) (K : Option Addr → Prop) : Prop := match v with | .pointer p => K p | _ => False
def dA (v : Value) (K : Addr → Prop) : Prop := match v with | .pointer (some a) => K a | _ => False
def dL (v : Value) (K : Option Addr → Nat → Nat → Prop) : Prop := match v with | .slice a n c => K a n c | _ => False
def dM (v : Value) (K : Option Nat → Prop) : Prop := match v with | .map r => K r | _ => False
def dG (v : Value) (K : List Value → Prop) : Prop := match v with | .agg cs => K cs.toList | _ => False
def dT (v : Value) (K : List Value → Prop) : Prop := match v with | .tuple cs => K cs.toList | _ => False
def dF (f : FuncId) (v : Value) (K : List Value → Prop) : Prop :=
  match v with
  | .func (.func g) first cap => if g = f ∧ first.size = 0 then K cap.toList else False
  | _ => False
def dC (l : List Value) (K : Value → List Value → Prop) : Prop := match l with | v :: vs => K v vs | [] => False
def dE (l : List Value) (K : Prop) : Prop := match l with | [] => K | _ => False
theorem dI_elim {k : IntKind} {v : Value} {K : Int → Prop} (h : dI k v K) : ∃ n, v = .int k n ∧ K n := by
  unfold dI at h; split at h
  · split at h
    · rename_i hk; subst hk; exact ⟨_, rfl, h⟩
    · exact h.elim
  · exact h.elim
theorem dB_elim {v : Value} {K : Bool → Prop} (h : dB v K) : ∃ b, v = .bool b ∧ K b := by
  unfold dB at h; split at h <;> first | exact ⟨_, rfl, h⟩ | exact h.elim
theorem dS_elim {v : Value} {K : ByteArray → Prop} (h : dS v K) : ∃ b, v = .string b ∧ K b := by
  unfold dS at h; split at h <;> first | exact ⟨_, rfl, h⟩ | exact h.elim
theorem dP_elim {v : Value} {K : Option Addr → Prop} (h : dP v K) : ∃ b, v = .pointer b ∧ K b := by
  unfold dP at h; split at h <;> first | exact ⟨_, rfl, h⟩ | exact h.elim
theorem dA_elim {v : Value} {K : Addr → Prop} (h : dA v K) : ∃ b, v = .pointer (some b) ∧ K b := by
  unfold dA at h; split at h <;> first | exact ⟨_, rfl, h⟩ | exact h.elim
theorem dL_elim {v : Value} {K : Option Addr → Nat → Nat → Prop} (h : dL v K) : ∃ a n c, v = .slice a n c ∧ K a n c := by
  unfold dL at h; split at h <;> first | exact ⟨_, _, _, rfl, h⟩ | exact h.elim
theorem dM_elim {v : Value} {K : Option Nat → Prop} (h : dM v K) : ∃ b, v = .map b ∧ K b := by
  unfold dM at h; split at h <;> first | exact ⟨_, rfl, h⟩ | exact h.elim
theorem dG_elim {v : Value} {K : List Value → Prop} (h : dG v K) : ∃ l, v = .agg l.toArray ∧ K l := by
  unfold dG at h; split at h <;> first | exact ⟨_, by simp, h⟩ | exact h.elim
theorem dT_elim {v : Value} {K : List Value → Prop} (h : dT v K) : ∃ l, v = .tuple l.toArray ∧ K l := by
  unfold dT at h; split at h <;> first | exact ⟨_, by simp, h⟩ | exact h.elim
theorem dF_elim {f : FuncId} {v : Value} {K : List Value → Prop} (h : dF f v K) : ∃ l, v = .func (.func f) #[] l.toArray ∧ K l := by
  unfold dF at h; split at h
  · split at h
    · rename_i g first cap hg
      obtain ⟨rfl, hf⟩ := hg
      have : first = #[] := by simpa using hf
      subst this
      exact ⟨_, by simp, h⟩
    · exact h.elim
  · exact h.elim
theorem dC_elim {l : List Value} {K : Value → List Value → Prop} (h : dC l K) : ∃ v vs, l = v :: vs ∧ K v vs := by
  unfold dC at h; split at h <;> first | exact ⟨_, _, rfl, h⟩ | exact h.elim
theorem dE_elim {l : List Value} {K : Prop} (h : dE l K) : l = [] ∧ K := by
  unfold dE at h; split at h <;> first | exact ⟨rfl, h⟩ | exact h.elim

/-- A value of a kind, laid open. -/
def dSk : SK → Value → (Value → Prop) → Prop
  | .int k, v, K => dI k v fun n => K (.int k n)
  | .bool, v, K => dB v fun b => K (.bool b)
  | .str, v, K => dS v fun s => K (.string s)
  | .ptr, v, K => dP v fun p => K (.pointer p)
  | .slice, v, K => dL v fun a n c => K (.slice a n c)
  | .map, v, K => dM v fun r => K (.map r)
  | .any, v, K => K v
def dKs : List SK → List Value → (List Value → Prop) → Prop
  | [], l, K => dE l (K [])
  | k :: ks, l, K => dC l fun v l' => dSk k v fun v' => dKs ks l' fun vs => K (v' :: vs)
def dTy (P : Program) (t : TypeId) (v : Value) (K : Value → Prop) : Prop :=
  if isAggB P t then dG v fun l => dKs (kinds P 20 t) l fun vs => K (.agg vs.toArray) else dSk (skOf P t) v K
theorem dSk_elim : ∀ {k : SK} {v : Value} {K : Value → Prop}, dSk k v K → K v
  | .int k, v, K, h => by obtain ⟨n, q, h2⟩ := dI_elim h; rw [q]; exact h2
  | .bool, v, K, h => by obtain ⟨n, q, h2⟩ := dB_elim h; rw [q]; exact h2
  | .str, v, K, h => by obtain ⟨n, q, h2⟩ := dS_elim h; rw [q]; exact h2
  | .ptr, v, K, h => by obtain ⟨n, q, h2⟩ := dP_elim h; rw [q]; exact h2
  | .slice, v, K, h => by obtain ⟨a, n, c, q, h2⟩ := dL_elim h; rw [q]; exact h2
  | .map, v, K, h => by obtain ⟨n, q, h2⟩ := dM_elim h; rw [q]; exact h2
  | .any, v, K, h => h
theorem dKs_elim : ∀ {ks : List SK} {l : List Value} {K : List Value → Prop}, dKs ks l K → K l
  | [], l, K, h => by obtain ⟨rfl, h⟩ := dE_elim h; exact h
  | k :: ks, l, K, h => by
    obtain ⟨v, l', rfl, h⟩ := dC_elim h
    exact dKs_elim (K := fun vs => K (v :: vs)) (dSk_elim (K := fun v' => dKs ks l' fun vs => K (v' :: vs)) h)
theorem dTy_elim {P : Program} {t : TypeId} {v : Value} {K : Value → Prop} (h : dTy P t v K) : K v := by
  unfold dTy at h
  split at h
  · obtain ⟨l, rfl, h⟩ := dG_elim h; exact dKs_elim h
  · exact dSk_elim h
end Go.Proofs.Ytjelnknmjhceiaa
