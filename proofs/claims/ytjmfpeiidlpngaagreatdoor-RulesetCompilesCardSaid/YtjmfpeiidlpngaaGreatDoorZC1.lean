/-
  Part 1 of 5 of the proofs: the texts of wip/ in one file, without what this claim does not use.
-/
import Derived.Calls
import Derived.Defers
import Derived.Orders
import Derived.KernelRfl
import Derived.ScopeJumps
import Derived.Laws.Strings
import Derived.Below
import Derived.Deep.Slices
import Derived.WalkKit
import Derived.ProofKit
import Derived.OpenShut
import Derived.ShutString
import Derived.ChangeOld
import Derived.Carry
import Derived.SizedLaws
import Derived.Test.YtjmfpeiidlpngaaGreatDoorProg
import Derived.Lib.UnsafeStr
import Derived.Shelf.Sort.Plain
import Derived.Shelf.Slices.In.SortNone
import Derived.Ground.NamesProg
import Derived.Shelf.Lay
import Derived.Laws.Externs
import Derived.Shelf.Strings.SplitCore
import Derived.Shelf.Strings.Search3
import Derived.Shelf.Strings.Count
import Derived.Shelf.Strings.OnBuilder
import Derived.Lib.SplitLaws
import Derived.Lib.CutLaws
import Derived.Lib.IndexBytes
import Derived.Test.YtjmfpeiidlpngaaGreatDoorRows
import Derived.Test.YtjmfpeiidlpngaaGreatDoorTie
import Derived.Test.YtjmfpeiidlpngaaGreatDoorCards
import Derived.Lay
namespace Go.Proofs.YtjmfpeiidlpngaaGreatDoor
set_option linter.unusedSimpArgs false
set_option linter.unusedVariables false
set_option maxRecDepth 20000
open Go
abbrev aA := Array Obj
def hcell (h : aA) (a : Addr) : Option Value :=
 match h[a.block]? with
 | some (.cells c _ _) => if a.spot.isSome then none else c[a.off]?
 | _ => none
def AF (h : aA) (r : Nat) : Option (TypeId × Nat) :=
 match h[r]? with
 | some (.cells c elem _) => some (elem, c.size)
 | _ => none
def pB (h : aA) (a : Addr) : Bool :=
 match h[a.block]? with
 | some (.cells _ _ (lo, hi)) => lo ≤ a.off && a.off < hi
 | _ => false
def pw (h : aA) (a : Addr) (n : Nat) : aA :=
 if n = 0 then h else
 h.modify a.block fun
   | .cells c elem (lo, hi) => .cells c elem (if lo == hi then (a.off, a.off + n) else (min lo a.off, max hi (a.off + n)))
   | o => o
def Fu (h : aA) (a : Addr) (v : Value) : aA :=
 h.modify a.block fun
   | .cells c elem frozen => .cells (if a.spot.isSome then c else c.setIfInBounds a.off v) elem frozen
   | o => o
def ee : Value → Bool
 | .agg _ | .tuple _ => false
 | _ => true
def wW : Obj → Bool
 | .cells .. => false
 | _ => true
def wpH (P : Program) {α : Type} : Sem α → (α → aA → Prop) → aA → Prop
 | .pure a, K, h => K a h
 | .load _ a k, K, h => ∃ v, hcell h a = some v ∧ wpH P (k v) K h
 | .store _ a v k, K, h => ee v = true ∧ (hcell h a).isSome = true ∧ pB h a = false ∧ wpH P k K (Fu h a v)
 | .new o k, K, h => wpH P (k h.size) K (h.push o)
 | .shape r k, K, h => wpH P (k (AF h r)) K h
 | .freeze a n k, K, h => wpH P k K (pw h a n)
 | .frozen a k, K, h => wpH P (k (pB h a)) K h
 | .getObj r k, K, h => ∃ o, h[r]? = some o ∧ wW o = true ∧ wpH P (k o) K h
 | .setObj r o k, K, h => (∃ o', h[r]? = some o' ∧ wW o' = true) ∧ wpH P k K (h.setIfInBounds r o)
 | .choose q k, K, h => (∀ t, wpH P (k (q.cut t)) K h) ∧ (q.forced = true → wpH P (k 0) K h)
 | .program k, K, h => wpH P (k P) K h
 | .mark _ k, K, h => wpH P k K h
 | .sys _ _, _, _ => False
 | .halt _, _, _ => False
class Gh where
 w0 : World
def Sm [Gh] (w : World) : Prop := w.os = Gh.w0.os ∧ w.tape = Gh.w0.tape ∧ w.output = Gh.w0.output
def Sz [Gh] (N : Nat) (a : Act) (w : World) : Prop := a.tmps.size = N ∧ Sm w
theorem H1 {P : Program} {α : Type} (s : Sem α) : ∀ (K : α → aA → Prop) (w : World), wpH P s K w.heap →
  ∃ a w', s.run P w = .ok a w' ∧ K a w'.heap ∧ w'.os = w.os ∧ w'.tape = w.tape ∧ w'.output = w.output := by
 induction s with
 | pure a => intro K w h; exact ⟨a, w, rfl, h, rfl, rfl, rfl⟩
 | load m a k ih =>
  intro K w h
  obtain ⟨v, hv, h⟩ := h
  have hv' : w.cell? a = some v := hv
  obtain ⟨x, w', hr, hk⟩ := ih v K w h
  exact ⟨x, w', by simp only [Sem.run, hv']; exact hr, hk⟩
 | store m a v k ih =>
  intro K w h
  obtain ⟨hc, hs, hf, h⟩ := h
  have hs' : (w.cell? a).isSome = true := hs
  have hf' : w.frozen? a = false := hf
  obtain ⟨x, w', hr, hk⟩ := ih K (w.setCell a v) h
  obtain ⟨o, ho⟩ := Option.isSome_iff_exists.1 hs'
  refine ⟨x, w', ?_, hk⟩
  cases v <;> first | (simp [ee] at hc; done) | (simp only [Sem.run, ho, hf']; exact hr)
 | new o k ih => intro K w h; exact ih _ K { w with heap := w.heap.push o } h
 | shape r k ih => intro K w h; exact ih _ K w h
 | freeze a n k ih =>
  intro K w h
  have e : (w.freeze a n).heap = pw w.heap a n := by unfold World.freeze pw; split <;> rfl
  have e2 : (w.freeze a n).os = w.os ∧ (w.freeze a n).tape = w.tape ∧ (w.freeze a n).output = w.output := by unfold World.freeze; split <;> exact ⟨rfl, rfl, rfl⟩
  obtain ⟨x, w', hr, hk, g1, g2, g3⟩ := ih K (w.freeze a n) (e ▸ h)
  exact ⟨x, w', hr, hk, g1.trans e2.1, g2.trans e2.2.1, g3.trans e2.2.2⟩
 | frozen a k ih => intro K w h; exact ih _ K w h
 | getObj r k ih =>
  intro K w h
  obtain ⟨o, ho, hn, h⟩ := h
  obtain ⟨x, w', hr, hk⟩ := ih o K w h
  refine ⟨x, w', ?_, hk⟩
  cases o <;> first | (simp [wW] at hn; done) | (simp only [Sem.run, ho]; exact hr)
 | setObj r o k ih =>
  intro K w h
  obtain ⟨⟨o', ho, hn⟩, h⟩ := h
  obtain ⟨x, w', hr, hk⟩ := ih K { w with heap := w.heap.setIfInBounds r o } h
  refine ⟨x, w', ?_, hk⟩
  cases o' <;> first | (simp [wW] at hn; done) | (simp only [Sem.run, ho]; exact hr)
 | choose q k ih =>
  intro K w h
  by_cases hq : q.forced = true
  ·obtain ⟨x, w', hr, hk⟩ := ih 0 K w (h.2 hq)
   exact ⟨x, w', by simp only [Sem.run, hq, if_true]; exact hr, hk⟩
  ·obtain ⟨x, w', hr, hk⟩ := ih _ K { w with drawn := w.drawn + 1 } (h.1 (w.tape w.drawn q))
   exact ⟨x, w', by simp only [Sem.run, hq]; exact hr, hk⟩
 | sys c k ih => intro K w h; exact h.elim
 | program k ih => intro K w h; exact ih _ K w h
 | mark m k ih => intro K w h; exact ih K w h
 | halt x => intro K w h; exact h.elim
theorem aO {P : Program} {α β : Type} (s : Sem α) (f : α → Sem β) : ∀ (K : β → aA → Prop) (h : aA),
  wpH P (s.bind f) K h ↔ wpH P s (fun a h' => wpH P (f a) K h') h := by
 induction s with
 | pure a => intro K h; exact Iff.rfl
 | load m a k ih => intro K h; simp only [Sem.bind, wpH, ih]
 | store m a v k ih => intro K h; simp only [Sem.bind, wpH, ih]
 | new o k ih => intro K h; simp only [Sem.bind, wpH, ih]
 | shape r k ih => intro K h; simp only [Sem.bind, wpH, ih]
 | freeze a n k ih => intro K h; simp only [Sem.bind, wpH, ih]
 | frozen a k ih => intro K h; simp only [Sem.bind, wpH, ih]
 | getObj r k ih => intro K h; simp only [Sem.bind, wpH, ih]
 | setObj r o k ih => intro K h; simp only [Sem.bind, wpH, ih]
 | choose q k ih => intro K h; simp only [Sem.bind, wpH, ih]
 | sys c k ih => intro K h; simp only [Sem.bind, wpH]
 | program k ih => intro K h; simp only [Sem.bind, wpH, ih]
 | mark m k ih => intro K h; simp only [Sem.bind, wpH, ih]
 | halt x => intro K h; simp only [Sem.bind, wpH]
theorem lJ {P : Program} {α : Type} (s : Sem α) : ∀ {K K' : α → aA → Prop} {h : aA}, (∀ a h', K a h' → K' a h') →
  wpH P s K h → wpH P s K' h := by
 induction s with
 | pure a => intro K K' h hk hh; exact hk _ _ hh
 | load m a k ih => rintro K K' h hk ⟨v, hv, hh⟩; exact ⟨v, hv, ih _ hk hh⟩
 | store m a v k ih => rintro K K' h hk ⟨h1, h2, h3, hh⟩; exact ⟨h1, h2, h3, ih hk hh⟩
 | new o k ih => intro K K' h hk hh; exact ih _ hk hh
 | shape r k ih => intro K K' h hk hh; exact ih _ hk hh
 | freeze a n k ih => intro K K' h hk hh; exact ih hk hh
 | frozen a k ih => intro K K' h hk hh; exact ih _ hk hh
 | getObj r k ih => rintro K K' h hk ⟨o, h1, h2, hh⟩; exact ⟨o, h1, h2, ih _ hk hh⟩
 | setObj r o k ih => rintro K K' h hk ⟨h1, hh⟩; exact ⟨h1, ih hk hh⟩
 | choose q k ih => rintro K K' h hk ⟨h1, h2⟩; exact ⟨fun t => ih _ hk (h1 t), fun f => ih _ hk (h2 f)⟩
 | sys c k ih => intro K K' h hk hh; exact hh.elim
 | program k ih => intro K K' h hk hh; exact ih _ hk hh
 | mark m k ih => intro K K' h hk hh; exact ih hk hh
 | halt x => intro K K' h hk hh; exact hh.elim
def r8 (P : Program) : Sem Next → Option Value
 | .pure (.value v) => some v
 | .program k => r8 P (k P)
 | _ => none
theorem yE {P : Program} (s : Sem Next) : ∀ {v : Value}, r8 P s = some v → ∀ w, s.run P w = .ok (.value v) w := by
 induction s with
 | pure a =>
  intro v h w
  cases a <;> simp [r8] at h
  subst h; rfl
 | program k ih => intro v h w; exact ih _ h w
 | _ => intro v h; simp [r8] at h
inductive SK where
 | int (k : IntKind) | bool | str | ptr | slice | map | any
def En (P : Program) (t : TypeId) : SK :=
 match P.underlying t with
 | some (.int k) => .int k
 | some .bool => .bool
 | some .string => .str
 | some (.pointer _) => .ptr
 | some (.slice _) => .slice
 | some (.map _ _) => .map
 | _ => .any
def me (P : Program) (t : TypeId) : Bool :=
 match P.underlying t with
 | some (.struct _) | some (.array _ _) => true
 | _ => false
def kinds (P : Program) : Nat → TypeId → List SK
 | 0, _ => []
 | n + 1, t =>
  match P.underlying t with
  | some (.struct fs) => fs.toList.flatMap fun f => kinds P n f.type
  | some (.array k e) => (List.replicate k (kinds P n e)).flatten
  | _ => [En P t]
def gK (P : Program) (t : TypeId) : Nat := ((P.info? t).map (·.size)).getD 0
def ex1 : SK → (Value → Prop) → Prop
 | .int k, K => ∃ n : Int, K (.int k n)
 | .bool, K => ∃ b : Bool, K (.bool b)
 | .str, K => ∃ s : ByteArray, K (.string s)
 | .ptr, K => ∃ p : Option Addr, K (.pointer p)
 | .slice, K => ∃ (a : Option Addr) (n c : Nat), K (.slice a n c)
 | .map, K => ∃ r : Option Nat, K (.map r)
 | .any, K => ∃ v : Value, K v
theorem wC {k : SK} {K : Value → Prop} (h : ex1 k K) : ∃ v, K v := by
 cases k <;> simp only [ex1] at h
 case slice => obtain ⟨a, n, c, h⟩ := h; exact ⟨_, h⟩
 all_goals (obtain ⟨x, h⟩ := h; exact ⟨_, h⟩)
def exN : List SK → (List Value → Prop) → Prop
 | [], K => K []
 | k :: ks, K => ex1 k fun v => exN ks fun vs => K (v :: vs)
theorem FN : ∀ {ks : List SK} {K : List Value → Prop}, exN ks K → ∃ vs, vs.length = ks.length ∧ K vs
 | [], _, h => ⟨[], rfl, h⟩
 | _ :: _, _, h => by
  obtain ⟨v, h⟩ := wC h
  obtain ⟨vs, hl, h⟩ := FN h
  exact ⟨v :: vs, by simp [hl], h⟩
def ld1 (h : aA) (a : Addr) (k : SK) (K : Value → Prop) : Prop := ex1 k fun v => hcell h a = some v ∧ K v
def ldN (h : aA) (a : Addr) : List SK → Nat → (List Value → Prop) → Prop
 | [], _, K => K []
 | k :: ks, i, K => ld1 h (a.add i) k fun v => ldN h a ks (i + 1) fun vs => K (v :: vs)
theorem Do {h : aA} {a : Addr} : ∀ {ks : List SK} {i : Nat} {K : List Value → Prop}, ldN h a ks i K →
  ∃ vs : List Value, vs.length = ks.length ∧ (∀ j (hj : j < vs.length), hcell h (a.add (i + j)) = some vs[j]) ∧ K vs
 | [], _, _, hh => ⟨[], rfl, fun j hj => absurd hj (by simp), hh⟩
 | k :: ks, i, K, hh => by
  obtain ⟨v, hv, hh⟩ := wC hh
  obtain ⟨vs, hl, hc, hh⟩ := Do hh
  refine ⟨v :: vs, by simp [hl], fun j hj => ?_, hh⟩
  cases j with
  | zero => simpa using hv
  | succ j => have := hc j (by simpa using hj); simpa [Nat.add_assoc, Nat.add_comm 1 j] using this
def dI (k : IntKind) (v : Value) (K : Int → Prop) : Prop :=
 match v with
 | .int k' n => if k' = k then K n else False
 | _ => False
def dB (v : Value) (K : Bool → Prop) : Prop := match v with | .bool b => K b | _ => False
def dS (v : Value) (K : ByteArray → Prop) : Prop := match v with | .string s => K s | _ => False
def dP (v : Value) (K : Option Addr → Prop) : Prop := match v with | .pointer p => K p | _ => False
def dA (v : Value) (K : Addr → Prop) : Prop := match v with | .pointer (some a) => K a | _ => False
def dL (v : Value) (K : Option Addr → Nat → Nat → Prop) : Prop := match v with | .slice a n c => K a n c | _ => False
def dM (v : Value) (K : Option Nat → Prop) : Prop := match v with | .map r => K r | _ => False
def dG (v : Value) (K : List Value → Prop) : Prop := match v with | .agg cs => K cs.toList | _ => False
def dT (v : Value) (K : List Value → Prop) : Prop := match v with | .tuple cs => K cs.toList | _ => False
def dF (f : FuncId) (v : Value) (K : List Value → Prop) : Prop :=
 match v with
 | .func (.func g) first cap => if g = f ∧ first.size = 0 then K cap.toList else False
 | _ => False
def dC (l : List Value) (K : Value → List Value → Prop) : Prop := match l with | v :: vs => K v vs | [] => False
def dE (l : List Value) (K : Prop) : Prop := match l with | [] => K | _ => False
theorem DO {k : IntKind} {v : Value} {K : Int → Prop} (h : dI k v K) : ∃ n, v = .int k n ∧ K n := by
 unfold dI at h; split at h
 ·split at h
  ·rename_i hk; subst hk; exact ⟨_, rfl, h⟩
  ·exact h.elim
 ·exact h.elim
theorem DI {v : Value} {K : Bool → Prop} (h : dB v K) : ∃ b, v = .bool b ∧ K b := by
 unfold dB at h; split at h <;> first | exact ⟨_, rfl, h⟩ | exact h.elim
theorem Eh {v : Value} {K : ByteArray → Prop} (h : dS v K) : ∃ b, v = .string b ∧ K b := by
 unfold dS at h; split at h <;> first | exact ⟨_, rfl, h⟩ | exact h.elim
theorem D4 {v : Value} {K : Option Addr → Prop} (h : dP v K) : ∃ b, v = .pointer b ∧ K b := by
 unfold dP at h; split at h <;> first | exact ⟨_, rfl, h⟩ | exact h.elim
theorem D0 {v : Value} {K : Addr → Prop} (h : dA v K) : ∃ b, v = .pointer (some b) ∧ K b := by
 unfold dA at h; split at h <;> first | exact ⟨_, rfl, h⟩ | exact h.elim
theorem DS {v : Value} {K : Option Addr → Nat → Nat → Prop} (h : dL v K) : ∃ a n c, v = .slice a n c ∧ K a n c := by
 unfold dL at h; split at h <;> first | exact ⟨_, _, _, rfl, h⟩ | exact h.elim
theorem DK {v : Value} {K : Option Nat → Prop} (h : dM v K) : ∃ b, v = .map b ∧ K b := by
 unfold dM at h; split at h <;> first | exact ⟨_, rfl, h⟩ | exact h.elim
theorem Ec {v : Value} {K : List Value → Prop} (h : dG v K) : ∃ l, v = .agg l.toArray ∧ K l := by
 unfold dG at h; split at h <;> first | exact ⟨_, by simp, h⟩ | exact h.elim
theorem H6 {v : Value} {K : List Value → Prop} (h : dT v K) : ∃ l, v = .tuple l.toArray ∧ K l := by
 unfold dT at h; split at h <;> first | exact ⟨_, by simp, h⟩ | exact h.elim
theorem Io {f : FuncId} {v : Value} {K : List Value → Prop} (h : dF f v K) : ∃ l, v = .func (.func f) #[] l.toArray ∧ K l := by
 unfold dF at h; split at h
 ·split at h
  ·rename_i g first cap hg
   obtain ⟨rfl, hf⟩ := hg
   have : first = #[] := by simpa using hf
   subst this
   exact ⟨_, by simp, h⟩
  ·exact h.elim
 ·exact h.elim
theorem DZ {l : List Value} {K : Value → List Value → Prop} (h : dC l K) : ∃ v vs, l = v :: vs ∧ K v vs := by
 unfold dC at h; split at h <;> first | exact ⟨_, _, rfl, h⟩ | exact h.elim
theorem DH {l : List Value} {K : Prop} (h : dE l K) : l = [] ∧ K := by
 unfold dE at h; split at h <;> first | exact ⟨rfl, h⟩ | exact h.elim
def dSk : SK → Value → (Value → Prop) → Prop
 | .int k, v, K => dI k v fun n => K (.int k n)
 | .bool, v, K => dB v fun b => K (.bool b)
 | .str, v, K => dS v fun s => K (.string s)
 | .ptr, v, K => dP v fun p => K (.pointer p)
 | .slice, v, K => dL v fun a n c => K (.slice a n c)
 | .map, v, K => dM v fun r => K (.map r)
 | .any, v, K => K v
def dKs : List SK → List Value → (List Value → Prop) → Prop
 | [], l, K => dE l (K [])
 | k :: ks, l, K => dC l fun v l' => dSk k v fun v' => dKs ks l' fun vs => K (v' :: vs)
def dTy (P : Program) (t : TypeId) (v : Value) (K : Value → Prop) : Prop :=
 if me P t then dG v fun l => dKs (kinds P 20 t) l fun vs => K (.agg vs.toArray) else dSk (En P t) v K
theorem Bu : ∀ {k : SK} {v : Value} {K : Value → Prop}, dSk k v K → K v
 | .int k, v, K, h => by obtain ⟨n, q, h2⟩ := DO h; rw [q]; exact h2
 | .bool, v, K, h => by obtain ⟨n, q, h2⟩ := DI h; rw [q]; exact h2
 | .str, v, K, h => by obtain ⟨n, q, h2⟩ := Eh h; rw [q]; exact h2
 | .ptr, v, K, h => by obtain ⟨n, q, h2⟩ := D4 h; rw [q]; exact h2
 | .slice, v, K, h => by obtain ⟨a, n, c, q, h2⟩ := DS h; rw [q]; exact h2
 | .map, v, K, h => by obtain ⟨n, q, h2⟩ := DK h; rw [q]; exact h2
 | .any, v, K, h => h
theorem B3 : ∀ {ks : List SK} {l : List Value} {K : List Value → Prop}, dKs ks l K → K l
 | [], l, K, h => by obtain ⟨rfl, h⟩ := DH h; exact h
 | k :: ks, l, K, h => by
  obtain ⟨v, l', rfl, h⟩ := DZ h
  exact B3 (K := fun vs => K (v :: vs)) (Bu (K := fun v' => dKs ks l' fun vs => K (v' :: vs)) h)
theorem Gz {P : Program} {t : TypeId} {v : Value} {K : Value → Prop} (h : dTy P t v K) : K v := by
 unfold dTy at h
 split at h
 ·obtain ⟨l, rfl, h⟩ := Ec h; exact B3 h
 ·exact Bu h
end Go.Proofs.YtjmfpeiidlpngaaGreatDoor
namespace Go.Proofs.YtjmfpeiidlpngaaGreatDoor
set_option linter.unusedSimpArgs false
set_option linter.unusedVariables false
set_option maxRecDepth 20000
open Go
abbrev Env := Nat → Value
def upd (e : Env) (d : Nat) (v : Value) : Env := fun t => if t = d then v else e t
def pA (N : Nat) (e : Env) (d : Option Tmp) (v : Value) : Env :=
 match d with
 | none => e
 | some d => if d < N then upd e d v else e
def eev (e : Env) : Operand → Value
 | .tmp t => e t
 | .const v => v
 | .global g => .pointer (some ⟨g, 0, none⟩)
 | .func f => .func (.func f) #[] #[]
def ja (a : Act) : Env := fun t => a.tmps.getD t undef
theorem vZ (a : Act) : a.eval = eev (ja a) := by funext x; cases x <;> rfl
theorem tU {e : Env} {d : Nat} {v : Value} (h : e d = v) : upd e d v = e := by
 funext t; unfold upd; split
 ·rename_i ht; rw [ht, h]
 ·rfl
theorem tZ (a : Act) (d : Option Tmp) (v : Value) : ja (a.put d v) = pA a.tmps.size (ja a) d v := by
 cases d with
 | none => rfl
 | some d =>
  funext t
  simp only [ja, Act.put, pA]
  by_cases hd : d < a.tmps.size
  ·simp only [hd, if_true, upd]
   by_cases ht : t = d
   ·subst ht; simp [hd]
   ·rw [if_neg ht]; simp [ja, Array.getElem?_setIfInBounds_ne (Ne.symm ht)]
  ·simp [Array.setIfInBounds, hd, ja]
theorem vL (a : Act) (d : Option Tmp) (v : Value) : (a.put d v).tmps.size = a.tmps.size := by
 cases d <;> simp [Act.put]
theorem se (a : Act) (d : Option Tmp) (v : Value) : (a.put d v).defers = a.defers := by
 cases d <;> rfl
def nn (p : Option Addr) (K : Addr → Prop) : Prop :=
 match p with
 | some a => K a
 | none => False
def bAt (s : ByteArray) (n : Int) : Int := ((s.data[n.toNat]?).getD 0).toNat
def rY (s : ByteArray) (n : Int) (K : Int → Prop) : Prop := 0 ≤ n ∧ n < (s.size : Int) ∧ K (bAt s n)
def bQ (n : Int) (len : Nat) (K : Prop) : Prop := 0 ≤ n ∧ n < (len : Int) ∧ K
def ro (s : ByteArray) : Option Int → Option Int → (ByteArray → Prop) → Prop
 | some l, some u, K => 0 ≤ l ∧ l ≤ u ∧ u ≤ (s.size : Int) ∧ K (s.extract l.toNat u.toNat)
 | some l, none, K => 0 ≤ l ∧ l ≤ (s.size : Int) ∧ K (s.extract l.toNat s.size)
 | none, some u, K => 0 ≤ u ∧ u ≤ (s.size : Int) ∧ K (s.extract 0 u.toNat)
 | none, none, K => K (s.extract 0 s.size)
def fX (sz : Nat) (a : Option Addr) (n c : Nat) : Option Int → Option Int → Option Int → (Option Addr → Nat → Nat → Prop) → Prop
 | none, none, none, K => K a n c
 | none, some u, none, K => 0 ≤ u ∧ u ≤ (c : Int) ∧ K a u.toNat c
 | some l, none, none, K => 0 ≤ l ∧ l ≤ (n : Int) ∧ K (if c = l.toNat then a else a.map (·.add (l.toNat * sz))) (n - l.toNat) (c - l.toNat)
 | some l, some u, none, K => 0 ≤ l ∧ l ≤ u ∧ u ≤ (c : Int) ∧ K (if c = l.toNat then a else a.map (·.add (l.toNat * sz))) (u.toNat - l.toNat) (c - l.toNat)
 | none, some u, some m, K => 0 ≤ u ∧ u ≤ m ∧ m ≤ (c : Int) ∧ K a u.toNat m.toNat
 | some l, some u, some m, K => 0 ≤ l ∧ l ≤ u ∧ u ≤ m ∧ m ≤ (c : Int) ∧ K (if m.toNat = l.toNat then a else a.map (·.add (l.toNat * sz))) (u.toNat - l.toNat) (m.toNat - l.toNat)
 | _, none, some _, _ => False
def yF : Option Value → Option (Option Int)
 | none => some none
 | some (.int _ n) => some (some n)
 | _ => none
def eqS : TypeDesc → Value → Value → Option Bool
 | .bool, .bool a, .bool b => some (a == b)
 | .int _, .int k a, .int k' b => if k = k' then some (a == b) else none
 | .string, .string a, .string b => some (a == b)
 | .pointer _, .pointer p, .pointer none => some p.isNone
 | .pointer _, .pointer none, .pointer p => some p.isNone
 | .slice _, .slice a _ _, .slice none _ _ => some a.isNone
 | .slice _, .slice none _ _, .slice a _ _ => some a.isNone
 | .map _ _, .map r, .map none => some r.isNone
 | .map _ _, .map none, .map r => some r.isNone
 | .func _ _ _, .func _ _ _, .nilFunc => some false
 | .func _ _ _, .nilFunc, .nilFunc => some true
 | _, _, _ => none
def Am (P : Program) (t : TypeId) (cs : Array Value) (off : Nat) : Option Value :=
 if (P.underlying t).isSome then (if me P t then some (.agg (cs.extract off (off + gK P t))) else cs[off]?) else none
def EX (P : Program) (rec : TypeId → Value → Value → Option Bool) (xs ys : Array Value) : List Field → Option Bool
 | [] => some true
 | f :: fs =>
  if f.name = "_" then EX P rec xs ys fs else
  match Am P f.type xs f.offset, Am P f.type ys f.offset with
  | some a, some b =>
   match rec f.type a b, EX P rec xs ys fs with
   | some p, some q => some (p && q)
   | _, _ => none
  | _, _ => none
def G0 (P : Program) (rec : Value → Value → Option Bool) (el : TypeId) (n : Nat) (xs ys : Array Value) : List Nat → Option Bool
 | [] => some true
 | i :: is =>
  match Am P el xs (i * n), Am P el ys (i * n) with
  | some a, some b =>
   match rec a b, G0 P rec el n xs ys is with
   | some p, some q => some (p && q)
   | _, _ => none
  | _, _ => none
def eqB (P : Program) : Nat → TypeId → Value → Value → Option Bool
 | 0, _, _, _ => none
 | d + 1, t, x, y =>
  match P.underlying t with
  | some (.struct fs) =>
   match x, y with
   | .agg xs, .agg ys => if P.stoodInHeld t = true then none else EX P (eqB P d) xs ys fs.toList
   | _, _ => none
  | some (.array len el) =>
   match x, y with
   | .agg xs, .agg ys => if (P.info? el).isSome = true then G0 P (eqB P d el) el (gK P el) xs ys (List.range' 0 len) else none
   | _, _ => none
  | some td => eqS td x y
  | none => none
def HS (p q : Option Addr) (K : Bool → Prop) : Prop :=
 match q with
 | none => K p.isNone
 | some b => match p with
  | none => K false
  | some a => a = b ∧ K true
def Gn (P : Program) (o : Oper) (e : Env) (op : BinOp) (t : TypeId) (x y : Operand) (K : Value → Prop) : Prop :=
 match op, eev e x, eev e y with
 | .quo, .int k a, .int k' b => if k = k' then b ≠ 0 ∧ K (.int k (k.wrap (a.tdiv b))) else False
 | .rem, .int k a, .int k' b => if k = k' then b ≠ 0 ∧ K (.int k (a.tmod b)) else False
 | .shl, .int k a, .int _ b => 0 ≤ b ∧ K (.int k (k.wrap (a * 2 ^ (min b.toNat k.bits))))
 | .shr, .int k a, .int _ b => 0 ≤ b ∧ K (.int k (a.fdiv (2 ^ (min b.toNat k.bits))))
 | .add, .string a, .string b => ((a.size + b.size : Nat) : Int) ≤ IntKind.i64.max ∧ K (.string (a ++ b))
 | .eql, .pointer p, .pointer q =>
  match P.underlying t with
  | some (.pointer el) => if (P.info? el).isSome = true then HS p q fun b => K (.bool b) else False
  | some d => match eqS d (eev e x) (eev e y) with | some b => K (.bool b) | none => False
  | none => False
 | .neq, .pointer p, .pointer q =>
  match P.underlying t with
  | some (.pointer el) => if (P.info? el).isSome = true then HS p q fun b => K (.bool (!b)) else False
  | some d => match eqS d (eev e x) (eev e y) with | some b => K (.bool (!b)) | none => False
  | none => False
 | .eql, .slice p _ _, .slice q _ _ =>
  match P.underlying t with
  | some d => match eqS d (eev e x) (eev e y) with | some b => K (.bool b) | none => False
  | none => False
 | .neq, .slice p _ _, .slice q _ _ =>
  match P.underlying t with
  | some d => match eqS d (eev e x) (eev e y) with | some b => K (.bool (!b)) | none => False
  | none => False
 | .eql, .map p, .map q =>
  match P.underlying t with
  | some d => match eqS d (eev e x) (eev e y) with | some b => K (.bool b) | none => False
  | none => False
 | .neq, .map p, .map q =>
  match P.underlying t with
  | some d => match eqS d (eev e x) (eev e y) with | some b => K (.bool (!b)) | none => False
  | none => False
 | .eql, .agg _, .agg _ => if P.eqGuardType P.depth t = false then (match eqB P Op.maxDepth t (eev e x) (eev e y) with | some b => K (.bool b) | none => False) else False
 | .neq, .agg _, .agg _ => if P.eqGuardType P.depth t = false then (match eqB P Op.maxDepth t (eev e x) (eev e y) with | some b => K (.bool (!b)) | none => False) else False
 | _, _, _ => match r8 P (execOp (eev e) o) with | some v => K v | none => False
def vcQ (P : Program) (o : Oper) (e : Env) (h : aA) (K : Value → Prop) : Prop :=
 match o.op with
 | .load t x =>
  match eev e x with
  | .pointer (some a) =>
   if me P t then (if (kinds P 20 t).length = gK P t then ldN h a (kinds P 20 t) 0 fun vs => K (.agg vs.toArray) else False)
   else (if (P.underlying t).isSome then ld1 h a (En P t) K else False)
  | _ => False
 | .nilCheck x =>
  match eev e x with
  | .pointer p => nn p fun a => K (.pointer (some a))
  | _ => False
 | .index t x i =>
  match P.underlying t, eev e x, eev e i with
  | some .string, .string s, .int _ n => rY s n fun c => K (.int .u8 c)
  | some (.array len el), .agg cs, .int _ n =>
   if me P el = false ∧ gK P el = 1 ∧ (P.underlying el).isSome then bQ n len (∃ v, cs[n.toNat]? = some v ∧ ex1 (En P el) fun v' => v = v' ∧ K v') else False
  | _, _, _ => False
 | .indexAddr t x i =>
  match P.underlying t, eev e x, eev e i with
  | some (.slice el), .slice b len _, .int _ n => if (P.info? el).isSome then bQ n len (nn b fun a => K (.pointer (some (a.add (n.toNat * gK P el))))) else False
  | some (.array len el), .pointer (some a), .int _ n => if (P.info? el).isSome then bQ n len (K (.pointer (some (a.add (n.toNat * gK P el))))) else False
  | _, _, _ => False
 | .slice t x lo hi mx =>
  match P.underlying t, eev e x, yF (lo.map (eev e)), yF (hi.map (eev e)), yF (mx.map (eev e)) with
  | some .string, .string s, some l, some u, some none => ro s l u fun r => K (.string r)
  | some (.slice el), .slice a n c, some l, some u, some m => if (P.info? el).isSome then fX (gK P el) a n c l u m fun a n c => K (.slice a n c) else False
  | some (.array k el), .pointer (some a), some l, some u, some m => if (P.info? el).isSome then fX (gK P el) (some a) k k l u m fun a n c => K (.slice a n c) else False
  | _, _, _, _, _ => False
 | .pick c a b =>
  match eev e c, eev e a, eev e b with
  | .bool c, .bool x, .bool y => K (.bool (bif c then x else y))
  | .bool c, x, y => if c = true then K x else K y
  | _, _, _ => False
 | .binOp op t x y _ => Gn P o e op t x y K
 | .extract _ _ => match r8 P (execOp (eev e) o) with | some v => dTy P o.type v K | none => False
 | _ => match r8 P (execOp (eev e) o) with | some v => K v | none => False
def su (P : Program) (o : Op) : Bool :=
 match o with
 | .move _ | .assign _ | .pick .. | .nilCheck _ | .load .. | .index .. | .indexAddr .. | .slice .. | .fieldAddr .. | .field .. | .binOp .. | .unOp .. | .extract ..
 | .build .. | .makeFunc .. | .makeInterface .. => true
 | .convert s d _ => (match P.underlying s, P.underlying d with | some (.int _), some (.int _) => true | some .string, some .string => true | _, _ => false)
 | .call { callee := .builtin b, argTypes, .. } => (match b with | .len => (match (argTypes[0]?).bind P.underlying with | some (.map _ _) => false | _ => true) | .cap | .min | .max => true | _ => false)
 | _ => false
section
variable {P : Program}
def QOk (P : Program) (o : Oper) (e : Env) (h : aA) (v : Value) : Prop := ∀ w : World, w.heap = h → (execOp (eev e) o).run P w = .ok (.value v) w
def qP (P : Program) (o : Oper) (e : Env) (v : Value) : Prop := ∀ w : World, (execOp (eev e) o).run P w = .ok (.value v) w
theorem aR {α β : Type} {s : Sem α} {f : α → Sem β} {w w' : World} {a : α} (h : s.run P w = .ok a w') : (s.bind f).run P w = (f a).run P w' := by
 induction s generalizing w with
 | pure x => simp only [Sem.run, Result.ok.injEq] at h; obtain ⟨rfl, rfl⟩ := h; rfl
 | load m a k ih =>
  simp only [Sem.bind, Sem.run] at h ⊢
  split at h
  ·exact ih _ h
  ·split at h
   ·exact ih _ h
   ·exact (nomatch h)
 | store m a v k ih =>
  cases v
  case agg => exact (nomatch h)
  case tuple => exact (nomatch h)
  all_goals
   simp only [Sem.bind, Sem.run] at h ⊢
   split at h
   ·split at h
    ·exact (nomatch h)
    ·rename_i hf; simp only [hf]; exact ih h
   ·split at h
    ·exact ih h
    ·exact (nomatch h)
 | new o k ih => exact ih _ h
 | shape r k ih => exact ih _ h
 | freeze a n k ih => exact ih h
 | frozen a k ih => exact ih _ h
 | getObj r k ih =>
  simp only [Sem.bind, Sem.run] at h ⊢
  split at h
  ·exact (nomatch h)
  ·exact ih _ h
  ·exact (nomatch h)
 | setObj r o k ih =>
  simp only [Sem.bind, Sem.run] at h ⊢
  split at h
  ·exact (nomatch h)
  ·exact ih h
  ·exact (nomatch h)
 | choose q k ih =>
  simp only [Sem.bind, Sem.run] at h ⊢
  split at h
  ·rename_i hq; simp only [hq, if_true]; exact ih _ h
  ·rename_i hq; simp only [hq]; exact ih _ h
 | sys c k ih => exact ih _ h
 | program k ih => exact ih _ h
 | mark m k ih => exact ih h
 | halt x => exact (nomatch h)
theorem ll {s : Sem Value} {w : World} {v : Value} (h : s.run P w = .ok v w) : (do pure (Next.value (← s)) : Sem Next).run P w = .ok (.value v) w :=
 aR h
theorem bT {t : TypeId} {d : TypeDesc} (h : P.underlying t = some d) (w : World) : (underlying t).run P w = .ok d w := by
 unfold underlying; simp only [bind, program, Sem.bind, Sem.run, h]; rfl
theorem GV {t : TypeId} {d : TypeInfo} (h : P.info? t = some d) (w : World) : (typeInfo t).run P w = .ok d w := by
 unfold typeInfo; simp only [bind, program, Sem.bind, Sem.run, h]; rfl
theorem lM {t : TypeId} (h : (P.info? t).isSome) (w : World) : (sizeOf t).run P w = .ok (gK P t) w := by
 obtain ⟨i, hi⟩ := Option.isSome_iff_exists.1 h
 unfold sizeOf; simp only [bind]; rw [aR (GV hi w)]; simp [gK, hi, pure, Sem.run]
theorem pE {t : TypeId} (h : (P.underlying t).isSome) (w : World) : (isAgg t).run P w = .ok (me P t) w := by
 obtain ⟨i, hi⟩ := Option.isSome_iff_exists.1 h
 unfold isAgg; simp only [bind]; rw [aR (bT hi w)]
 unfold me; rw [hi]; cases i <;> rfl
theorem xQ {w : World} {a : Addr} {v : Value} (h : hcell w.heap a = some v) : (load a).run P w = .ok v w := by
 have h' : w.cell? a = some v := h
 simp only [load, Sem.run, h']
theorem qx {w : World} {a : Addr} : ∀ (vs : List Value) (i : Nat) (acc : Array Value), (∀ j (hj : j < vs.length), hcell w.heap (a.add (i + j)) = some vs[j]) →
  (loadCellsFrom a i vs.length acc).run P w = .ok (acc ++ vs.toArray) w
 | [], i, acc, _ => by simp [loadCellsFrom, pure, Sem.run]
 | v :: vs, i, acc, h => by
  have h0 := h 0 (by simp)
  simp only [Nat.add_zero, List.getElem_cons_zero] at h0
  simp only [List.length_cons, loadCellsFrom, bind]
  rw [aR (xQ h0), qx vs (i + 1) (acc.push v) (fun j hj => by
   have := h (j + 1) (by simpa using hj)
   simpa [Nat.add_assoc, Nat.add_comm 1 j] using this)]
  simp
theorem uX {w : World} {a : Addr} {vs : List Value} {n : Nat} (hn : vs.length = n) (h : ∀ j (hj : j < vs.length), hcell w.heap (a.add (0 + j)) = some vs[j]) :
  (loadCells a n).run P w = .ok vs.toArray w := by
 subst hn; unfold loadCells; rw [qx vs 0 #[] h]; simp
theorem j6 {t : TypeId} (h : (P.underlying t).isSome) : (P.info? t).isSome := by
 unfold Program.underlying at h
 cases hi : P.info? t with
 | none => simp [hi] at h
 | some i => rfl
theorem j9 (a : Addr) : a.add 0 = a := rfl
theorem vF (a : Option Addr) : a.map (·.add 0) = a := by cases a <;> rfl
end
end Go.Proofs.YtjmfpeiidlpngaaGreatDoor
namespace Go.Proofs.YtjmfpeiidlpngaaGreatDoor
set_option linter.unusedSimpArgs false
set_option linter.unusedVariables false
set_option maxRecDepth 20000
open Go
variable {P : Program} {o : Oper} {e : Env} {h : aA} {K : Value → Prop}
theorem Fm {t : TypeId} {x : Operand} (ho : o.op = .load t x) (ρ : Operand → Value) : execOp ρ o = (do pure (.value (← Instr.loadAt t (ρ x)))) := by
 unfold execOp; rw [ho]
theorem Jp {t : TypeId} {x : Operand} (ho : o.op = .load t x) (hh : vcQ P o e h K) : ∃ v, QOk P o e h v ∧ K v := by
 unfold vcQ at hh; rw [ho] at hh; simp only at hh
 split at hh
 case h_2 => exact hh.elim
 rename_i a hx
 have key : ∀ (v : Value), (∀ w : World, w.heap = h → (loadVar t a).run P w = .ok v w) → QOk P o e h v := fun v hv w hw => by
  rw [Fm ho, hx]
  exact ll (hv w hw)
 by_cases hag : me P t = true
 ·rw [if_pos hag] at hh
  split at hh
  case isFalse => exact hh.elim
  rename_i hsz
  obtain ⟨vs, hl, hc, hk⟩ := Do hh
  refine ⟨_, key _ (fun w hw => ?_), hk⟩
  have hu : (P.underlying t).isSome := by
   unfold me at hag; cases hq : P.underlying t with
   | none => simp [hq] at hag
   | some d => rfl
  unfold loadVar; simp only [bind]
  rw [aR (pE hu w), hag]
  simp only [if_true]
  rw [aR (lM (j6 hu) w)]
  subst hw
  rw [aR (uX (hl.trans hsz) hc)]; rfl
 ·rw [if_neg hag] at hh
  split at hh
  case isFalse => exact hh.elim
  rename_i hu
  obtain ⟨v, hc, hk⟩ := wC hh
  refine ⟨v, key v (fun w hw => ?_), hk⟩
  unfold loadVar; simp only [bind]
  rw [aR (pE hu w)]
  simp only [hag]
  subst hw
  exact xQ hc
theorem CJ {x : Operand} (ho : o.op = .nilCheck x) (hh : vcQ P o e h K) : ∃ v, qP P o e v ∧ K v := by
 unfold vcQ at hh; rw [ho] at hh; simp only at hh
 split at hh
 case h_2 => exact hh.elim
 rename_i p hx
 cases p with
 | none => exact hh.elim
 | some a => exact ⟨_, fun w => by unfold execOp; rw [ho]; simp only [hx]; rfl, hh⟩
theorem Ja {s : ByteArray} {n : Int} (h0 : 0 ≤ n) (h1 : n < (s.size : Int)) : s[n.toNat]? = some (s.data[n.toNat]'(by have : s.data.size = s.size := rfl; omega)) := by
 have : n.toNat < s.size := by omega
 simp [this]; rfl
theorem HZ {t : TypeId} {x i : Operand} (ho : o.op = .index t x i) (hh : vcQ P o e h K) : ∃ v, qP P o e v ∧ K v := by
 unfold vcQ at hh; rw [ho] at hh; simp only at hh
 have key : ∀ (v : Value), (∀ w : World, (Instr.index t (eev e x) (eev e i)).run P w = .ok v w) → qP P o e v := fun v hv w => by
  unfold execOp; rw [ho]; exact ll (hv w)
 split at hh
 case h_3 => exact hh.elim
 case h_1 s k n hu hx hi =>
  obtain ⟨h0, h1, hk⟩ := hh
  refine ⟨_, key _ (fun w => ?_), hk⟩
  rw [hx, hi]; unfold Instr.index; simp only [asIntOf, bind, pure, Sem.bind]
  rw [aR (bT hu w)]
  have hb := Ja h0 h1
  simp only [h0, if_true, hb]
  have h2 : n.toNat < s.data.size := by have : s.data.size = s.size := rfl; omega
  simp only [Sem.run, bAt, Array.getElem?_eq_getElem h2, Option.getD_some]
 case h_2 len el cs k n hu hx hi =>
  split at hh
  case isFalse => exact hh.elim
  rename_i hc
  obtain ⟨h1, h2, h3⟩ := hc
  obtain ⟨hn0, hn1, v, hv, hh⟩ := hh
  obtain ⟨v', rfl, hk⟩ := wC hh
  refine ⟨_, key _ (fun w => ?_), hk⟩
  rw [hx, hi]; unfold Instr.index; simp only [asIntOf, bind, pure, Sem.bind]
  rw [aR (bT hu w)]
  simp only [hn0, hn1, and_self, if_true]
  rw [aR (lM (j6 h3) w)]
  unfold part; simp only [bind]
  rw [aR (pE h3 w), h1]
  simp [h2, hv, pure, Sem.run]
theorem BL {t : TypeId} {x i : Operand} (ho : o.op = .indexAddr t x i) (hh : vcQ P o e h K) : ∃ v, qP P o e v ∧ K v := by
 unfold vcQ at hh; rw [ho] at hh; simp only at hh
 have key : ∀ (v : Value), (∀ w : World, (Instr.indexAt t (eev e x) (eev e i)).run P w = .ok v w) → qP P o e v := fun v hv w => by
  unfold execOp; rw [ho]; exact ll (hv w)
 split at hh
 case h_3 => exact hh.elim
 case h_1 el b len c k n hu hx hi =>
  split at hh
  case isFalse => exact hh.elim
  rename_i h3
  obtain ⟨h0, h1, hk⟩ := hh
  cases b with
  | none => exact hk.elim
  | some a =>
   refine ⟨_, key _ (fun w => ?_), hk⟩
   rw [hx, hi]; unfold Instr.indexAt; simp only [asIntOf, bind, pure, Sem.bind]
   rw [aR (bT hu w)]
   simp only [Sem.bind]
   rw [aR (bT hu w)]
   simp only [h0, h1, and_self, if_true]
   rw [aR (lM h3 w)]
   rfl
 case h_2 len el a k n hu hx hi =>
  split at hh
  case isFalse => exact hh.elim
  rename_i h3
  obtain ⟨h0, h1, hk⟩ := hh
  refine ⟨_, key _ (fun w => ?_), hk⟩
  rw [hx, hi]; unfold Instr.indexAt; simp only [asIntOf, bind, pure, Sem.bind, Instr.sureAddr]
  rw [aR (bT hu w)]
  simp only [Sem.bind]
  rw [aR (bT hu w)]
  simp only [h0, h1, and_self, if_true]
  rw [aR (lM h3 w)]
  rfl
theorem JJ {c a b : Operand} (ho : o.op = .pick c a b) (hh : vcQ P o e h K) : ∃ v, qP P o e v ∧ K v := by
 unfold vcQ at hh; rw [ho] at hh; simp only at hh
 have key : ∀ (v : Value) (t : Bool), eev e c = .bool t → (if t then eev e a else eev e b) = v → qP P o e v := fun v t ht hv w => by
  unfold execOp; rw [ho]; simp only [ht, asBool, bind, pure, Sem.bind, Sem.run]; rw [hv]
 split at hh
 ·rename_i t x y hc ha hb
  refine ⟨_, key _ t hc ?_, hh⟩
  rw [ha, hb]; cases t <;> rfl
 ·rename_i u x y t hc hb
  split at hh
  ·rename_i ht; exact ⟨_, key _ _ hc (by simp [ht]), hh⟩
  ·rename_i ht; exact ⟨_, key _ _ hc (by simp [ht]), hh⟩
 ·exact hh.elim
theorem zX (hh : match r8 P (execOp (eev e) o) with | some v => K v | none => False) : ∃ v, qP P o e v ∧ K v := by
 split at hh
 ·rename_i v hv; exact ⟨v, fun w => yE _ hv w, hh⟩
 ·exact hh.elim
theorem mc {v : Option Value} {l : Option Int} (h : yF v = some l) : (v = none ∧ l = none) ∨ ∃ k n, v = some (.int k n) ∧ l = some n := by
 unfold yF at h
 split at h
 ·simp at h; exact .inl ⟨rfl, h.symm⟩
 ·rename_i k n; simp at h; exact .inr ⟨k, n, rfl, h.symm⟩
 ·simp at h
theorem lh {k : IntKind} {n : Int} {y : Nat} {c : BoundsCode} (h0 : 0 ≤ n) (h1 : n ≤ (y : Int)) (w : World) :
  (Instr.sliceBound (.int k n) y c).run P w = .ok n.toNat w := by
 unfold Instr.sliceBound; simp only [asIntOf, bind, pure, Sem.bind, h0, h1, and_self, if_true, Sem.run]
theorem ji {iS : Bool} {n c : Nat} {lo hi mx : Option Value} {l u m : Option Int} (hl : yF lo = some l) (hu : yF hi = some u) (hm : yF mx = some m)
  (h1 : ∀ x, m = some x → 0 ≤ x ∧ x ≤ (c : Int) ∧ u.isSome = true) (h2 : ∀ x, u = some x → 0 ≤ x ∧ x ≤ (match m with | some y => y | none => (c : Int)))
  (h3 : ∀ x, l = some x → 0 ≤ x ∧ x ≤ (match u with | some y => y | none => (n : Int))) (w : World) :
  (Instr.sliceBounds iS n c lo hi mx).run P w = .ok ((match l with | some x => x.toNat | none => 0), (match u with | some x => x.toNat | none => n), (match m with | some x => x.toNat | none => c)) w := by
 rcases mc hm with ⟨rfl, rfl⟩ | ⟨km, nm, rfl, rfl⟩
 ·rcases mc hu with ⟨rfl, rfl⟩ | ⟨ku, nu, rfl, rfl⟩
  ·rcases mc hl with ⟨rfl, rfl⟩ | ⟨kl, nl, rfl, rfl⟩
   ·rfl
   ·obtain ⟨a, b⟩ := h3 _ rfl
    unfold Instr.sliceBounds; simp only [bind, pure, Sem.bind]
    rw [aR (lh a b w)]; rfl
  ·obtain ⟨a, b⟩ := h2 _ rfl
   rcases mc hl with ⟨rfl, rfl⟩ | ⟨kl, nl, rfl, rfl⟩
   ·unfold Instr.sliceBounds; simp only [bind, pure, Sem.bind]
    rw [aR (lh a b w)]; rfl
   ·obtain ⟨a', b'⟩ := h3 _ rfl
    unfold Instr.sliceBounds; simp only [bind, pure, Sem.bind]
    rw [aR (lh a b w), aR (lh a' (by simp only at b'; omega) w)]; rfl
 ·obtain ⟨a0, b0, c0⟩ := h1 _ rfl
  rcases mc hu with ⟨rfl, rfl⟩ | ⟨ku, nu, rfl, rfl⟩
  ·simp at c0
  ·obtain ⟨a, b⟩ := h2 _ rfl
   simp only at b
   rcases mc hl with ⟨rfl, rfl⟩ | ⟨kl, nl, rfl, rfl⟩
   ·unfold Instr.sliceBounds; simp only [bind, pure, Sem.bind]
    rw [aR (lh a0 b0 w), aR (lh a (by omega) w)]; rfl
   ·obtain ⟨a', b'⟩ := h3 _ rfl
    unfold Instr.sliceBounds; simp only [bind, pure, Sem.bind]
    rw [aR (lh a0 b0 w), aR (lh a (by omega) w), aR (lh a' (by simp only at b'; omega) w)]; rfl
theorem yw {el : TypeId} (h3 : (P.info? el).isSome) {iS : Bool} {a : Option Addr} {n c : Nat} {lo hi mx : Option Value} {l u m : Option Int} {K : Option Addr → Nat → Nat → Prop}
  (hl : yF lo = some l) (hu : yF hi = some u) (hm : yF mx = some m) (hh : fX (gK P el) a n c l u m K) :
  ∃ x y z l' u' m', (∀ w, (Instr.sliceBounds iS n c lo hi mx).run P w = .ok (l', u', m') w) ∧ (x = if m' = l' then a else a.map (·.add (l' * gK P el))) ∧ y = u' - l' ∧ z = m' - l' ∧ K x y z := by
 cases l with
 | none =>
  have e0 : ∀ c' : Nat, a = if c' = 0 then a else a.map (·.add (0 * gK P el)) := fun c' => by simp [vF]
  cases u with
  | none =>
   cases m with
   | none => exact ⟨a, n, c, 0, n, c, fun w => ji hl hu hm (by simp) (by simp) (by simp) w, e0 c, by simp, by simp, hh⟩
   | some m => exact hh.elim
  | some u =>
   cases m with
   | none =>
    obtain ⟨h0, h1, hk⟩ := hh
    exact ⟨a, _, c, 0, _, c, fun w => ji hl hu hm (by simp) (by simp; omega) (by simp) w, e0 c, (Nat.sub_zero _).symm, (Nat.sub_zero _).symm, hk⟩
   | some m =>
    obtain ⟨h0, h1, h2, hk⟩ := hh
    exact ⟨a, _, _, 0, _, _, fun w => ji hl hu hm (by simp; omega) (by simp; omega) (by simp) w, e0 _, (Nat.sub_zero _).symm, (Nat.sub_zero _).symm, hk⟩
 | some l =>
  cases u with
  | none =>
   cases m with
   | none =>
    obtain ⟨h0, h1, hk⟩ := hh
    exact ⟨_, _, _, _, _, _, fun w => ji hl hu hm (by simp) (by simp) (by simp; omega) w, rfl, rfl, rfl, hk⟩
   | some m => exact hh.elim
  | some u =>
   cases m with
   | none =>
    obtain ⟨h0, h1, h2, hk⟩ := hh
    exact ⟨_, _, _, _, _, _, fun w => ji hl hu hm (by simp) (by simp; omega) (by simp; omega) w, rfl, rfl, rfl, hk⟩
   | some m =>
    obtain ⟨h0, h1, h2, h4, hk⟩ := hh
    exact ⟨_, _, _, _, _, _, fun w => ji hl hu hm (by simp; omega) (by simp; omega) (by simp; omega) w, rfl, rfl, rfl, hk⟩
theorem HT {t : TypeId} {x : Operand} {lo hi mx : Option Operand} (ho : o.op = .slice t x lo hi mx) (hh : vcQ P o e h K) : ∃ v, qP P o e v ∧ K v := by
 unfold vcQ at hh; rw [ho] at hh; simp only at hh
 have key : ∀ (v : Value), (∀ w : World, (Instr.sliceAt t (eev e x) (lo.map (eev e)) (hi.map (eev e)) (mx.map (eev e))).run P w = .ok v w) → qP P o e v := fun v hv w => by
  unfold execOp; rw [ho]; exact ll (hv w)
 split at hh
 case h_1 s l u hu hx hl hi' hm =>
  have hm0 : mx.map (eev e) = none := by rcases mc hm with ⟨a, _⟩ | ⟨k, n, _, a⟩ <;> first | exact a | (simp at a)
  have main : ∀ (l' u' : Nat), (∀ w, (Instr.sliceBounds false s.size s.size (lo.map (eev e)) (hi.map (eev e)) none).run P w = .ok (l', u', s.size) w) → K (.string (s.extract l' u')) → ∃ v, qP P o e v ∧ K v := fun l' u' hb hk => by
   refine ⟨_, key _ (fun w => ?_), hk⟩
   rw [hx, hm0]; unfold Instr.sliceAt; simp only [bind]
   rw [aR (bT hu w)]
   unfold Instr.slice; simp only [bind]
   rw [aR (bT hu w)]
   simp only [Option.isSome_none, Bool.false_eq_true, if_false, pure, Sem.bind]
   rw [aR (hb w)]; rfl
  rw [hm0] at hm
  cases l with
  | none =>
   cases u with
   | none => exact main 0 s.size (fun w => ji hl hi' hm (by simp) (by simp) (by simp) w) hh
   | some u => exact main 0 _ (fun w => ji hl hi' hm (by simp) (by simp; exact ⟨hh.1, hh.2.1⟩) (by simp) w) hh.2.2
  | some l =>
   cases u with
   | none => exact main _ s.size (fun w => ji hl hi' hm (by simp) (by simp) (by simp; exact ⟨hh.1, hh.2.1⟩) w) hh.2.2
   | some u =>
    obtain ⟨h0, h1, h2, hk⟩ := hh
    exact main _ _ (fun w => ji hl hi' hm (by simp) (by simp; omega) (by simp; omega) w) hk
 case h_2 el a n c l u m hu hx hl hi' hm =>
  split at hh
  case isFalse => exact hh.elim
  rename_i h3
  obtain ⟨x', y, z, l', u', m', hb, rfl, rfl, rfl, hk⟩ := yw (iS := true) h3 hl hi' hm hh
  refine ⟨_, key _ (fun w => ?_), hk⟩
  rw [hx]; unfold Instr.sliceAt; simp only [bind]
  rw [aR (bT hu w)]
  unfold Instr.slice; simp only [bind]
  rw [aR (bT hu w)]
  simp only
  rw [aR (hb w)]; simp only
  rw [aR (lM h3 w)]; rfl
 case h_3 k el a l u m hu hx hl hi' hm =>
  split at hh
  case isFalse => exact hh.elim
  rename_i h3
  obtain ⟨x', y, z, l', u', m', hb, rfl, rfl, rfl, hk⟩ := yw (iS := false) h3 hl hi' hm hh
  have hk' : K (.slice (some (if m' = l' then a else a.add (l' * gK P el))) (u' - l') (m' - l')) := by
   have : (if m' = l' then some a else (some a).map (·.add (l' * gK P el))) = some (if m' = l' then a else a.add (l' * gK P el)) := by split <;> rfl
   rw [← this]; exact hk
  refine ⟨_, key _ (fun w => ?_), hk'⟩
  rw [hx]; unfold Instr.sliceAt; simp only [bind]
  rw [aR (bT hu w)]
  simp only [Instr.sureAddr, pure, Sem.bind]
  rw [aR (hb w)]; simp only
  rw [aR (lM h3 w)]; rfl
 case h_4 => exact hh.elim
end Go.Proofs.YtjmfpeiidlpngaaGreatDoor
namespace Go.Proofs.YtjmfpeiidlpngaaGreatDoor
set_option linter.unusedSimpArgs false
set_option linter.unusedVariables false
set_option maxRecDepth 20000
open Go
variable {P : Program} {o : Oper} {e : Env} {h : aA} {K : Value → Prop}
theorem Ab {d : TypeDesc} {n : Nat} {t : TypeId} {x y : Value} {b : Bool} (hu : P.underlying t = some d) (he : eqS d x y = some b) (w : World) :
  (Op.equalIn (n + 1) t x y).run P w = .ok b w := by
 unfold Op.equalIn; simp only [bind]
 rw [aR (bT hu w)]
 unfold eqS at he
 split at he <;> first | (simp at he; done) | skip
 ·simp only [Option.some.injEq] at he; subst he; rfl
 ·split at he
  ·rename_i hk; simp only [Option.some.injEq] at he; subst he; simp only [hk, if_true]; rfl
  ·simp at he
 ·simp only [Option.some.injEq] at he; subst he; rfl
 ·rename_i p; simp only [Option.some.injEq] at he; subst he; cases p <;> rfl
 ·rename_i p hp; simp only [Option.some.injEq] at he; subst he; rfl
 ·rename_i a n c n' c'; simp only [Option.some.injEq] at he; subst he; cases a <;> rfl
 ·rename_i a n c n' c' hp; simp only [Option.some.injEq] at he; subst he; rfl
 ·rename_i r; simp only [Option.some.injEq] at he; subst he; cases r <;> rfl
 ·rename_i r hp; simp only [Option.some.injEq] at he; subst he; rfl
 ·simp only [Option.some.injEq] at he; subst he; rfl
 ·simp only [Option.some.injEq] at he; subst he; rfl
theorem xF {d : TypeDesc} {t : TypeId} {x y : Value} {b : Bool} (hu : P.underlying t = some d) (he : eqS d x y = some b) (w : World) :
  (Op.equal t x y).run P w = .ok b w := Ab (n := 9999) hu he w
theorem wt {t : TypeId} {cs : Array Value} {off : Nat} {v : Value} (h : Am P t cs off = some v) (w : World) : (part t cs off).run P w = .ok v w := by
 unfold Am at h
 split at h
 case isFalse => cases h
 rename_i hu
 unfold part; simp only [bind]
 rw [aR (pE hu w)]
 split at h
 ·rename_i ha; rw [ha]; simp only [if_true]
  rw [aR (lM (j6 hu) w)]
  simp only [Option.some.injEq] at h; subst h; rfl
 ·rename_i ha; simp only [ha]
  simp only [Bool.false_eq_true, if_false, h]; rfl
theorem x4 {rec : TypeId → Value → Value → Option Bool} {eqn : TypeId → Value → Value → Sem Bool} (hrec : ∀ t x y b, rec t x y = some b → ∀ w, (eqn t x y).run P w = .ok b w) {xs ys : Array Value} (w : World) :
  ∀ (fs : List Field) {b : Bool}, EX P rec xs ys fs = some b →
  (forIn fs ((none, ()) : Option Bool × Unit) fun f __s =>
        if f.name ≠ "_" then
         (part f.type xs f.offset).bind fun a =>
          (part f.type ys f.offset).bind fun b =>
           (eqn f.type a b).bind fun r =>
            if (!r) = true then (pure (ForInStep.done (some false, ())) : Sem _)
            else pure (ForInStep.yield (none, ()))
        else pure (ForInStep.yield (none, ()))).run P w = .ok (if b then (none, ()) else (some false, ())) w
 | [], b, h => by simp [EX] at h; subst h; rfl
 | f :: fs, b, h => by
  rw [List.forIn_cons]
  unfold EX at h
  split at h
  ·rename_i hn
   simp only [hn, ne_eq, not_true, if_false, bind, pure, Sem.bind]
   exact x4 hrec w fs h
  ·rename_i hn
   split at h
   case h_2 => cases h
   rename_i a c ha hc
   split at h
   case h_2 => cases h
   rename_i p q hp hq
   simp only [Option.some.injEq] at h
   simp only [hn, ne_eq, not_false_iff, if_true, bind]
   rw [aR (a := if p then ForInStep.yield (none, ()) else ForInStep.done (some false, ())) (w' := w)]
   ·cases p
    ·simp only [Bool.false_and] at h; subst h; rfl
    ·simp only [Bool.true_and] at h; subst h
     exact x4 hrec w fs hq
   ·rw [aR (wt ha w), aR (wt hc w), aR (hrec _ _ _ _ hp w)]
    cases p <;> rfl
theorem Cg {el : TypeId} {n : Nat} {rec : Value → Value → Option Bool} {eqn : Value → Value → Sem Bool} (hrec : ∀ x y b, rec x y = some b → ∀ w, (eqn x y).run P w = .ok b w) {xs ys : Array Value} (w : World) :
  ∀ (is : List Nat) {b : Bool}, G0 P rec el n xs ys is = some b →
  (forIn is ((none, ()) : Option Bool × Unit) fun i __s =>
         (part el xs (i * n)).bind fun a =>
          (part el ys (i * n)).bind fun b =>
           (eqn a b).bind fun r =>
            if (!r) = true then (pure (ForInStep.done (some false, ())) : Sem _)
            else pure (ForInStep.yield (none, ()))).run P w = .ok (if b then (none, ()) else (some false, ())) w
 | [], b, h => by simp [G0] at h; subst h; rfl
 | i :: is, b, h => by
  rw [List.forIn_cons]
  unfold G0 at h
  split at h
  case h_2 => cases h
  rename_i a c ha hc
  split at h
  case h_2 => cases h
  rename_i p q hp hq
  simp only [Option.some.injEq] at h
  simp only [bind]
  rw [aR (a := if p then ForInStep.yield (none, ()) else ForInStep.done (some false, ())) (w' := w)]
  ·cases p
   ·simp only [Bool.false_and] at h; subst h; rfl
   ·simp only [Bool.true_and] at h; subst h
    exact Cg hrec w is hq
  ·rw [aR (wt ha w), aR (wt hc w), aR (hrec _ _ _ hp w)]
   cases p <;> rfl
theorem xL : ∀ (d : Nat) (t : TypeId) (x y : Value) (b : Bool), eqB P d t x y = some b → ∀ w, (Op.equalIn d t x y).run P w = .ok b w
 | 0, _, _, _, _, h, _ => by simp [eqB] at h
 | d + 1, t, x, y, b, h, w => by
  unfold eqB at h
  split at h
  ·rename_i fs hu
   split at h
   case h_2 => cases h
   rename_i xs ys
   split at h
   ·cases h
   rename_i hs
   unfold Op.equalIn; simp only [bind]
   rw [aR (bT hu w)]
   simp only
   have hp : (program : Sem Program).run P w = .ok P w := rfl
   rw [aR hp]
   simp only [hs]
   simp only [Bool.false_eq_true, if_false]
   rw [← Array.forIn_toList]
   rw [aR (x4 (fun t x y b hb w => xL d t x y b hb w) w fs.toList h)]
   cases b <;> rfl
  ·rename_i len el hu
   split at h
   case h_2 => cases h
   rename_i xs ys
   split at h
   case isFalse => cases h
   rename_i hs
   unfold Op.equalIn; simp only [bind]
   rw [aR (bT hu w)]
   simp only
   rw [aR (lM hs w)]
   rw [Std.Legacy.Range.forIn_eq_forIn_range']
   simp only [Std.Legacy.Range.size, Nat.sub_zero, Nat.add_sub_cancel, Nat.div_one]
   rw [aR (Cg (fun x y b hb w => xL d el x y b hb w) w _ h)]
   cases b <;> rfl
  ·rename_i td hns hu
   exact Ab hu h w
  ·cases h
theorem Gv {t : TypeId} {x y : Operand} {neg : Bool} {yt : TypeId} (ho : o.op = .binOp (if neg then .neq else .eql) t x y yt)
  (hg : ∀ w : World, (eqGuard (if neg then .neq else .eql) t x y (eev e x) (eev e y)).run P w = .ok () w)
  (hb : binOp (if neg then .neq else .eql) t (eev e x) (eev e y) = (if neg then do pure (.bool (!(← Op.equal t (eev e x) (eev e y)))) else do pure (.bool (← Op.equal t (eev e x) (eev e y)))))
  (hh : match P.underlying t with
   | some d => match eqS d (eev e x) (eev e y) with | some b => K (.bool (if neg then !b else b)) | none => False
   | none => False) : ∃ v, qP P o e v ∧ K v := by
 split at hh
 case h_2 => exact hh.elim
 rename_i d hu
 split at hh
 case h_2 => exact hh.elim
 rename_i b he
 refine ⟨_, fun w => ?_, hh⟩
 unfold execOp; rw [ho]; refine ll ?_
 simp only [bind]
 rw [aR (hg w), hb]
 cases neg
 ·simp only [Bool.false_eq_true, if_false, bind]; rw [aR (xF hu he w)]; rfl
 ·simp only [if_true, bind]; rw [aR (xF hu he w)]; rfl
theorem H0 {t el : TypeId} {p q : Option Addr} {K' : Bool → Prop} (hu : P.underlying t = some (.pointer el)) (hi : (P.info? el).isSome = true) (hh : HS p q K') :
  ∃ b, (∀ w : World, (Op.equal t (.pointer p) (.pointer q)).run P w = .ok b w) ∧ K' b := by
 cases q with
 | none => exact ⟨_, fun w => xF hu rfl w, hh⟩
 | some b =>
  cases p with
  | none => exact ⟨_, fun w => xF hu rfl w, hh⟩
  | some a =>
   obtain ⟨rfl, hh⟩ := hh
   refine ⟨true, fun w => ?_, hh⟩
   show (Op.equalIn (9999 + 1) t (.pointer (some a)) (.pointer (some a))).run P w = _
   unfold Op.equalIn; simp only [bind]
   rw [aR (bT hu w)]
   simp only
   rw [aR (lM hi w)]
   by_cases h0 : gK P el = 0
   ·simp [h0, pure, Sem.run]
   ·have hb : (a == a) = true := by simp
    simp [h0, sameAddr, pure, Sem.run]
theorem IJ {t : TypeId} {x y : Operand} {neg : Bool} {yt : TypeId} {p q : Option Addr} (ho : o.op = .binOp (if neg then .neq else .eql) t x y yt) (hx : eev e x = .pointer p) (hy : eev e y = .pointer q)
  (hh : match P.underlying t with
   | some (.pointer el) => if (P.info? el).isSome = true then HS p q fun b => K (.bool (if neg then !b else b)) else False
   | some d => match eqS d (eev e x) (eev e y) with | some b => K (.bool (if neg then !b else b)) | none => False
   | none => False) : ∃ v, qP P o e v ∧ K v := by
 have hg : ∀ w : World, (eqGuard (if neg then .neq else .eql) t x y (eev e x) (eev e y)).run P w = .ok () w := fun w => by rw [hx, hy]; cases neg <;> rfl
 have hb : binOp (if neg then .neq else .eql) t (eev e x) (eev e y) = (if neg then do pure (.bool (!(← Op.equal t (eev e x) (eev e y)))) else do pure (.bool (← Op.equal t (eev e x) (eev e y)))) := by rw [hx, hy]; cases neg <;> rfl
 split at hh
 ·rename_i el hu
  split at hh
  case isFalse => exact hh.elim
  rename_i hi
  obtain ⟨b, hr, hk⟩ := H0 hu hi hh
  refine ⟨_, fun w => ?_, hk⟩
  unfold execOp; rw [ho]; refine ll ?_
  simp only [bind]
  rw [aR (hg w), hb, hx, hy]
  cases neg
  ·simp only [Bool.false_eq_true, if_false, bind]; rw [aR (hr w)]; rfl
  ·simp only [if_true, bind]; rw [aR (hr w)]; rfl
 ·rename_i d hu hd
  exact Gv ho hg hb (by rw [hd]; exact hh)
 ·exact hh.elim
theorem J5 {op : BinOp} {t : TypeId} {x y : Operand} {yt : TypeId} (ho : o.op = .binOp op t x y yt) (hh : Gn P o e op t x y K) : ∃ v, qP P o e v ∧ K v := by
 unfold Gn at hh
 have key : ∀ (v : Value), (eqGuard op t x y (eev e x) (eev e y) = pure ()) → (∀ w : World, (binOp op t (eev e x) (eev e y)).run P w = .ok v w) → qP P o e v := fun v hg hv w => by
  unfold execOp; rw [ho]; refine ll ?_
  simp only [bind]; rw [hg]; exact hv w
 split at hh
 case h_1 k a k' b hx hy =>
  split at hh
  case isFalse => exact hh.elim
  rename_i hk
  refine ⟨_, key _ rfl (fun w => ?_), hh.2⟩
  rw [hx, hy]; subst hk; simp only [binOp, ne_eq, not_true, if_false, Op.intDiv, hh.1]; rfl
 case h_2 k a k' b hx hy =>
  split at hh
  case isFalse => exact hh.elim
  rename_i hk
  refine ⟨_, key _ rfl (fun w => ?_), hh.2⟩
  rw [hx, hy]; subst hk; simp only [binOp, ne_eq, not_true, if_false, Op.intDiv, hh.1]; rfl
 case h_3 k a k' b hx hy =>
  refine ⟨_, key _ rfl (fun w => ?_), hh.2⟩
  have h0 : ¬ b < 0 := by have := hh.1; omega
  rw [hx, hy]; simp only [binOp, Op.shift, h0, if_false]; rfl
 case h_4 k a k' b hx hy =>
  refine ⟨_, key _ rfl (fun w => ?_), hh.2⟩
  have h0 : ¬ b < 0 := by have := hh.1; omega
  rw [hx, hy]; simp only [binOp, Op.shift, h0, if_false]; rfl
 case h_5 a b hx hy =>
  refine ⟨_, key _ rfl (fun w => ?_), hh.2⟩
  have h0 : ¬ ((a.size + b.size : Nat) : Int) > IntKind.i64.max := by have := hh.1; omega
  rw [hx, hy]; simp only [binOp, Op.stringOp, h0, if_false]; rfl
 case h_6 p q hx hy => exact IJ (neg := false) ho hx hy hh
 case h_7 p q hx hy => exact IJ (neg := true) ho hx hy hh
 case h_8 p n c q n' c' hx hy => exact Gv (neg := false) ho (fun w => by rw [hx, hy]; rfl) (by rw [hx, hy]; rfl) hh
 case h_9 p n c q n' c' hx hy => exact Gv (neg := true) ho (fun w => by rw [hx, hy]; rfl) (by rw [hx, hy]; rfl) hh
 case h_10 p q hx hy => exact Gv (neg := false) ho (fun w => by rw [hx, hy]; rfl) (by rw [hx, hy]; rfl) hh
 case h_11 p q hx hy => exact Gv (neg := true) ho (fun w => by rw [hx, hy]; rfl) (by rw [hx, hy]; rfl) hh
 case h_12 xs ys hx hy =>
  split at hh
  case isFalse => exact hh.elim
  rename_i hg
  split at hh
  case h_2 => exact hh.elim
  rename_i b hb
  refine ⟨_, fun w => ?_, hh⟩
  unfold execOp; rw [ho]; refine ll ?_
  have hgr : (eqGuard .eql t x y (eev e x) (eev e y)).run P w = .ok () w := by
   rw [hx, hy]
   show ((if (!P.eqGuardType P.depth t) = true then pure () else _ : Sem Unit)).run P w = _
   rw [hg]; rfl
  simp only [bind]; rw [aR hgr]
  have hbo : binOp .eql t (eev e x) (eev e y) = (do pure (.bool (← Op.equal t (eev e x) (eev e y)))) := by rw [hx, hy]; rfl
  rw [hbo]; simp only [bind]; unfold Op.equal; rw [aR (xL _ _ _ _ _ hb w)]; rfl
 case h_13 xs ys hx hy =>
  split at hh
  case isFalse => exact hh.elim
  rename_i hg
  split at hh
  case h_2 => exact hh.elim
  rename_i b hb
  refine ⟨_, fun w => ?_, hh⟩
  unfold execOp; rw [ho]; refine ll ?_
  have hgr : (eqGuard .neq t x y (eev e x) (eev e y)).run P w = .ok () w := by
   rw [hx, hy]
   show ((if (!P.eqGuardType P.depth t) = true then pure () else _ : Sem Unit)).run P w = _
   rw [hg]; rfl
  simp only [bind]; rw [aR hgr]
  have hbo : binOp .neq t (eev e x) (eev e y) = (do pure (.bool (!(← Op.equal t (eev e x) (eev e y))))) := by rw [hx, hy]; rfl
  rw [hbo]; simp only [bind]; unfold Op.equal; rw [aR (xL _ _ _ _ _ hb w)]; rfl
 case h_14 => exact zX hh
def kK (o : Op) : Bool := match o with | .load .. => true | _ => false
theorem DX (hl : kK o.op = false) (hh : vcQ P o e h K) : ∃ v, qP P o e v ∧ K v := by
 cases ho : o.op with
 | load t x => simp [kK, ho] at hl
 | nilCheck x => exact CJ ho hh
 | index t x i => exact HZ ho hh
 | indexAddr t x i => exact BL ho hh
 | slice t x lo hi mx => exact HT ho hh
 | pick c a b => exact JJ ho hh
 | binOp op t x y yt => unfold vcQ at hh; rw [ho] at hh; exact J5 ho hh
 | extract x i =>
  unfold vcQ at hh; rw [ho] at hh
  simp only at hh
  cases hq : r8 P (execOp (eev e) o) with
  | none => rw [hq] at hh; exact hh.elim
  | some v => rw [hq] at hh; exact ⟨v, fun w => yE _ hq w, Gz hh⟩
 | _ => unfold vcQ at hh; rw [ho] at hh; exact zX hh
theorem wY (hh : vcQ P o e h K) : ∃ v, QOk P o e h v ∧ K v := by
 cases hl : kK o.op with
 | false => obtain ⟨v, hv, hk⟩ := DX hl hh; exact ⟨v, fun w _ => hv w, hk⟩
 | true =>
  cases ho : o.op with
  | load t x => exact Jp ho hh
  | _ => simp [kK, ho] at hl
end Go.Proofs.YtjmfpeiidlpngaaGreatDoor
namespace Go.Proofs.YtjmfpeiidlpngaaGreatDoor
set_option linter.unusedSimpArgs false
set_option linter.unusedVariables false
set_option maxRecDepth 20000
open Go
section
variable [Gh]
def xh (P : Program) (s : Sem Next) (h : aA) (K : Value → aA → Prop) : Prop :=
 ∀ w : World, w.heap = h → Sm w → match s.run P w with
  | .ok (.value v) w' => K v w'.heap ∧ Sm w'
  | .ok (.enter f args) w' => Calls P f args w' fun e w'' => ∃ v, e = .returned v ∧ K v w''.heap ∧ Sm w''
  | _ => False
def aD (P : Program) (f : FuncId) (args : Array Value) (h : aA) (K : Value → aA → Prop) : Prop := xh P (callFunc f args) h K
def lQ (P : Program) (v : Value) (args : Array Value) (h : aA) (K : Value → aA → Prop) : Prop :=
 xh P (do let d ← Deferred.ofValue v args; invoke d.target d.args) h K
def Kd (P : Program) (v : Value) (name : String) (args : Array Value) (h : aA) (K : Value → aA → Prop) : Prop := xh P (callMethod v name args) h K
theorem xh.mono {P : Program} {s : Sem Next} {h : aA} {K K' : Value → aA → Prop} (hc : xh P s h K) (hk : ∀ v h', K v h' → K' v h') : xh P s h K' := by
 intro w hw hs
 have := hc w hw hs
 revert this
 split
 ·exact fun h => ⟨hk _ _ h.1, h.2⟩
 ·exact fun hc => hc.mono fun e w'' ⟨v, he, hv, hs⟩ => ⟨v, he, hk _ _ hv, hs⟩
 ·exact id
theorem aD.mono {P : Program} {f : FuncId} {args : Array Value} {h : aA} {K K' : Value → aA → Prop} (hc : aD P f args h K) (hk : ∀ v h', K v h' → K' v h') : aD P f args h K' :=
 xh.mono hc hk
theorem cF {P : Program} {g : FuncId} {first cap args : Array Value} {h : aA} {K : Value → aA → Prop} :
  lQ P (.func (.func g) first cap) args h K ↔ aD P g (first ++ args ++ cap) h K := Iff.rfl
end
def tyV (P : Program) (t : TypeId) (K : Value → Prop) : Prop :=
 if me P t then exN (kinds P 20 t) fun vs => K (.agg vs.toArray) else ex1 (En P t) K
theorem AP {P : Program} {t : TypeId} {K : Value → Prop} (h : tyV P t K) : ∃ v, K v := by
 unfold tyV at h; split at h
 ·obtain ⟨vs, _, h⟩ := FN h; exact ⟨_, h⟩
 ·exact wC h
def IZ (P : Program) : List TypeId → (List Value → Prop) → Prop
 | [], K => K []
 | t :: ts, K => tyV P t fun v => IZ P ts fun vs => K (v :: vs)
theorem DL {P : Program} : ∀ {ts : List TypeId} {K : List Value → Prop}, IZ P ts K → ∃ vs, K vs
 | [], _, h => ⟨[], h⟩
 | _ :: _, _, h => by obtain ⟨v, h⟩ := AP h; obtain ⟨vs, h⟩ := DL h; exact ⟨v :: vs, h⟩
def asT (P : Program) (t : TypeId) (v : Value) (K : Value → Prop) : Prop :=
 match P.underlying t with
 | some (.tuple ts) => IZ P ts.toList fun vs => v = .tuple vs.toArray ∧ K (.tuple vs.toArray)
 | _ => tyV P t fun v' => v = v' ∧ K v'
theorem qb {P : Program} {t : TypeId} {v : Value} {K : Value → Prop} (h : asT P t v K) : K v := by
 unfold asT at h; split at h
 ·obtain ⟨vs, hv, h2⟩ := DL h; subst hv; exact h2
 ·obtain ⟨v', hv, h2⟩ := AP h; subst hv; exact h2
def Kb (P : Program) (t : TypeId) (ok : Bool) (v : Value) (K : Value → Prop) : Prop :=
 match ok with
 | true => tyV P t fun w => ∃ b : Bool, v = .tuple #[w, .bool b] ∧ K (.tuple #[w, .bool b])
 | false => tyV P t fun w => v = w ∧ K w
theorem Eu {P : Program} {t : TypeId} {ok : Bool} {v : Value} {K : Value → Prop} (h : Kb P t ok v K) : K v := by
 cases ok
 ·obtain ⟨w, hv, h⟩ := AP h; rw [hv]; exact h
 ·obtain ⟨w, b, hv, h⟩ := AP h; rw [hv]; exact h
def GD (s : Bool) (v : Value) (K : Value → Prop) : Prop :=
 (v = .tuple #[.bool false] → K (.tuple #[.bool false])) ∧
  (v ≠ .tuple #[.bool false] → match s with
   | true => ∃ i c : Int, v = .tuple #[.bool true, .int .i64 i, .int .i32 c] ∧ K (.tuple #[.bool true, .int .i64 i, .int .i32 c])
   | false => ∃ k x : Value, v = .tuple #[.bool true, k, x] ∧ K (.tuple #[.bool true, k, x]))
theorem BZ {s : Bool} {v : Value} {K : Value → Prop} (h : GD s v K) : K v := by
 by_cases hv : v = .tuple #[.bool false]
 ·rw [hv]; exact h.1 hv
 ·have h2 := h.2 hv
  cases s with
  | true => obtain ⟨i, c, e, h2⟩ := h2; rw [e]; exact h2
  | false => obtain ⟨i, c, e, h2⟩ := h2; rw [e]; exact h2
def Ej (v : Value) (K : Value → Prop) : Prop := ∃ k x : Value, v = .tuple #[k, x] ∧ K (.tuple #[k, x])
theorem AN {v : Value} {K : Value → Prop} (h : Ej v K) : K v := by
 obtain ⟨k, x, e, h⟩ := h; rw [e]; exact h
def stN (h : aA) (a : Addr) : List Value → Nat → (aA → Prop) → Prop
 | [], _, K => K h
 | v :: vs, i, K => ee v = true ∧ (hcell h (a.add i)).isSome = true ∧ pB h (a.add i) = false ∧ stN (Fu h (a.add i) v) a vs (i + 1) K
def st1 (h : aA) (a : Addr) (v : Value) (K : aA → Prop) : Prop :=
 ee v = true ∧ (hcell h a).isSome = true ∧ pB h a = false ∧ K (Fu h a v)
def nxK (K : Value → aA → Prop) : Next → aA → Prop
 | .value v, h => K v h
 | .skip, h => K undef h
 | _, _ => False
def vcE [Gh] (P : Program) (o : Oper) (e : Env) (h : aA) (K : Value → aA → Prop) : Prop :=
 match o.op with
 | .store t x y =>
  match eev e x with
  | .pointer (some a) =>
   if me P t then
    match eev e y with
    | .agg cs => if cs.toList.length = gK P t then stN h a cs.toList 0 (K undef) else False
    | _ => False
   else if gK P t = 1 then st1 h a (eev e y) (K undef) else False
  | _ => False
 | .call c =>
  match c.callee with
  | .builtin b => wpH P (builtin b c.argTypes o.type (c.args.map fun | .const _ => true | _ => false) (c.args.map (eev e))) (nxK fun v h' => asT P o.type v fun v => K v h') h
  | .value f => lQ P (eev e f) (c.args.map (eev e)) h fun v h' => asT P o.type v fun v => K v h'
  | .invoke r m => Kd P (eev e r) m (c.args.map (eev e)) h fun v h' => asT P o.type v fun v => K v h'
 | .typeAssert x xt t ok => wpH P (Instr.typeAssert (eev e x) xt t ok) (fun v h' => Kb P t ok v fun v => K v h') h
 | .convert s d x => wpH P (convert s d (eev e x)) (fun v h' => asT P o.type v fun v => K v h') h
 | .makeSlice t l c => wpH P (Instr.makeSlice t (eev e l) (eev e c)) (fun v h' => asT P o.type v fun v => K v h') h
 | .lookup t m k ok => wpH P (Instr.lookup t (eev e m) (eev e k) ok) (fun v h' => asT P o.type v fun v => K v h') h
 | .mapUpdate t m k v | .insert t m k v => wpH P (Instr.mapUpdate t (eev e m) (eev e k) (eev e v)) (fun _ h' => K undef h') h
 | .mapEntry t m k => wpH P (Instr.mapEntry t (eev e m) (eev e k)) (fun v h' => asT P o.type v fun v => K v h') h
 | .entryStore t m s v => wpH P (Instr.entryStore t (eev e m) (eev e s) (eev e v)) (fun _ h' => K undef h') h
 | .range t x => wpH P (Instr.range t (eev e x)) (fun v h' => (∃ r, v = .pointer (some ⟨r, 0, none⟩) ∧ K (.pointer (some ⟨r, 0, none⟩)) h')) h
 | .next it s => wpH P (Instr.next (eev e it) s o.type) (fun v h' => GD s v fun v => K v h') h
 | .entry it => wpH P (Instr.entry (eev e it)) (fun v h' => Ej v fun v => K v h') h
 | .alloc _ | .box _ _ | .buildSlice _ _ _ | .makeMap _ _ => wpH P (execOp (eev e) o) (nxK K) h
 | _ => False
section
variable {P : Program}
def J3 [Gh] (N : Nat) (K : Env → List Deferred → aA → Prop) : Act → World → Prop := fun a w => Sz N a w ∧ K (ja a) a.defers w.heap
def got [Gh] (a : Act) (o : Oper) (K : Value → aA → Prop) : Act → World → Prop := fun a' w' => ∃ v, a' = a.put o.dst v ∧ K v w'.heap ∧ Sm w'
theorem iY [Gh] {o : Oper} {K : Value → aA → Prop} {Q : Exit → Act → World → Prop} {s : Sem Next} {a : Act} {w : World}
  (hs : Sm w) (h : wpH P s (nxK K) w.heap) : o.upon P a (got a o K) Q (s.run P w) := by
 obtain ⟨nx, w', hr, hk, g1, g2, g3⟩ := H1 s _ w h
 have hs' : Sm w' := ⟨g1.trans hs.1, g2.trans hs.2.1, g3.trans hs.2.2⟩
 rw [hr]
 cases nx <;> first | exact ⟨_, rfl, hk, hs'⟩ | exact hk.elim
theorem Gf {a : Addr} : ∀ {vs : List Value} {i : Nat} {h : aA} {K : aA → Prop}, stN h a vs i K → wpH P (storeCells a vs i) (fun _ h' => K h') h
 | [], _, _, _, hh => hh
 | v :: vs, i, h, K, hh => by
  obtain ⟨h1, h2, h3, hh⟩ := hh
  unfold storeCells
  exact ⟨h1, h2, h3, Gf hh⟩
theorem bP {t : TypeId} {d : TypeDesc} (hu : P.underlying t = some d) {K : TypeDesc → aA → Prop} {h : aA} (hk : K d h) : wpH P (underlying t) K h := by
 unfold underlying program; simp only [bind, Sem.bind, wpH, hu]; exact hk
theorem j8 {t : TypeId} {d : TypeInfo} (hu : P.info? t = some d) {K : TypeInfo → aA → Prop} {h : aA} (hk : K d h) : wpH P (typeInfo t) K h := by
 unfold typeInfo program; simp only [bind, Sem.bind, wpH, hu]; exact hk
theorem rQ {t : TypeId} (hu : (P.info? t).isSome) {K : Nat → aA → Prop} {h : aA} (hk : K (gK P t) h) : wpH P (sizeOf t) K h := by
 obtain ⟨i, hi⟩ := Option.isSome_iff_exists.1 hu
 unfold sizeOf; simp only [bind]; rw [aO]; refine j8 hi ?_
 have : gK P t = i.size := by simp [gK, hi]
 rw [this] at hk; exact hk
theorem CF {t : TypeId} (h : gK P t ≠ 0) : (P.info? t).isSome := by
 unfold gK at h
 cases hi : P.info? t with
 | none => simp [hi] at h
 | some i => rfl
theorem EY [Gh] {o : Oper} {e : Env} {K : Value → aA → Prop} {Q : Exit → Act → World → Prop} {a : Act} {w : World}
  (hs : Sm w) (hx : execOp a.eval o = execOp (eev e) o) (hh : vcE P o e w.heap K) :
  o.upon P a (got a o K) Q ((execOp a.eval o).run P w) := by
 rw [hx]
 have bindV : ∀ {s : Sem Value} {K' : Value → aA → Prop}, wpH P s K' w.heap → wpH P (do pure (Next.value (← s)) : Sem Next) (nxK K') w.heap := fun h => by
  simp only [bind]; rw [aO]; exact h
 have bindU : ∀ {s : Sem Unit} {K' : Value → aA → Prop}, wpH P s (fun _ h' => K' undef h') w.heap → wpH P (do s; pure Next.skip : Sem Next) (nxK K') w.heap := fun h => by
  simp only [bind]; rw [aO]; exact h
 have callK : ∀ {s : Sem Next}, xh P s w.heap (fun v h' => asT P o.type v fun v => K v h') → o.upon P a (got a o K) Q (s.run P w) := by
  intro s hc
  have hc := hc w rfl hs
  revert hc
  cases hr : s.run P w with
  | halt x w' => intro hc; exact hc.elim
  | ok nx w' =>
   cases nx <;> intro hc <;> first | exact hc.elim | skip
   case value v => exact ⟨_, rfl, qb hc.1, hc.2⟩
   case enter f args =>
    refine Calls.mono hc fun e w'' hx => ?_
    obtain ⟨v, rfl, hv, hs2⟩ := hx
    exact ⟨_, rfl, qb hv, hs2⟩
 unfold vcE at hh
 split at hh
 case h_1 t x y ho =>
  have ex : execOp (eev e) o = (do Instr.storeAt t (eev e x) (eev e y); pure Next.skip) := by unfold execOp; rw [ho]
  rw [ex]
  refine iY hs (bindU ?_)
  split at hh
  case h_2 => exact hh.elim
  rename_i ad hxx
  rw [hxx]
  unfold Instr.storeAt Instr.sureAddr storeVar
  simp only [bind, pure, Sem.bind]
  split at hh
  case isTrue hag =>
   split at hh
   case h_2 => exact hh.elim
   rename_i cs hy
   split at hh
   case isFalse => exact hh.elim
   rename_i hl
   rw [aO]
   have hinfo : (P.info? t).isSome := by
    unfold me at hag
    cases hq : P.underlying t with
    | none => simp [hq] at hag
    | some d => exact j6 (by rw [hq]; rfl)
   refine rQ hinfo ?_
   rw [hy]
   have hl' : cs.size = gK P t := by simpa using hl
   simp only [Value.cells, hl', ne_eq, not_true, if_false]
   exact Gf hh
  case isFalse hag =>
   split at hh
   case isFalse => exact hh.elim
   rename_i h1
   rw [aO]
   refine rQ (CF (by omega)) ?_
   obtain ⟨hc, hs, hf, hk⟩ := hh
   have hcells : (eev e y).cells = #[eev e y] := by
    cases hy : eev e y <;> first | rfl | (rw [hy] at hc; simp [ee] at hc)
   rw [hcells, h1]
   simp only [List.size_toArray, List.length_cons, List.length_nil, ne_eq, not_true, if_false]
   exact ⟨hc, hs, hf, hk⟩
 case h_2 c ho =>
  have ex : execOp (eev e) o = (do let d ← resolve (eev e) c o.type; invoke d.target d.args) := by unfold execOp; rw [ho]
  rw [ex]
  split at hh
  case h_1 b hc =>
   have : (do let d ← resolve (eev e) c o.type; invoke d.target d.args) = builtin b c.argTypes o.type (c.args.map fun | .const _ => true | _ => false) (c.args.map (eev e)) := by
    unfold resolve; simp only [hc]; rfl
   rw [this]
   refine iY hs (lJ _ (fun nx h' hk => ?_) hh)
   revert hk
   cases nx <;> simp only [nxK] <;> intro hk <;> first | exact qb hk | exact hk
  case h_2 f hc =>
   have ex2 : (do let d ← resolve (eev e) c o.type; invoke d.target d.args) = (do let d ← Deferred.ofValue (eev e f) (c.args.map (eev e)); invoke d.target d.args) := by
    unfold resolve; simp only [hc]
   rw [ex2]
   exact callK hh
  case h_3 r m hc =>
   have ex2 : (do let d ← resolve (eev e) c o.type; invoke d.target d.args) = callMethod (eev e r) m (c.args.map (eev e)) := by
    have e1 : (#[eev e r] ++ c.args.map (eev e))[0]? = some (eev e r) := by
     rw [Array.getElem?_append_left (by simp)]; rfl
    have e2 : (#[eev e r] ++ c.args.map (eev e)).extract 1 (#[eev e r] ++ c.args.map (eev e)).size = c.args.map (eev e) := by
     apply Array.ext'; simp [List.take_of_length_le]
    unfold resolve; simp only [hc]
    show invoke (.fn (.method m) #[]) (#[eev e r] ++ c.args.map (eev e)) = _
    unfold invoke
    rw [e1, e2]
   rw [ex2]
   exact callK hh
 case h_3 x xt t ok ho =>
  have ex : execOp (eev e) o = (do pure (.value (← Instr.typeAssert (eev e x) xt t ok))) := by unfold execOp; rw [ho]
  rw [ex]; exact iY hs (bindV (lJ _ (fun v h' hk => Eu hk) hh))
 case h_4 s d x ho =>
  have ex : execOp (eev e) o = (do pure (.value (← convert s d (eev e x)))) := by unfold execOp; rw [ho]
  rw [ex]; exact iY hs (bindV (lJ _ (fun v h' hk => qb hk) hh))
 case h_5 t l c ho =>
  have ex : execOp (eev e) o = (do pure (.value (← Instr.makeSlice t (eev e l) (eev e c)))) := by unfold execOp; rw [ho]
  rw [ex]; exact iY hs (bindV (lJ _ (fun v h' hk => qb hk) hh))
 case h_6 t m k ok ho =>
  have ex : execOp (eev e) o = (do pure (.value (← Instr.lookup t (eev e m) (eev e k) ok))) := by unfold execOp; rw [ho]
  rw [ex]; exact iY hs (bindV (lJ _ (fun v h' hk => qb hk) hh))
 case h_7 t m k v ho =>
  have ex : execOp (eev e) o = (do Instr.mapUpdate t (eev e m) (eev e k) (eev e v); pure .skip) := by unfold execOp; rw [ho]
  rw [ex]; exact iY hs (bindU hh)
 case h_8 t m k v ho =>
  have ex : execOp (eev e) o = (do Instr.mapUpdate t (eev e m) (eev e k) (eev e v); pure .skip) := by unfold execOp; rw [ho]
  rw [ex]; exact iY hs (bindU hh)
 case h_9 t m k ho =>
  have ex : execOp (eev e) o = (do pure (.value (← Instr.mapEntry t (eev e m) (eev e k)))) := by unfold execOp; rw [ho]
  rw [ex]; exact iY hs (bindV (lJ _ (fun v h' hk => qb hk) hh))
 case h_10 t m s v ho =>
  have ex : execOp (eev e) o = (do Instr.entryStore t (eev e m) (eev e s) (eev e v); pure .skip) := by unfold execOp; rw [ho]
  rw [ex]; exact iY hs (bindU hh)
 case h_11 t x ho =>
  have ex : execOp (eev e) o = (do pure (.value (← Instr.range t (eev e x)))) := by unfold execOp; rw [ho]
  rw [ex]; exact iY hs (bindV (lJ _ (fun v h' hk => by obtain ⟨r, rfl, hk⟩ := hk; exact hk) hh))
 case h_12 it s ho =>
  have ex : execOp (eev e) o = (do pure (.value (← Instr.next (eev e it) s o.type))) := by unfold execOp; rw [ho]
  rw [ex]; exact iY hs (bindV (lJ _ (fun v h' hk => BZ hk) hh))
 case h_13 it ho =>
  have ex : execOp (eev e) o = (do pure (.value (← Instr.entry (eev e it)))) := by unfold execOp; rw [ho]
  rw [ex]; exact iY hs (bindV (lJ _ (fun v h' hk => AN hk) hh))
 all_goals first | exact iY hs hh | exact hh.elim
end
end Go.Proofs.YtjmfpeiidlpngaaGreatDoor
namespace Go.Proofs.YtjmfpeiidlpngaaGreatDoor
set_option linter.unusedSimpArgs false
set_option linter.unusedVariables false
set_option maxRecDepth 20000
open Go
def DN (e : Env) (c : Call) : Option Deferred :=
 match c.callee with
 | .value f =>
  match eev e f with
  | .func fn first cap => some { target := .fn fn cap, args := first ++ c.args.map (eev e) }
  | _ => none
 | _ => none
def uZ [Gh] (P : Program) (o : Oper) (e : Env) (ds : List Deferred) (h : aA) (K : Value → List Deferred → aA → Prop) : Prop :=
 match o.op with
 | .defer c =>
  match DN e c with
  | some d => K undef (d :: ds) h
  | none => False
 | _ => if su P o.op = true then vcQ P o e h fun v => K v ds h else vcE P o e h fun v h' => K v ds h'
def Kz [Gh] (P : Program) (N : Nat) (o : Oper) (e : Env) (ds : List Deferred) (h : aA) (K : Env → List Deferred → aA → Prop) : Prop :=
 uZ P o e ds h fun v ds' h' => K (pA N e o.dst v) ds' h'
def vcG (ops : Array Oper) (o : Oper) (e : Env) (run skip : Env → Prop) : Prop :=
 match o.guard with
 | none => run e
 | some (g, want) =>
  match (ops[g]?).bind (·.dst) with
  | some d =>
   match e d with
   | .bool b => if b = true then (if want = true then run (upd e d (.bool true)) else skip (upd e d (.bool true))) else (if want = true then skip (upd e d (.bool false)) else run (upd e d (.bool false)))
   | _ => skip e
  | none => skip e
def Aj [Gh] (P : Program) (N : Nat) (ops : Array Oper) (K : Env → List Deferred → aA → Prop) : List Nat → Env → List Deferred → aA → Prop
 | [], e, ds, h => K e ds h
 | i :: is, e, ds, h =>
  match ops[i]? with
  | none => False
  | some o => vcG ops o e (fun e => Kz P N o e ds h fun e' ds' h' => Aj P N ops K is e' ds' h') (fun e => Aj P N ops K is (pA N e o.dst undef) ds h)
section
variable {P : Program} {Q : Exit → Act → World → Prop}
theorem yY (ops : Array Oper) (a : Act) (g : Nat) : yielded ops a.tmps g =
  match (ops[g]?).bind (·.dst) with
  | some d => (match ja a d with | .bool b => some b | _ => none)
  | none => none := by
 unfold yielded
 cases hd : (ops[g]?).bind (·.dst) with
 | none => rfl
 | some d =>
  simp only [Option.bind_some, ja, Array.getD_eq_getD_getElem?]
  cases a.tmps[d]? with
  | none => rfl
  | some v => cases v <;> rfl
theorem Fl {ops : Array Oper} {o : Oper} {a : Act} {run skip : Env → Prop} (hh : vcG ops o (ja a) run skip) :
  (Region.wanted o (yielded ops a.tmps) = true ∧ run (ja a)) ∨ (Region.wanted o (yielded ops a.tmps) = false ∧ skip (ja a)) := by
 unfold vcG at hh
 unfold Region.wanted
 cases hg : o.guard with
 | none => rw [hg] at hh; exact .inl ⟨rfl, hh⟩
 | some gw =>
  obtain ⟨g, want⟩ := gw
  rw [hg] at hh
  simp only at hh ⊢
  rw [yY]
  cases hd : (ops[g]?).bind (·.dst) with
  | none => rw [hd] at hh; exact .inr ⟨by simp, hh⟩
  | some d =>
   rw [hd] at hh
   simp only at hh ⊢
   split at hh
   ·rename_i b hb
    cases b
    ·simp only [Bool.false_eq_true, if_false] at hh
     rw [tU hb] at hh
     cases want
     ·exact .inl ⟨by simp, by simpa using hh⟩
     ·exact .inr ⟨by simp, by simpa using hh⟩
    ·simp only [if_true] at hh
     rw [tU hb] at hh
     cases want
     ·exact .inr ⟨by simp, by simpa using hh⟩
     ·exact .inl ⟨by simp, by simpa using hh⟩
   ·rename_i hb
    refine .inr ⟨?_, hh⟩
    cases hv : ja a d with
    | bool b => exact absurd hv (hb b)
    | _ => rfl
def JS [Gh] (a : Act) (o : Oper) (K : Value → List Deferred → aA → Prop) : Act → World → Prop := fun a' w' => ∃ v ds', a' = ({ a with defers := ds' } : Act).put o.dst v ∧ K v ds' w'.heap ∧ Sm w'
theorem w8 [Gh] {o : Oper} {e : Env} {K : Value → List Deferred → aA → Prop} {a : Act} {w : World}
  (hs : Sm w) (hx : execOp a.eval o = execOp (eev e) o) (hh : uZ P o e a.defers w.heap K) : o.wp P a w (JS a o K) Q := by
 unfold Oper.wp
 have quiet : (if su P o.op = true then vcQ P o e w.heap fun v => K v a.defers w.heap else vcE P o e w.heap fun v h' => K v a.defers h') →
   o.upon P a (JS a o K) Q ((execOp a.eval o).run P w) := fun hh => by
  split at hh
  ·obtain ⟨v, hv, hk⟩ := wY hh
   rw [hx, hv w rfl]
   exact ⟨v, a.defers, rfl, hk, hs⟩
  ·have h1 := EY (Q := Q) hs hx hh
   have : ∀ n w', o.upon P a (got a o fun v h' => K v a.defers h') Q (.ok n w') → o.upon P a (JS a o K) Q (.ok n w') := fun n w' hu => by
    cases n <;> simp only [Oper.upon] at hu ⊢ <;> first
     | (obtain ⟨v, hv, hk⟩ := hu; exact ⟨v, a.defers, hv, hk⟩)
     | (refine Calls.mono hu fun e w'' he => ?_; cases e <;> first | (obtain ⟨v, hv, hk⟩ := he; exact ⟨v, a.defers, hv, hk⟩) | exact he)
     | (refine Rows.mono hu fun u w'' he => ?_; obtain ⟨v, hv, hk⟩ := he; exact ⟨v, a.defers, hv, hk⟩)
     | (obtain ⟨v, hv, hk⟩ := hu; exact ⟨v, _, hv, hk⟩)
   revert h1
   cases (execOp a.eval o).run P w with
   | ok n w' => exact this n w'
   | halt x w' => intro h1; cases x <;> exact h1
 unfold uZ at hh
 split at hh
 case h_1 c ho =>
  split at hh
  case h_2 => exact hh.elim
  rename_i d hd
  have : (execOp a.eval o).run P w = .ok (.defer d) w := by
   rw [hx]
   unfold execOp; rw [ho]
   unfold DN at hd
   simp only [resolve]
   split at hd
   case h_2 => simp at hd
   rename_i f hf
   split at hd
   case h_2 => simp at hd
   rename_i fn first cap hv
   simp only [Option.some.injEq] at hd
   subst hd
   simp only [hf, hv, Deferred.ofValue]
   rfl
  rw [this]
  simp only [Oper.upon]
  exact ⟨undef, _, rfl, hh, hs⟩
 case h_2 => exact quiet hh
end
abbrev pP := Exit → Env → List Deferred → aA → Prop
def Gm [Gh] (N : Nat) (Q : pP) : Exit → Act → World → Prop := fun x a w => Sz N a w ∧ Q x (ja a) a.defers w.heap
def EWP [Gh] (P : Program) (N : Nat) (c : Code) (Q : pP) (e : Env) (ds : List Deferred) (h : aA) : Prop :=
 ∀ (a : Act) (w : World), Sz N a w → ja a = e → a.defers = ds → w.heap = h → c.wp P (Gm N Q) a w
section
variable {P : Program} {N : Nat} {Q : pP} {e : Env} {ds : List Deferred} {h : aA}
theorem EWP.mono [Gh] {c : Code} {Q' : pP} (hh : EWP P N c Q e ds h) (hq : ∀ x e ds h, Q x e ds h → Q' x e ds h) : EWP P N c Q' e ds h :=
 fun a w h1 h2 h3 h4 => wp_mono (hh a w h1 h2 h3 h4) fun x a w ⟨hn, hx⟩ => ⟨hn, hq _ _ _ _ hx⟩
def Jv [Gh] (K : Env → List Deferred → aA → Prop) (Q : pP) : pP
 | .normal, e, ds, h => K e ds h
 | x, e, ds, h => Q x e ds h
theorem EWP.seq [Gh] {x y : Code} (K : Env → List Deferred → aA → Prop) (hx : EWP P N x (Jv K Q) e ds h) (hy : ∀ e ds h, K e ds h → EWP P N y Q e ds h) :
  EWP P N (.seq x y) Q e ds h := by
 intro a w h1 h2 h3 h4
 refine wp_seq (wp_mono (hx a w h1 h2 h3 h4) ?_)
 rintro ex a' w' ⟨hN, hk⟩
 cases ex with
 | normal => exact hy _ _ _ hk a' w' hN rfl rfl rfl
 | _ => exact ⟨hN, hk⟩
theorem EWP.skip [Gh] (hh : Q .normal e ds h) : EWP P N .skip Q e ds h := by
 rintro a w hN rfl rfl rfl; exact wp_skip ⟨hN, hh⟩
theorem EWP.ret [Gh] (hh : Q .ret e ds h) : EWP P N .ret Q e ds h := by
 rintro a w hN rfl rfl rfl; exact wp_ret ⟨hN, hh⟩
theorem EWP.exit [Gh] {id : Nat} (hh : Q (.exit id) e ds h) : EWP P N (.exit id) Q e ds h := by
 rintro a w hN rfl rfl rfl; exact wp_exit ⟨hN, hh⟩
theorem EWP.goto [Gh] {l : Nat} (hh : Q (.goto l) e ds h) : EWP P N (.goto l) Q e ds h := by
 rintro a w hN rfl rfl rfl; exact wp_goto ⟨hN, hh⟩
theorem EWP.cond [Gh] {c : Operand} {x y : Code} {t : Bool} (hc : eev e c = .bool t) (ht : t = true → EWP P N x Q e ds h) (hf : t = false → EWP P N y Q e ds h) :
  EWP P N (.cond c x y) Q e ds h := by
 rintro a w hN rfl rfl rfl
 refine wp_cond_split (t := t) (by rw [vZ]; exact hc) (fun h => ht h a w hN rfl rfl rfl) (fun h => hf h a w hN rfl rfl rfl)
def Dg [Gh] (id : Nat) (Q : pP) : pP
 | .exit id', e, ds, h => if id' = id then Q .normal e ds h else Q (.exit id') e ds h
 | x, e, ds, h => Q x e ds h
theorem EWP.block [Gh] {id : Nat} {c : Code} (hh : EWP P N c (Dg id Q) e ds h) : EWP P N (.block id c) Q e ds h := by
 rintro a w hN rfl rfl rfl
 refine wp_block (wp_mono (hh a w hN rfl rfl rfl) ?_)
 rintro ex a' w' ⟨hN', hk⟩
 cases ex with
 | exit id' =>
  simp only [Dg] at hk
  simp only [Exit.inBlock]
  split at hk
  ·rename_i hi; rw [if_pos hi]; exact ⟨hN', hk⟩
  ·rename_i hi; rw [if_neg hi]; exact ⟨hN', hk⟩
 | _ => exact ⟨hN', hk⟩
theorem Ay {p : Nat → Prop} (h : ∃ n, p n) : ∃ n, p n ∧ ∀ m, p m → n ≤ m := by
 obtain ⟨n, hn⟩ := h
 induction n using Nat.strongRecOn with
 | _ n ih =>
  by_cases hx : ∃ m, m < n ∧ p m
  ·obtain ⟨m, hm, hp⟩ := hx; exact ih m hm hp
  ·exact ⟨n, hn, fun m hm => by
    rcases Nat.lt_or_ge m n with h | h
    ·exact absurd ⟨m, h, hm⟩ hx
    ·exact h⟩
theorem EWP.loop [Gh] {σ : Type} {c : Code} (R : Env → List Deferred → σ → Prop) (J : σ → aA → Prop) (μ : σ → aA → Nat) (s : σ) (hR : R e ds s) (hJ : J s h)
  (round : ∀ e ds s h, R e ds s → J s h → EWP P N c (Jv (fun e' ds' h' => ∃ s', R e' ds' s' ∧ J s' h' ∧ μ s' h' < μ s h) Q) e ds h) :
  EWP P N (.loop c) Q e ds h := by
 rintro a w hN rfl rfl rfl
 classical
 let I : Act → World → Prop := fun a w => Sz N a w ∧ ∃ n s, R (ja a) a.defers s ∧ J s w.heap ∧ μ s w.heap = n
 let m : Act → World → Nat := fun a w => if hx : ∃ n s, R (ja a) a.defers s ∧ J s w.heap ∧ μ s w.heap = n then Classical.choose (Ay hx) else 0
 refine wp_loop I m ⟨hN, _, s, hR, hJ, rfl⟩ ?_
 rintro a w ⟨hN, hx⟩
 have hm : m a w = Classical.choose (Ay hx) := dif_pos hx
 obtain ⟨s, hR, hJ, hμ⟩ := (Classical.choose_spec (Ay hx)).1
 refine wp_mono (round _ _ s _ hR hJ a w hN rfl rfl rfl) ?_
 rintro ex a' w' ⟨hN', hk⟩
 cases ex with
 | normal =>
  obtain ⟨s', hR', hJ', hlt⟩ := hk
  have hx' : ∃ n s, R (ja a') a'.defers s ∧ J s w'.heap ∧ μ s w'.heap = n := ⟨_, s', hR', hJ', rfl⟩
  refine ⟨⟨hN', hx'⟩, ?_⟩
  have hm' : m a' w' = Classical.choose (Ay hx') := dif_pos hx'
  have hle : Classical.choose (Ay hx') ≤ μ s' w'.heap := (Classical.choose_spec (Ay hx')).2 _ ⟨s', hR', hJ', rfl⟩
  omega
 | _ => exact ⟨hN', hk⟩
end
end Go.Proofs.YtjmfpeiidlpngaaGreatDoor
namespace Go.Proofs.YtjmfpeiidlpngaaGreatDoor
set_option linter.unusedSimpArgs false
set_option linter.unusedVariables false
set_option maxRecDepth 20000
open Go
theorem u7 {α : Type} (s : Sem α) : s.bind .pure = s := by
 induction s <;> simp only [Sem.bind] <;> (try congr) <;> (try funext x) <;> (try apply_assumption)
theorem mA {α β γ : Type} (s : Sem α) (f : α → Sem β) (g : β → Sem γ) : (s.bind f).bind g = s.bind fun a => (f a).bind g := by
 induction s <;> simp only [Sem.bind] <;> (try congr) <;> (try funext x) <;> (try apply_assumption)
instance : LawfulMonad Sem where
 map_const := rfl
 id_map := fun x => u7 x
 seqLeft_eq := fun x y => by
  show x.bind (fun a => y.bind fun _ => .pure a) = (x.bind fun a => .pure (Function.const _ a)).bind fun f => y.bind fun b => .pure (f b)
  rw [mA]; rfl
 seqRight_eq := fun x y => by
  show x.bind (fun _ => y) = (x.bind fun a => .pure (Function.const _ id a)).bind fun f => y.bind fun b => .pure (f b)
  rw [mA]; simp only [Sem.bind]; congr; funext a; exact (u7 y).symm
 pure_seq := fun _ _ => rfl
 bind_pure_comp := fun _ _ => rfl
 bind_map := fun _ _ => rfl
 pure_bind := fun _ _ => rfl
 bind_assoc := fun x f g => mA x f g
def HJ (tmps : Array Value) : ResultVar → Sem Value
 | .tmp t => pure (tmps.getD t undef)
 | .cell a t => do loadVar t (← asAddr (tmps.getD a undef))
def Dq (P : Program) (e : Env) (h : aA) : List ResultVar → (List Value → Prop) → Prop
 | [], K => K []
 | .tmp t :: rs, K => Dq P e h rs fun vs => K (e t :: vs)
 | .cell c t :: rs, K =>
  match e c with
  | .pointer (some a) =>
   if me P t then (if (kinds P 20 t).length = gK P t then ldN h a (kinds P 20 t) 0 fun vs => Dq P e h rs fun ws => K (.agg vs.toArray :: ws) else False)
   else if (P.underlying t).isSome then ld1 h a (En P t) fun v => Dq P e h rs fun ws => K (v :: ws) else False
  | _ => False
def Jk : List Value → Value
 | [v] => v
 | vs => .tuple vs.toArray
def GP (P : Program) (fn : Func) (e : Env) (h : aA) (K : Value → Prop) : Prop := Dq P e h fn.results.toList fun vs => K (Jk vs)
section
variable {P : Program} {N : Nat}
theorem B5 {t : TypeId} {a : Addr} {w : World} {vs : List Value} (hag : me P t = true) (hsz : (kinds P 20 t).length = gK P t) (hl : vs.length = (kinds P 20 t).length)
  (hc : ∀ j (hj : j < vs.length), hcell w.heap (a.add (0 + j)) = some vs[j]) : (loadVar t a).run P w = .ok (.agg vs.toArray) w := by
 have hu : (P.underlying t).isSome := by
  unfold me at hag; cases hq : P.underlying t with
  | none => simp [hq] at hag
  | some d => rfl
 unfold loadVar; simp only [bind]
 rw [aR (pE hu w), hag]
 simp only [if_true]
 rw [aR (lM (j6 hu) w)]
 rw [aR (uX (hl.trans hsz) hc)]; rfl
theorem Cw {t : TypeId} {a : Addr} {w : World} {v : Value} (hag : me P t ≠ true) (hu : (P.underlying t).isSome) (hc : hcell w.heap a = some v) : (loadVar t a).run P w = .ok v w := by
 unfold loadVar; simp only [bind]
 rw [aR (pE hu w)]
 simp only [hag]
 exact xQ hc
theorem q8 {α β : Type} {f : α → Sem β} {x : α} {xs : List α} {w : World} {v : β} {vs : List β} (h1 : (f x).run P w = .ok v w) (h2 : (xs.mapM f).run P w = .ok vs w) :
  ((x :: xs).mapM f).run P w = .ok (v :: vs) w := by
 rw [List.mapM_cons]; simp only [bind]
 rw [aR h1, aR h2]; rfl
theorem wa {e : Env} {w : World} (tmps : Array Value) (he : (fun t => tmps.getD t undef) = e) : ∀ {rs : List ResultVar} {K : List Value → Prop}, Dq P e w.heap rs K →
  ∃ vs, (rs.mapM (HJ tmps)).run P w = .ok vs w ∧ K vs
 | [], K, hh => ⟨[], rfl, hh⟩
 | .tmp t :: rs, K, hh => by
  unfold Dq at hh
  obtain ⟨vs, hr, hk⟩ := wa tmps he hh
  exact ⟨e t :: vs, q8 (by rw [← he]; rfl) hr, hk⟩
 | .cell c t :: rs, K, hh => by
  unfold Dq at hh
  split at hh
  case h_2 => exact hh.elim
  rename_i a hc
  have hc' : tmps.getD c undef = .pointer (some a) := by rw [← he] at hc; exact hc
  split at hh
  ·rename_i hag
   split at hh
   case isFalse => exact hh.elim
   rename_i hsz
   obtain ⟨ws, hl, hcs, hh⟩ := Do hh
   obtain ⟨vs, hr, hk⟩ := wa tmps he hh
   refine ⟨_, q8 ?_ hr, hk⟩
   simp only [HJ, bind, hc', asAddr, pure, Sem.bind]
   exact B5 hag hsz hl hcs
  ·rename_i hag
   split at hh
   case isFalse => exact hh.elim
   rename_i hu
   obtain ⟨v, hcv, hh⟩ := wC hh
   obtain ⟨vs, hr, hk⟩ := wa tmps he hh
   refine ⟨_, q8 ?_ hr, hk⟩
   simp only [HJ, bind, hc', asAddr, pure, Sem.bind]
   exact Cw hag hu hcv
theorem BH {fn : Func} {a : Act} {w : World} {K : Value → Prop} (hh : GP P fn (ja a) w.heap K) : ∃ v, (results fn a.tmps).run P w = .ok v w ∧ K v := by
 obtain ⟨vs, hr, hk⟩ := wa a.tmps rfl hh
 refine ⟨Jk vs, ?_, hk⟩
 have e1 : results fn a.tmps = (do let vs ← fn.results.mapM (HJ a.tmps); pure (if h : vs.size = 1 then vs[0] else .tuple vs)) := rfl
 rw [e1, Array.mapM_eq_mapM_toList]
 simp only [bind, Functor.map, mA]
 rw [aR hr]
 match vs with
 | [] => rfl
 | [v] => rfl
 | v :: u :: vs =>
  simp only [Function.comp, Sem.bind, pure, Sem.run, Jk]
  rw [dif_neg (by simp)]
def Dd (args : Array Value) : Env := fun t => args.getD t undef
theorem Dj (args : Array Value) (N : Nat) : ja { tmps := args ++ Array.replicate (N - args.size) undef, defers := [] } = Dd args := by
 funext t
 simp only [ja, Dd, Array.getD_eq_getD_getElem?]
 by_cases ht : t < args.size
 ·rw [Array.getElem?_append_left ht]
 ·rw [Array.getElem?_append_right (by omega), Array.getElem?_eq_none (xs := args) (by omega)]
  by_cases h2 : t - args.size < N - args.size
  ·simp [h2]
  ·simp [h2]
def FA (P : Program) (fn : Func) (K : Value → aA → Prop) : pP
 | .normal, e, ds, h => ds = [] ∧ GP P fn e h fun v => K v h
 | .ret, e, ds, h => ds = [] ∧ GP P fn e h fun v => K v h
 | _, _, _, _ => False
variable [Gh]
theorem Ci {fn : Func} {K : Value → aA → Prop} {R : Ending → World → Prop} (hR : ∀ v w, K v w.heap → Sm w → R (.returned v) w) (x : Exit) (a : Act) (w : World)
  (hh : Gm N (FA P fn K) x a w) : bodyPost P fn R x a w := by
 obtain ⟨hz, hk⟩ := hh
 cases x with
 | normal => obtain ⟨hd, hr⟩ := hk; obtain ⟨v, hv, hk⟩ := BH hr; exact ⟨hd, v, hv, hR _ _ hk hz.2⟩
 | ret => obtain ⟨hd, hr⟩ := hk; obtain ⟨v, hv, hk⟩ := BH hr; exact ⟨hd, v, hv, hR _ _ hk hz.2⟩
 | _ => exact hk.elim
theorem Iz {c : Code} {Q : pP} {args : Array Value} {w : World} (hsm : Sm w) (hs : args.size ≤ N) (hh : EWP P N c Q (Dd args) [] w.heap) :
  c.wp P (Gm N Q) { tmps := args ++ Array.replicate (N - args.size) undef, defers := [] } w :=
 hh _ w ⟨by simp; omega, hsm⟩ (Dj args N) rfl rfl
theorem GO {f : FuncId} {fn : Func} {c : Code} {args : Array Value} {h : aA} {K : Value → aA → Prop} (hf : P.funcs[f]? = some fn) (hb : fn.body = some c) (hN : fn.ntmps = N)
  (hc : ∀ w, (callFunc f args).run P w = .ok (.enter f args) w) (hs : args.size ≤ N) (hh : EWP P N c (FA P fn K) (Dd args) [] h) : aD P f args h K := by
 rintro w rfl hsm
 rw [hc w]
 subst hN
 exact calls_of_wp hf hb (wp_mono (Iz hsm hs hh) fun x a w hx => Ci (fun v w hv hs => ⟨v, rfl, hv, hs⟩) x a w hx)
end
end Go.Proofs.YtjmfpeiidlpngaaGreatDoor
namespace Go.Proofs.YtjmfpeiidlpngaaGreatDoor
set_option linter.unusedSimpArgs false
set_option linter.unusedVariables false
set_option maxRecDepth 20000
open Go
theorem Ku {a b : Prop} (h : a = b) (hb : b) : a := h ▸ hb
def ldI (h : aA) (a : Addr) (k : IntKind) (K : Int → Prop) : Prop := ∃ n : Int, hcell h a = some (.int k n) ∧ K n
def ldB (h : aA) (a : Addr) (K : Bool → Prop) : Prop := ∃ b : Bool, hcell h a = some (.bool b) ∧ K b
def ldS (h : aA) (a : Addr) (K : ByteArray → Prop) : Prop := ∃ s : ByteArray, hcell h a = some (.string s) ∧ K s
def ldP (h : aA) (a : Addr) (K : Option Addr → Prop) : Prop := ∃ p : Option Addr, hcell h a = some (.pointer p) ∧ K p
def ldL (h : aA) (a : Addr) (K : Option Addr → Nat → Nat → Prop) : Prop := ∃ (p : Option Addr) (n c : Nat), hcell h a = some (.slice p n c) ∧ K p n c
def ldM (h : aA) (a : Addr) (K : Option Nat → Prop) : Prop := ∃ r : Option Nat, hcell h a = some (.map r) ∧ K r
def ldV (h : aA) (a : Addr) (K : Value → Prop) : Prop := ∃ v : Value, hcell h a = some v ∧ K v
def alV (h : aA) (o : Obj) (K : Addr → aA → Prop) : Prop := K ⟨h.size, 0, none⟩ (h.push o)
def CU (h : aA) (K : Nat → aA → Prop) : Prop := K h.size (h.push (.map #[] 0))
def dN (P : Program) (b : Builtin) (argTypes : Array TypeId) (ty : TypeId) (consts : Array Bool) (args : Array Value) (h : aA) (K : Value → aA → Prop) : Prop :=
 wpH P (builtin b argTypes ty consts args) (nxK K) h
def oJ (P : Program) (s d : TypeId) (x : Value) (h : aA) (K : Value → aA → Prop) : Prop := wpH P (convert s d x) K h
def xg (P : Program) (t : TypeId) (l c : Value) (h : aA) (K : Value → aA → Prop) : Prop := wpH P (Instr.makeSlice t l c) K h
def yB (P : Program) (t : TypeId) (m k : Value) (ok : Bool) (h : aA) (K : Value → aA → Prop) : Prop := wpH P (Instr.lookup t m k ok) K h
def qC (P : Program) (t : TypeId) (m k v : Value) (h : aA) (K : aA → Prop) : Prop := wpH P (Instr.mapUpdate t m k v) (fun _ h' => K h') h
def aJ {σ : Type} (body : σ → aA → (σ → aA → Prop) → Prop) (s : σ) (h : aA) : Prop :=
 ∃ (J : σ → aA → Prop) (μ : σ → aA → Nat), J s h ∧ ∀ s h, J s h → body s h fun s' h' => J s' h' ∧ μ s' h' < μ s h
theorem aJ.mk {σ : Type} {body : σ → aA → (σ → aA → Prop) → Prop} {s : σ} {h : aA} (J : σ → aA → Prop) (μ : σ → aA → Nat) (h0 : J s h)
  (hr : ∀ s h, J s h → body s h fun s' h' => J s' h' ∧ μ s' h' < μ s h) : aJ body s h := ⟨J, μ, h0, hr⟩
def og (ops : Array Oper) : Bool := ops.all fun o => match o.op with | .defer _ => false | _ => true
section
variable {P : Program} {N : Nat} {Q : pP} {e : Env} {ds : List Deferred} {h : aA}
theorem xZ [Gh] {o : Oper} {K : Value → List Deferred → aA → Prop} (hn : ∀ c, o.op ≠ .defer c) : uZ P o e ds h K → uZ P o e ds h fun v ds' h' => ds' = ds ∧ K v ds' h' := by
 unfold uZ
 split
 ·rename_i c hc; exact absurd hc (hn c)
 ·simp
def sS (ops : Array Oper) (t : Nat) : Bool := ops.all fun o => o.dst != some t
theorem rS {ops : Array Oper} {o : Oper} {i : Nat} (ho : ops[i]? = some o) {a : Act} {v : Value} {t : Nat} (hk : sS ops t = true) : ja (a.put o.dst v) t = ja a t := by
 have := Array.all_eq_true_iff_forall_mem.1 hk o (Array.mem_of_getElem? ho)
 have hne : o.dst ≠ some t := by simpa using this
 rw [tZ]
 cases hd : o.dst with
 | none => rfl
 | some d =>
  simp only [pA]; split
  ·unfold upd; rw [if_neg]; intro h; apply hne; rw [hd, h]
  ·rfl
variable [Gh]
theorem sB {ops : Array Oper} {K : Env → aA → Prop} {Q : Exit → Act → World → Prop} {e0 : Env} (hn : og ops = true) (hQ : ∀ a w, Sz N a w → a.defers = ds → (∀ t, sS ops t = true → ja a t = e0 t) → K (ja a) w.heap → Q .normal a w) :
  ∀ (is : List Nat) (a : Act) (w : World), Sz N a w → a.defers = ds → (∀ t, sS ops t = true → ja a t = e0 t) → Aj P N ops (fun e _ h => K e h) is (ja a) ds w.heap → wpOps P ops Q is a w
 | [], a, w, hN, hd, hkp, hh => hQ a w hN hd hkp hh
 | i :: is, a, w, hN, hd, hkp, hh => by
  unfold Aj at hh
  rw [wpOps_cons]; unfold wpOp
  split at hh
  case h_1 => exact hh.elim
  rename_i o ho
  rw [ho]
  simp only
  have hnd : ∀ c, o.op ≠ .defer c := fun c hc => by
   have := Array.all_eq_true_iff_forall_mem.1 hn o (Array.mem_of_getElem? ho)
   simp [hc] at this
  rcases Fl hh with ⟨hw, hr⟩ | ⟨hw, hr⟩
  ·rw [hw]
   simp only [if_true]
   have hr2 := xZ hnd hr
   rw [← hd] at hr2
   refine .inl (Oper.wp_mono ?_ (w8 (Q := Q) hN.2 (by rw [vZ]) hr2))
   rintro a' w' ⟨v, ds', rfl, ⟨hds, hk⟩, hs⟩
   refine sB hn hQ is _ w' ⟨by rw [vL]; exact hN.1, hs⟩ (by rw [se]; exact hds.trans hd) (fun t ht => (rS ho ht).trans (hkp t ht)) ?_
   rw [tZ]; simp only; rw [hN.1]; rw [hds, hd] at hk; exact hk
  ·rw [hw]
   simp only [Bool.false_eq_true, if_false]
   refine sB hn hQ is _ w ⟨by rw [vL, hN.1], hN.2⟩ (by rw [se]; exact hd) (fun t ht => (rS ho ht).trans (hkp t ht)) ?_
   rw [tZ, hN.1]; exact hr
theorem EWP.regionN {id : Nat} {ops : Array Oper} (K : Env → aA → Prop) (hn : og ops = true) (h1 : Aj P N ops (fun e _ h => K e h) (List.range ops.size) e ds h)
  (h2 : ∀ e' h, (∀ t, sS ops t = true → e' t = e t) → K e' h → Q .normal e' ds h) : EWP P N (.region id ops false) Q e ds h := by
 rintro a w hN rfl rfl rfl
 refine wp_region (sB hn (fun a' w' hN' hd' hkp hk => ⟨hN', ?_⟩) _ a w hN rfl (fun _ _ => rfl) h1)
 rw [hd']; exact h2 _ _ hkp hk
theorem EWP.loopV {σ : Type} {c : Code} (R : Env → σ → Prop) {body : σ → aA → (σ → aA → Prop) → Prop} {s : σ} (hR : R e s) (hl : aJ body s h)
  (round : ∀ e s h (Kn : σ → aA → Prop), R e s → body s h Kn → EWP P N c (Jv (fun e' ds' h' => ds' = ds ∧ ∃ s', R e' s' ∧ Kn s' h') Q) e ds h) :
  EWP P N (.loop c) Q e ds h := by
 obtain ⟨J, μ, h0, hr⟩ := hl
 refine EWP.loop (fun e' ds' s' => ds' = ds ∧ R e' s') J μ s ⟨rfl, hR⟩ h0 ?_
 rintro e ds s h ⟨rfl, hR⟩ hJ
 refine EWP.mono (round e s h _ hR (hr s h hJ)) ?_
 intro x e' ds' h' hx
 cases x with
 | normal => obtain ⟨rfl, s', hR', hJ', hlt⟩ := hx; exact ⟨s', ⟨rfl, hR'⟩, hJ', hlt⟩
 | _ => exact hx
end
end Go.Proofs.YtjmfpeiidlpngaaGreatDoor
namespace Go.Proofs.YtjmfpeiidlpngaaGreatDoor
set_option linter.unusedSimpArgs false
set_option linter.unusedVariables false
set_option maxRecDepth 20000
open Go
def jq (o : Oper) : Nat := o.after.toList.foldr (fun e s => if Region.binds .any e = true then 2 ^ e.on ||| s else s) 0
def IK (acc : List Nat) (o : Oper) : Nat := o.after.toList.foldr (fun e s => if Region.binds .any e = true then 2 ^ e.on ||| acc.getD e.on 0 ||| s else s) 0
def Bm : List Oper → List Nat → List Nat
 | [], acc => acc
 | o :: os, acc => Bm os (acc ++ [IK acc o])
def q9 (P : Program) (o : Oper) : Bool := su P o.op && (match o.op with | .assign _ => false | _ => true)
def rdy (ops : Array Oper) (done i : Nat) : Bool :=
 match ops[i]? with
 | some o => !done.testBit i && (jq o &&& done == jq o)
 | none => false
def Du (P : Program) (ops : Array Oper) (i : Nat) : Bool :=
 match ops[i]? with
 | some o => q9 P o
 | none => false
def ID : List Prop → Prop
 | [] => True
 | [p] => p
 | p :: ps => p ∧ ID ps
theorem yi : ∀ {l : List Prop} {p : Prop}, ID l → p ∈ l → p
 | [_], _, h, hm => by have := List.mem_singleton.1 hm; subst this; exact h
 | _ :: _ :: _, _, h, hm => by
  rcases List.mem_cons.1 hm with rfl | hm
  ·exact h.1
  ·exact yi h.2 hm
def Fx (P : Program) (ops : Array Oper) (e : Env) (h : aA) (j : Nat) (X : Prop) : Prop :=
 match ops[j]? with
 | some o =>
  match o.dst with
  | some d => vcG ops o e (fun e => vcQ P o e h fun v => v = e d) (fun _ => True) ∧ X
  | none => False
 | none => False
def Gl (P : Program) (ops : Array Oper) (e : Env) (h : aA) : List Nat → Prop → Prop
 | [], X => X
 | j :: js, X => Fx P ops e h j (Gl P ops e h js X)
def HP (ops : Array Oper) (am : List Nat) (done i : Nat) : List Nat :=
 (List.range ops.size).filter fun j => done.testBit j && !(am.getD i 0).testBit j && (match ops[j]? with | some o => kK o.op | none => false)
def vcD [Gh] (P : Program) (N : Nat) (ops : Array Oper) (am : List Nat) (K : Env → List Deferred → aA → Prop) : Nat → Nat → Env → List Deferred → aA → Prop
 | 0, _, _, _, _ => False
 | f + 1, done, e, ds, h =>
  match (List.range ops.size).find? fun i => rdy ops done i && Du P ops i with
  | some i =>
   match ops[i]? with
   | some o => vcG ops o e (fun e => vcQ P o e h fun v => vcD P N ops am K f (done ||| 2 ^ i) (pA N e o.dst v) ds h) (fun e => vcD P N ops am K f (done ||| 2 ^ i) (pA N e o.dst undef) ds h)
   | none => False
  | none =>
   match (List.range ops.size).filter (rdy ops done) with
   | [] => K e ds h
   | rs => ID (rs.map fun i =>
    match ops[i]? with
    | some o => vcG ops o e (fun e => uZ P o e ds h fun v ds' h' => Gl P ops e h' (if su P o.op = true then [] else HP ops am done i) (vcD P N ops am K f (done ||| 2 ^ i) (pA N e o.dst v) ds' h'))
      (fun e => vcD P N ops am K f (done ||| 2 ^ i) (pA N e o.dst undef) ds h)
    | none => False)
def De (d : Option Tmp) (l : List Tmp) : Bool :=
 match d with
 | some d => l.contains d
 | none => false
def IU (P : Program) (ops : Array Oper) : Bool :=
 (List.range ops.size).all fun i =>
  match ops[i]? with
  | none => false
  | some o =>
   (match o.op with | .select .. => false | _ => true) && o.after.toList.all (fun e => !Region.binds .any e || e.on < i) &&
   (!q9 P o || (!De o.dst (o.looksAt ops) && (List.range ops.size).all fun j => j == i ||
    match ops[j]? with
    | none => false
    | some q =>
     (match o.dst with | some d => q.dst != some d && (!(q.looksAt ops).contains d || (jq q).testBit i) | none => true) &&
     (!De q.dst (o.looksAt ops) || (jq q).testBit i || (jq o).testBit j)))
section
variable {P : Program} {N : Nat} {ops : Array Oper}
def Dt (ops : Array Oper) (e : Env) (g : Nat) : Option Bool :=
 match (ops[g]?).bind (·.dst) with
 | some d => (match e d with | .bool b => some b | _ => none)
 | none => none
def lR (ops : Array Oper) (o : Oper) (e : Env) : Bool := Region.wanted o (Dt ops e)
theorem Bg {o : Oper} {e : Env} {run skip : Env → Prop} (hh : vcG ops o e run skip) : (lR ops o e = true ∧ run e) ∨ (lR ops o e = false ∧ skip e) := by
 unfold vcG at hh
 unfold lR Region.wanted
 cases hg : o.guard with
 | none => rw [hg] at hh; exact .inl ⟨rfl, hh⟩
 | some gw =>
  obtain ⟨g, want⟩ := gw
  rw [hg] at hh
  simp only at hh ⊢
  unfold Dt
  cases hd : (ops[g]?).bind (·.dst) with
  | none => rw [hd] at hh; exact .inr ⟨by simp, hh⟩
  | some d =>
   rw [hd] at hh
   simp only at hh ⊢
   cases hv : e d with
   | bool b =>
    rw [hv] at hh
    simp only at hh
    cases b
    ·simp only [Bool.false_eq_true, if_false] at hh
     rw [tU hv] at hh
     cases want
     ·exact .inl ⟨by simp, by simpa using hh⟩
     ·exact .inr ⟨by simp, by simpa using hh⟩
    ·simp only [if_true] at hh
     rw [tU hv] at hh
     cases want
     ·exact .inr ⟨by simp, by simpa using hh⟩
     ·exact .inl ⟨by simp, by simpa using hh⟩
   | _ => rw [hv] at hh; exact .inr ⟨rfl, hh⟩
theorem yC (o : Oper) (a : Act) : Region.wanted o (yielded ops a.tmps) = lR ops o (ja a) := by
 unfold lR Region.wanted
 cases o.guard with
 | none => rfl
 | some gw => obtain ⟨g, want⟩ := gw; simp only; rw [yY]; rfl
theorem zQ {o : Oper} {e e' : Env} (hs : ∀ cs b, o.op ≠ .select cs b) (h : ∀ t ∈ o.looksAt ops, e t = e' t) : execOp (eev e) o = execOp (eev e') o := by
 refine execOp_congr o hs fun x hx => ?_
 cases x with
 | tmp t => exact h t (List.mem_append_left _ (List.mem_filterMap.2 ⟨.tmp t, by simpa using hx, rfl⟩))
 | _ => rfl
theorem Ac {o : Oper} {e e' : Env} (h : ∀ t ∈ o.looksAt ops, e t = e' t) : lR ops o e = lR ops o e' := by
 unfold lR Region.wanted
 cases hg : o.guard with
 | none => rfl
 | some gw =>
  obtain ⟨g, want⟩ := gw
  simp only
  unfold Dt
  cases hd : (ops[g]?).bind (·.dst) with
  | none => rfl
  | some d =>
   simp only
   rw [h d (List.mem_append_right _ (by simp [hg, hd]))]
theorem eN (a i j : Nat) : (a ||| 2 ^ i).testBit j = (a.testBit j || decide (i = j)) := by
 rw [Nat.testBit_or, Nat.testBit_two_pow]
theorem rW (f : Edge → Nat) : ∀ (l : List Edge) (j : Nat), (l.foldr (fun e s => if Region.binds .any e = true then f e ||| s else s) 0).testBit j = true →
  ∃ e ∈ l, Region.binds .any e = true ∧ (f e).testBit j = true
 | [], j, h => by simp at h
 | e :: l, j, h => by
  simp only [List.foldr_cons] at h
  split at h
  ·rename_i hb
   rw [Nat.testBit_or, Bool.or_eq_true] at h
   rcases h with h | h
   ·exact ⟨e, by simp, hb, h⟩
   ·obtain ⟨e', hm, h⟩ := rW f l j h; exact ⟨e', by simp [hm], h⟩
  ·obtain ⟨e', hm, h⟩ := rW f l j h; exact ⟨e', by simp [hm], h⟩
theorem tE (f : Edge → Nat) : ∀ (l : List Edge) (j : Nat) (e : Edge), e ∈ l → Region.binds .any e = true → (f e).testBit j = true →
  (l.foldr (fun e s => if Region.binds .any e = true then f e ||| s else s) 0).testBit j = true
 | e' :: l, j, e, hm, hb, h => by
  simp only [List.foldr_cons]
  rcases List.mem_cons.1 hm with rfl | hm
  ·rw [if_pos hb, Nat.testBit_or, h]; rfl
  ·have := tE f l j e hm hb h
   split
   ·rw [Nat.testBit_or, this]; simp
   ·exact this
theorem rr {o : Oper} {j : Nat} : (jq o).testBit j = true ↔ ∃ e ∈ o.after, Region.binds .any e = true ∧ e.on = j := by
 constructor
 ·intro h
  obtain ⟨e, hm, hb, ht⟩ := rW (fun e => 2 ^ e.on) _ _ h
  rw [Nat.testBit_two_pow] at ht
  exact ⟨e, by simpa using hm, hb, by simpa using ht⟩
 ·rintro ⟨e, hm, hb, rfl⟩
  exact tE (fun e => 2 ^ e.on) _ _ e (by simpa using hm) hb (by simp [Nat.testBit_two_pow])
inductive Anc (ops : Array Oper) : Nat → Nat → Prop
 | one {j : Nat} {o : Oper} {e : Edge} (ho : ops[j]? = some o) (hm : e ∈ o.after) (hb : Region.binds .any e = true) : Anc ops e.on j
 | step {i j : Nat} {o : Oper} {e : Edge} (ho : ops[j]? = some o) (hm : e ∈ o.after) (hb : Region.binds .any e = true) (h : Anc ops i e.on) : Anc ops i j
theorem x5 : ∀ (os : List Oper) (acc : List Nat), (∀ k, k < os.length → ops[acc.length + k]? = os[k]?) → (∀ j i, (acc.getD j 0).testBit i = true → Anc ops i j) →
  ∀ j i, ((Bm os acc).getD j 0).testBit i = true → Anc ops i j
 | [], acc, _, h => h
 | o :: os, acc, hs, h => by
  unfold Bm
  refine x5 os _ (fun k hk => ?_) ?_
  ·have := hs (k + 1) (by simpa using hk)
   simp only [List.length_append, List.length_cons, List.length_nil, List.getElem?_cons_succ] at this ⊢
   rw [← this]; congr 1; omega
  ·intro j i hb
   rw [List.getD_eq_getElem?_getD] at hb
   rcases Nat.lt_trichotomy j acc.length with hj | hj | hj
   ·rw [List.getElem?_append_left hj, ← List.getD_eq_getElem?_getD] at hb; exact h j i hb
   ·subst hj
    rw [List.getElem?_append_right (Nat.le_refl _)] at hb
    simp only [Nat.sub_self, List.getElem?_cons_zero, Option.getD_some] at hb
    have ho := hs 0 (by simp)
    simp only [Nat.add_zero, List.getElem?_cons_zero] at ho
    unfold IK at hb
    obtain ⟨e, hm, hbd, ht⟩ := rW (fun e => 2 ^ e.on ||| acc.getD e.on 0) _ _ hb
    rw [Nat.testBit_or, Bool.or_eq_true] at ht
    rcases ht with ht | ht
    ·rw [Nat.testBit_two_pow] at ht
     have : e.on = i := by simpa using ht
     subst this
     exact .one ho (by simpa using hm) hbd
    ·exact .step ho (by simpa using hm) hbd (h _ _ ht)
   ·rw [List.getElem?_eq_none (by simp; omega)] at hb; simp at hb
structure Rel [Gh] (P : Program) (N : Nat) (ops : Array Oper) (listed : Array Bool) (done : Nat) (e : Env) (ds : List Deferred) (h : aA) (a : Act) (w : World) : Prop where
  size : listed.size = ops.size
  tmps : a.tmps.size = N
  sm : Sm w
  defers : a.defers = ds
  heap : w.heap = h
  sub : ∀ j, listed.getD j false = true → done.testBit j = true
  down : ∀ j o, ops[j]? = some o → done.testBit j = true → ∀ i, (jq o).testBit i = true → done.testBit i = true
  downL : ∀ j o, ops[j]? = some o → listed.getD j false = true → ∀ i, (jq o).testBit i = true → listed.getD i false = true
  pend : ∀ j o, ops[j]? = some o → done.testBit j = true → listed.getD j false = false → q9 P o = true ∧
    ((lR ops o e = true ∧ ∃ v, (kK o.op = true → QOk P o e h v) ∧ (kK o.op = false → qP P o e v) ∧ ∀ d, o.dst = some d → d < N → e d = v) ∨
     (lR ops o e = false ∧ ∀ d, o.dst = some d → d < N → e d = undef))
  env : ∀ t, (∀ j o, ops[j]? = some o → done.testBit j = true → listed.getD j false = false → o.dst ≠ some t) → ja a t = e t
  hi : ∀ t, N ≤ t → e t = undef
structure Chk (P : Program) (ops : Array Oper) : Prop where
 sel : ∀ (j : Nat) (o : Oper) cs b, ops[j]? = some o → o.op ≠ .select cs b
 low : ∀ (j : Nat) (o : Oper), ops[j]? = some o → ∀ i, (jq o).testBit i = true → i < j
 own : ∀ (i : Nat) (o : Oper), ops[i]? = some o → q9 P o = true → ∀ d, o.dst = some d → d ∉ o.looksAt ops
 dst : ∀ (i : Nat) (o : Oper) (j : Nat) (q : Oper), ops[i]? = some o → ops[j]? = some q → i ≠ j → q9 P o = true → ∀ d, o.dst = some d → q.dst ≠ some d ∧ (d ∈ q.looksAt ops → (jq q).testBit i = true)
 look : ∀ (i : Nat) (o : Oper) (j : Nat) (q : Oper), ops[i]? = some o → ops[j]? = some q → i ≠ j → q9 P o = true → ∀ t, q.dst = some t → t ∈ o.looksAt ops → (jq q).testBit i = true ∨ (jq o).testBit j = true
theorem jy {j : Nat} {o : Oper} (h : ops[j]? = some o) : j < ops.size := (Array.getElem?_eq_some_iff.1 h).1
theorem IV [Gh] (h : IU P ops = true) : Chk P ops := by
 have h0 : ∀ (i : Nat) (o : Oper), ops[i]? = some o → ((match o.op with | .select .. => false | _ => true) && o.after.toList.all (fun e => !Region.binds .any e || e.on < i) &&
   (!q9 P o || (!De o.dst (o.looksAt ops) && (List.range ops.size).all fun j => j == i ||
    match ops[j]? with
    | none => false
    | some q =>
     (match o.dst with | some d => q.dst != some d && (!(q.looksAt ops).contains d || (jq q).testBit i) | none => true) &&
     (!De q.dst (o.looksAt ops) || (jq q).testBit i || (jq o).testBit j)))) = true := fun i o ho => by
  unfold IU at h
  rw [List.all_eq_true] at h
  have := h i (List.mem_range.2 (jy ho))
  simpa only [ho] using this
 have h1 : ∀ (i : Nat) (o : Oper) (j : Nat) (q : Oper), ops[i]? = some o → ops[j]? = some q → i ≠ j → q9 P o = true →
   ((match o.dst with | some d => q.dst != some d && (!(q.looksAt ops).contains d || (jq q).testBit i) | none => true) &&
     (!De q.dst (o.looksAt ops) || (jq q).testBit i || (jq o).testBit j)) = true := fun i o j q ho hq hne hh => by
  have := h0 i o ho
  simp only [Bool.and_eq_true, hh, Bool.not_true, Bool.false_or] at this
  have := this.2.2
  rw [List.all_eq_true] at this
  have := this j (List.mem_range.2 (jy hq))
  simp only [hq, Bool.or_eq_true, beq_iff_eq] at this
  rcases this with rfl | this
  ·exact absurd rfl hne
  ·exact this
 refine ⟨?_, ?_, ?_, ?_, ?_⟩
 ·intro j o cs b ho hs
  have := h0 j o ho
  simp [hs] at this
 ·intro j o ho i hi
  obtain ⟨e, hm, hb, rfl⟩ := rr.1 hi
  have := h0 j o ho
  simp only [Bool.and_eq_true] at this
  have := this.1.2
  rw [List.all_eq_true] at this
  have := this e (by simpa using hm)
  simpa [hb] using this
 ·intro i o ho hh d hd hm
  have := h0 i o ho
  simp only [Bool.and_eq_true, hh, Bool.not_true, Bool.false_or] at this
  have := this.2.1
  simp [De, hd, hm] at this
 ·intro i o j q ho hq hne hh d hd
  have := h1 i o j q ho hq hne hh
  simp only [Bool.and_eq_true, hd] at this
  refine ⟨by simpa using this.1.1, fun hm => ?_⟩
  have := this.1.2
  simpa [hm] using this
 ·intro i o j q ho hq hne hh t ht hm
  have := h1 i o j q ho hq hne hh
  simp only [Bool.and_eq_true] at this
  have := this.2
  simpa [De, ht, hm] using this
theorem pz {e : Env} {d : Option Tmp} {v : Value} {t : Nat} (h : d ≠ some t) : pA N e d v t = e t := by
 cases d with
 | none => rfl
 | some d =>
  simp only [pA]; split
  ·unfold upd; rw [if_neg]; rintro rfl; exact h rfl
  ·rfl
theorem xG {e : Env} {d : Option Tmp} {v : Value} {t : Nat} (h : N ≤ t) : pA N e d v t = e t := by
 cases d with
 | none => rfl
 | some d =>
  by_cases hd : d < N
  ·simp only [pA, hd, if_true, upd]; rw [if_neg]; intro ht; rw [ht] at h; exact absurd hd (Nat.not_lt.2 h)
  ·simp only [pA, hd, if_false]
theorem AO {a : Act} {t : Nat} (h : a.tmps.size ≤ t) : ja a t = undef := by
 simp [ja, Array.getD_eq_getD_getElem?, Array.getElem?_eq_none h]
theorem xE {e : Env} {d : Nat} {v : Value} (h : d < N) : pA N e (some d) v d = v := by
 simp [pA, h, upd]
theorem Bk {done i : Nat} {o : Oper} (ho : ops[i]? = some o) : rdy ops done i = true ↔ done.testBit i = false ∧ ∀ k, (jq o).testBit k = true → done.testBit k = true := by
 unfold rdy; rw [ho]
 simp only [Bool.and_eq_true, Bool.not_eq_true', beq_iff_eq]
 constructor
 ·rintro ⟨h1, h2⟩
  refine ⟨h1, fun k hk => ?_⟩
  have := congrArg (fun n => n.testBit k) h2
  simp only [Nat.testBit_and, hk, Bool.true_and] at this
  exact this
 ·rintro ⟨h1, h2⟩
  refine ⟨h1, Nat.eq_of_testBit_eq fun k => ?_⟩
  rw [Nat.testBit_and]
  cases hk : (jq o).testBit k with
  | false => rfl
  | true => rw [h2 k hk]; rfl
theorem vi [Gh] {listed : Array Bool} {i : Nat} (hs : listed.size = ops.size) : i ∈ Region.ready .any ops listed ↔ ∃ o, ops[i]? = some o ∧ listed.getD i false = false ∧ ∀ k, (jq o).testBit k = true → listed.getD k false = true := by
 rw [mem_ready]
 constructor
 ·rintro ⟨h1, o, ho, h2⟩
  have hl : i < listed.size := by rw [hs]; exact jy ho
  refine ⟨o, ho, by simpa [hl] using h1, fun k hk => ?_⟩
  obtain ⟨e, hm, hb, rfl⟩ := rr.1 hk
  exact h2 e hm hb
 ·rintro ⟨o, ho, h1, h2⟩
  have hl : i < listed.size := by rw [hs]; exact jy ho
  exact ⟨by simpa [hl] using h1, o, ho, fun e hm hb => h2 _ (rr.2 ⟨e, hm, hb, rfl⟩)⟩
theorem p9 {listed : Array Bool} {i j : Nat} (hi : i < listed.size) : (listed.setIfInBounds i true).getD j false = (listed.getD j false || decide (i = j)) := by
 by_cases h : i = j
 ·subst h; simp [hi]
 ·rw [getD_set_ne false h]; simp [h]
theorem CZ {listed : Array Bool} (hd : ∀ j o, ops[j]? = some o → listed.getD j false = true → ∀ i, (jq o).testBit i = true → listed.getD i false = true) {i j : Nat} (ha : Anc ops i j) :
  ∀ {o : Oper}, ops[j]? = some o → (∀ k, (jq o).testBit k = true → listed.getD k false = true) → listed.size = ops.size → listed.getD i false = true := by
 induction ha with
 | one ho hm hb => intro o ho' h _; rw [ho] at ho'; cases ho'; exact h _ (rr.2 ⟨_, hm, hb, rfl⟩)
 | @step i j o e ho hm hb h ih =>
  intro o' ho' hp hs
  rw [ho] at ho'; cases ho'
  have hl := hp e.on (rr.2 ⟨_, hm, hb, rfl⟩)
  have hlt : e.on < ops.size := by
   rw [← hs]
   rcases Nat.lt_or_ge e.on listed.size with h | h
   ·exact h
   ·simp [Array.getElem?_eq_none h] at hl
  exact ih (Array.getElem?_eq_getElem hlt) (fun k hk => hd _ _ (Array.getElem?_eq_getElem hlt) hl k hk) hs
theorem Rel.looks [Gh] {listed : Array Bool} {done : Nat} {e : Env} {ds : List Deferred} {h : aA} {a : Act} {w : World} (c : Chk P ops) (r : Rel P N ops listed done e ds h a w)
  {i : Nat} {o : Oper} (ho : ops[i]? = some o) (hp : ∀ k, (jq o).testBit k = true → listed.getD k false = true) : ∀ t ∈ o.looksAt ops, ja a t = e t := by
 intro t ht
 refine r.env t fun j q hq hdj hlj hdst => ?_
 obtain ⟨hh, _⟩ := r.pend j q hq hdj hlj
 by_cases hij : i = j
 ·subst hij; rw [ho] at hq; cases hq; exact c.own i o ho hh t hdst ht
 ·have := (c.dst j q i o hq ho (Ne.symm hij) hh t hdst).2 ht
  rw [hp j this] at hlj; cases hlj
theorem B4 [Gh] {o : Oper} {e : Env} {ds : List Deferred} {h : aA} {K : Value → List Deferred → aA → Prop} (hq : su P o.op = true) (hh : uZ P o e ds h K) :
  ∃ v, QOk P o e h v ∧ K v ds h := by
 unfold uZ at hh
 split at hh
 ·rename_i c hc; rw [hc] at hq; simp [su] at hq
 ·rw [if_pos hq] at hh; exact wY hh
theorem zE {e : Env} {h : aA} {X : Prop} : ∀ {l : List Nat}, Gl P ops e h l X → X ∧ ∀ j ∈ l, ∃ o d, ops[j]? = some o ∧ o.dst = some d ∧ ((lR ops o e = true ∧ vcQ P o e h fun v => v = e d) ∨ lR ops o e = false)
 | [], hx => ⟨hx, fun _ hj => by cases hj⟩
 | j :: l, hx => by
  unfold Gl Fx at hx
  split at hx
  case h_2 => exact hx.elim
  rename_i o ho
  split at hx
  case h_2 => exact hx.elim
  rename_i d hd
  obtain ⟨h1, h2⟩ := hx
  obtain ⟨hX, hr⟩ := zE h2
  refine ⟨hX, fun k hk => ?_⟩
  rcases List.mem_cons.1 hk with rfl | hk
  ·refine ⟨o, d, ho, hd, ?_⟩
   rcases Bg h1 with ⟨hw, hv⟩ | ⟨hw, _⟩
   ·exact .inl ⟨hw, hv⟩
   ·exact .inr hw
  ·exact hr k hk
section main
variable {listed : Array Bool} {done : Nat} {e : Env} {ds : List Deferred} {h : aA} {a : Act} {w : World}
def uY (P : Program) (N : Nat) (ops : Array Oper) (o : Oper) (e : Env) (h : aA) (v : Value) : Prop :=
 (lR ops o e = true ∧ (kK o.op = true → QOk P o e h v) ∧ (kK o.op = false → qP P o e v)) ∨ (lR ops o e = false ∧ v = undef)
theorem uY.same {o : Oper} {e e' : Env} {v : Value} (hs : ∀ cs b, o.op ≠ .select cs b) (hl : ∀ t ∈ o.looksAt ops, e t = e' t) (g : uY P N ops o e h v) : uY P N ops o e' h v := by
 unfold uY QOk qP at *
 rw [← Ac hl, ← zQ hs hl]; exact g
theorem vP {o : Oper} {K : Value → Prop} (hw : lR ops o e = true) (hh : vcQ P o e h K) : ∃ v, uY P N ops o e h v ∧ K v := by
 cases hl : kK o.op with
 | true => obtain ⟨v, hv, hk⟩ := wY hh; exact ⟨v, .inl ⟨hw, fun _ => hv, fun h => by rw [hl] at h; cases h⟩, hk⟩
 | false => obtain ⟨v, hv, hk⟩ := DX hl hh; exact ⟨v, .inl ⟨hw, fun h => (by rw [hl] at h; cases h), fun _ => hv⟩, hk⟩
theorem A0 {o : Oper} {v : Value} (g : uY P N ops o e h v) (hd : ∀ d, o.dst = some d → d < N → e d = v) :
    ((lR ops o e = true ∧ ∃ v, (kK o.op = true → QOk P o e h v) ∧ (kK o.op = false → qP P o e v) ∧ ∀ d, o.dst = some d → d < N → e d = v) ∨
     (lR ops o e = false ∧ ∀ d, o.dst = some d → d < N → e d = undef)) := by
  rcases g with ⟨hw, h1, h2⟩ | ⟨hw, rfl⟩
  · exact .inl ⟨hw, v, h1, h2, hd⟩
  · exact .inr ⟨hw, hd⟩
theorem qV {o : Oper} (p : ((lR ops o e = true ∧ ∃ v, (kK o.op = true → QOk P o e h v) ∧ (kK o.op = false → qP P o e v) ∧ ∀ d, o.dst = some d → d < N → e d = v) ∨
     (lR ops o e = false ∧ ∀ d, o.dst = some d → d < N → e d = undef))) : ∃ v, uY P N ops o e h v ∧ ∀ d, o.dst = some d → d < N → e d = v := by
  rcases p with ⟨hw, v, h1, h2, h3⟩ | ⟨hw, h3⟩
  · exact ⟨v, .inl ⟨hw, h1, h2⟩, h3⟩
  · exact ⟨undef, .inr ⟨hw, rfl⟩, h3⟩
theorem Rel.hoist [Gh] (c : Chk P ops) (r : Rel P N ops listed done e ds h a w) {i : Nat} {o : Oper} (ho : ops[i]? = some o) (hr : rdy ops done i = true) (hh : q9 P o = true) {v : Value}
  (g : uY P N ops o e h v) : Rel P N ops listed (done ||| 2 ^ i) (pA N e o.dst v) ds h a w := by
 obtain ⟨hni, hpi⟩ := (Bk ho).1 hr
 have eself : ∀ t ∈ o.looksAt ops, e t = pA N e o.dst v t := fun t ht => (pz (fun hd => c.own i o ho hh t hd ht)).symm
 refine { r with sub := fun j hj => ?_, down := ?_, pend := ?_, env := ?_, hi := fun t ht => by rw [xG ht]; exact r.hi t ht }
 ·rw [eN, r.sub j hj]; rfl
 ·intro j q hq hj k hk
  rw [eN, Bool.or_eq_true] at hj ⊢
  rcases hj with hj | hj
  ·exact .inl (r.down j q hq hj k hk)
  ·have : i = j := by simpa using hj
   subst this; rw [ho] at hq; cases hq
   exact .inl (hpi k hk)
 ·intro j q hq hj hlj
  rw [eN, Bool.or_eq_true] at hj
  by_cases hij : i = j
  ·subst hij; rw [ho] at hq; cases hq
   refine ⟨hh, A0 (v := v) (g.same (fun cs b => c.sel i o cs b ho) eself) fun d hd hdN => ?_⟩
   rw [hd]; exact xE hdN
  ·have hj' : done.testBit j = true := by simpa [hij] using hj
   obtain ⟨hhj, hp⟩ := r.pend j q hq hj' hlj
   obtain ⟨u, gu, hu⟩ := qV hp
   have hl : ∀ t ∈ q.looksAt ops, e t = pA N e o.dst v t := fun t ht => (pz fun hd => by
    have := (c.dst i o j q ho hq hij hh t hd).2 ht
    have := r.down j q hq hj' i this
    rw [hni] at this; cases this).symm
   refine ⟨hhj, A0 (gu.same (fun cs b => c.sel j q cs b hq) hl) fun d hd hdN => ?_⟩
   rw [pz fun hdo => (c.dst i o j q ho hq hij hh d hdo).1 hd]
   exact hu d hd hdN
 ·intro t ht
  have h1 : o.dst ≠ some t := by
   refine ht i o ho ?_ ?_
   ·rw [eN]; simp
   ·cases hl : listed.getD i false with
    | false => rfl
    | true => have := r.sub i hl; rw [hni] at this; cases this
  rw [pz h1]
  refine r.env t fun j q hq hj hlj => ht j q hq ?_ hlj
  rw [eN, hj]; rfl
theorem n9 [Gh] (r : Rel P N ops listed done e ds h a w) {i : Nat} {o : Oper} (ho : ops[i]? = some o) : i < listed.size := by rw [r.size]; exact jy ho
theorem Rel.downL_set [Gh] (r : Rel P N ops listed done e ds h a w) {i : Nat} {o : Oper} (ho : ops[i]? = some o) (hp : ∀ k, (jq o).testBit k = true → listed.getD k false = true) :
  ∀ j o, ops[j]? = some o → (listed.setIfInBounds i true).getD j false = true → ∀ k, (jq o).testBit k = true → (listed.setIfInBounds i true).getD k false = true := by
 intro j q hq hj k hk
 rw [p9 (n9 r ho), Bool.or_eq_true] at hj ⊢
 rcases hj with hj | hj
 ·exact .inl (r.downL j q hq hj k hk)
 ·have : i = j := by simpa using hj
  subst this; rw [ho] at hq; cases hq; exact .inl (hp k hk)
theorem Rel.pop [Gh] (c : Chk P ops) (r : Rel P N ops listed done e ds h a w) {i : Nat} {o : Oper} (ho : ops[i]? = some o) (hp : ∀ k, (jq o).testBit k = true → listed.getD k false = true)
  (hl : listed.getD i false = false) (hd : done.testBit i = true) {Q : Exit → Act → World → Prop} {K : Act → World → Prop}
  (hK : ∀ v, Rel P N ops (listed.setIfInBounds i true) done e ds h (a.put o.dst v) w → K (a.put o.dst v) w) : wpOp P ops Q i K a w := by
 obtain ⟨hh, hpd⟩ := r.pend i o ho hd hl
 obtain ⟨v, g, hv⟩ := qV hpd
 have hlk := r.looks c ho hp
 have g' : uY P N ops o (ja a) h v := g.same (fun cs b => c.sel i o cs b ho) fun t ht => (hlk t ht).symm
 have key : K (a.put o.dst v) w := by
  refine hK v { size := by simp [r.size], tmps := by rw [vL]; exact r.tmps, sm := r.sm, defers := by rw [se]; exact r.defers, heap := r.heap, sub := ?_, down := r.down, downL := r.downL_set ho hp, pend := ?_, env := ?_, hi := r.hi }
  ·intro j hj
   rw [p9 (n9 r ho), Bool.or_eq_true] at hj
   rcases hj with hj | hj
   ·exact r.sub j hj
   ·have : i = j := by simpa using hj
    subst this; exact hd
  ·intro j q hq hj hlj
   rw [p9 (n9 r ho), Bool.or_eq_false_iff] at hlj
   exact r.pend j q hq hj hlj.1
  ·intro t ht
   rw [tZ, r.tmps]
   by_cases hdt : o.dst = some t
   ·by_cases htN : t < N
    ·rw [hdt, xE htN, hv t hdt htN]
    ·have e1 : pA N (ja a) o.dst v t = ja a t := by rw [hdt]; simp [pA, htN]
     rw [e1, r.hi t (by omega), AO (by rw [r.tmps]; omega)]
   ·rw [pz hdt]
    refine r.env t fun j q hq hj hlj => ?_
    by_cases hij : i = j
    ·subst hij; rw [ho] at hq; cases hq; exact hdt
    ·exact ht j q hq hj (by rw [p9 (n9 r ho)]; simp [hlj, hij])
 unfold wpOp; rw [ho]; simp only
 rw [yC]
 rcases g' with ⟨hw, h1, h2⟩ | ⟨hw, rfl⟩
 ·rw [hw]; simp only [if_true]
  refine .inl ?_
  have hx : (execOp a.eval o).run P w = .ok (.value v) w := by
   rw [vZ]
   cases hld : kK o.op with
   | true => exact h1 hld w r.heap
   | false => exact h2 hld w
  unfold Oper.wp; rw [hx]; exact key
 ·rw [hw]; simp only [Bool.false_eq_true, if_false]; exact key
theorem Rel.push [Gh] (c : Chk P ops) (r : Rel P N ops listed done e ds h a w) {i : Nat} {o : Oper} (ho : ops[i]? = some o) (hp : ∀ k, (jq o).testBit k = true → listed.getD k false = true)
  (hl : listed.getD i false = false) (hd : done.testBit i = false) {v : Value} {ds' : List Deferred} {w' : World} {h' : aA} (hw : w'.heap = h') (hsm : Sm w')
  (still : h' = h ∨ ∀ j q, ops[j]? = some q → done.testBit j = true → listed.getD j false = false → kK q.op = true → ∃ d, q.dst = some d ∧ ((lR ops q e = true ∧ vcQ P q e h' fun v => v = e d) ∨ lR ops q e = false)) :
  Rel P N ops (listed.setIfInBounds i true) (done ||| 2 ^ i) (pA N e o.dst v) ds' h' (({ a with defers := ds' } : Act).put o.dst v) w' := by
 refine { size := by simp [r.size], tmps := by rw [vL]; exact r.tmps, sm := hsm, defers := by rw [se], heap := hw, sub := ?_, down := ?_, downL := r.downL_set ho hp, pend := ?_, env := ?_, hi := fun t ht => by rw [xG ht]; exact r.hi t ht }
 ·intro j hj
  rw [p9 (n9 r ho), Bool.or_eq_true] at hj
  rw [eN, Bool.or_eq_true]
  rcases hj with hj | hj
  ·exact .inl (r.sub j hj)
  ·exact .inr hj
 ·intro j q hq hj k hk
  rw [eN, Bool.or_eq_true] at hj ⊢
  rcases hj with hj | hj
  ·exact .inl (r.down j q hq hj k hk)
  ·have : i = j := by simpa using hj
   subst this; rw [ho] at hq; cases hq
   exact .inl (r.sub k (hp k hk))
 ·intro j q hq hj hlj
  rw [p9 (n9 r ho), Bool.or_eq_false_iff] at hlj
  have hij : i ≠ j := by simpa using hlj.2
  have hj' : done.testBit j = true := by
   rw [eN] at hj; simpa [hij] using hj
  obtain ⟨hhj, hpd⟩ := r.pend j q hq hj' hlj.1
  have hne : ∀ t, o.dst = some t → q.dst ≠ some t := fun t ht hq' => (c.dst j q i o hq ho (Ne.symm hij) hhj t hq').1 ht
  have hlk : ∀ t ∈ q.looksAt ops, e t = pA N e o.dst v t := fun t ht => (pz fun hdo => by
   rcases c.look j q i o hq ho (Ne.symm hij) hhj t hdo ht with h1 | h1
   ·rw [hp j h1] at hlj; cases hlj.1
   ·have := r.down j q hq hj' i h1
    rw [hd] at this; cases this).symm
  refine ⟨hhj, ?_⟩
  have base : ∃ u, uY P N ops q e h' u ∧ ∀ d, q.dst = some d → d < N → e d = u := by
   obtain ⟨u, gu, hu⟩ := qV hpd
   cases hld : kK q.op with
   | false =>
    refine ⟨u, ?_, hu⟩
    rcases gu with ⟨h1, _, h3⟩ | ⟨h1, h2⟩
    ·exact .inl ⟨h1, fun hx => (by rw [hld] at hx; cases hx), h3⟩
    ·exact .inr ⟨h1, h2⟩
   | true =>
    rcases still with rfl | still
    ·exact ⟨u, gu, hu⟩
    ·obtain ⟨d, hqd, hv⟩ := still j q hq hj' hlj.1 hld
     rcases hv with ⟨hw, hv⟩ | hw
     ·obtain ⟨v', g', rfl⟩ := vP (N := N) hw hv
      refine ⟨_, g', fun d' hd' _ => ?_⟩
      rw [hqd] at hd'; cases hd'; rfl
     ·rcases gu with ⟨h1, _⟩ | ⟨_, h2⟩
      ·rw [hw] at h1; cases h1
      ·exact ⟨u, .inr ⟨hw, h2⟩, hu⟩
  obtain ⟨u, gu, hu⟩ := base
  refine A0 (gu.same (fun cs b => c.sel j q cs b hq) hlk) fun d hd' hdN => ?_
  rw [pz fun hdo => hne d hdo hd']
  exact hu d hd' hdN
 ·intro t ht
  rw [tZ]
  have e0 : ja ({ a with defers := ds' } : Act) = ja a := rfl
  rw [e0]
  simp only [r.tmps]
  by_cases hdt : o.dst = some t
  ·by_cases htN : t < N
   ·rw [hdt, xE htN, xE htN]
   ·rw [xG (by omega), xG (by omega), r.hi t (by omega), AO (by rw [r.tmps]; omega)]
  ·rw [pz hdt, pz hdt]
   refine r.env t fun j q hq hj hlj => ?_
   by_cases hij : i = j
   ·subst hij; rw [hd] at hj; cases hj
   ·exact ht j q hq (by rw [eN, hj]; rfl) (by rw [p9 (n9 r ho)]; simp [hlj, hij])
def unl (ops : Array Oper) (listed : Array Bool) : Nat := ((List.range ops.size).filter fun j => !listed.getD j false).length
theorem yS (l : List Nat) (hn : l.Nodup) {listed : Array Bool} {i : Nat} (hi : i < listed.size) (hm : i ∈ l) (hl : listed.getD i false = false) :
  (l.filter fun j => !(listed.setIfInBounds i true).getD j false).length + 1 = (l.filter fun j => !listed.getD j false).length := by
 induction l with
 | nil => cases hm
 | cons x l ih =>
  rw [List.nodup_cons] at hn
  by_cases hx : x = i
  ·subst hx
   have hsame : l.filter (fun j => !(listed.setIfInBounds x true).getD j false) = l.filter (fun j => !listed.getD j false) := by
    refine List.filter_congr fun j hj => ?_
    rw [getD_set_ne false]; rintro rfl; exact hn.1 hj
   rw [List.filter_cons, List.filter_cons, hsame, hl]
   simp [hi]
  ·have hm' : i ∈ l := by
    rcases List.mem_cons.1 hm with h | h
    ·exact absurd h.symm hx
    ·exact h
   have := ih hn.2 hm'
   rw [List.filter_cons, List.filter_cons, getD_set_ne false (Ne.symm hx)]
   split
   ·simp only [List.length_cons]; omega
   ·exact this
theorem HK [Gh] (hs : listed.size = ops.size) {i : Nat} {o : Oper} (ho : ops[i]? = some o) (hl : listed.getD i false = false) : unl ops (listed.setIfInBounds i true) + 1 = unl ops listed :=
 yS _ List.nodup_range (by rw [hs]; exact jy ho) (List.mem_range.2 (jy ho)) hl
theorem CN [Gh] (c : Chk P ops) (hs : listed.size = ops.size) (hn : Region.ready .any ops listed = []) : ∀ (j : Nat) (o : Oper), ops[j]? = some o → listed.getD j false = true := by
 intro j
 induction j using Nat.strongRecOn with
 | _ j ih =>
  intro o ho
  cases hl : listed.getD j false with
  | true => rfl
  | false =>
   have : j ∈ Region.ready .any ops listed := (vi hs).2 ⟨o, ho, hl, fun k hk => by
    have hlt := c.low j o ho k hk
    have hk' : k < ops.size := Nat.lt_trans hlt (jy ho)
    exact ih k hlt _ (Array.getElem?_eq_getElem hk')⟩
   rw [hn] at this; cases this
theorem JA {done i : Nat} (h : rdy ops done i = true) : ∃ o, ops[i]? = some o := by
 unfold rdy at h; split at h
 ·exact ⟨_, ‹_›⟩
 ·cases h
theorem DE [Gh] {am : List Nat} {K : Env → List Deferred → aA → Prop} {Q : Exit → Act → World → Prop} {ds0 : List Deferred} {e0 : Env} (c : Chk P ops) (hQ : ∀ a w, (og ops = true → a.defers = ds0) → (∀ t, sS ops t = true → ja a t = e0 t) → J3 N K a w → Q .normal a w) (hnd : og ops = true → ds = ds0) (hkp : ∀ t, sS ops t = true → ja a t = e0 t)
  (r : Rel P N ops listed done e ds h a w) {f : Nat} (hv : vcD P N ops am K f done e ds h) (hn : ∀ (j : Nat) (o : Oper), ops[j]? = some o → listed.getD j false = true) : Q .normal a w := by
 have none_rdy : ∀ i, rdy ops done i = false := fun i => by
  cases hr : rdy ops done i with
  | false => rfl
  | true =>
   obtain ⟨o, ho⟩ := JA hr
   have := ((Bk ho).1 hr).1
   rw [r.sub i (hn i o ho)] at this; cases this
 cases f with
 | zero => exact hv.elim
 | succ f =>
  unfold vcD at hv
  have e1 : ((List.range ops.size).find? fun i => rdy ops done i && Du P ops i) = none := by
   rw [List.find?_eq_none]; intro i _; simp [none_rdy i]
  have e2 : (List.range ops.size).filter (rdy ops done) = [] := by
   rw [List.filter_eq_nil_iff]; intro i _; simp [none_rdy i]
  rw [e1] at hv
  simp only [e2] at hv
  refine hQ a w (fun hn => r.defers.trans (hnd hn)) hkp ⟨⟨r.tmps, r.sm⟩, ?_⟩
  have he : ja a = e := funext fun t => r.env t fun j o ho hj hl => by rw [hn j o ho] at hl; cases hl
  rw [he, r.defers, r.heap]; exact hv
theorem Fg [Gh] {am : List Nat} {K : Env → List Deferred → aA → Prop} {Q : Exit → Act → World → Prop} (c : Chk P ops) (ha : ∀ j i, (am.getD j 0).testBit i = true → Anc ops i j)
  {ds0 : List Deferred} {e0 : Env} (hQ : ∀ a w, (og ops = true → a.defers = ds0) → (∀ t, sS ops t = true → ja a t = e0 t) → J3 N K a w → Q .normal a w) : ∀ (m f : Nat) (listed : Array Bool) (done : Nat) (e : Env) (ds : List Deferred) (h : aA) (a : Act) (w : World),
   (og ops = true → ds = ds0) → (∀ t, sS ops t = true → ja a t = e0 t) → unl ops listed ≤ m → Rel P N ops listed done e ds h a w → vcD P N ops am K f done e ds h → wpAny P .any ops Q m listed a w := by
 intro m
 induction m with
 | zero =>
  intro f listed done e ds h a w hnd hkp hu r hv
  have hall : ∀ (j : Nat) (o : Oper), ops[j]? = some o → listed.getD j false = true := fun j o ho => by
   have h0 : unl ops listed = 0 := by omega
   unfold unl at h0
   rw [List.length_eq_zero_iff, List.filter_eq_nil_iff] at h0
   have := h0 j (List.mem_range.2 (jy ho))
   simpa using this
  refine ⟨?_, DE c hQ hnd hkp r hv hall⟩
  rw [List.eq_nil_iff_forall_not_mem]
  intro i hi
  obtain ⟨o, ho, hl, _⟩ := (vi r.size).1 hi
  rw [hall i o ho] at hl; cases hl
 | succ m ihm =>
  intro f
  induction f with
  | zero => intro listed done e ds h a w hnd hkp hu r hv; exact hv.elim
  | succ f ihf =>
   intro listed done e ds h a w hnd hkp hu r hv
   have hv0 := hv
   unfold vcD at hv
   split at hv
   ·rename_i i hfind
    have hfi := List.find?_some hfind
    rw [Bool.and_eq_true] at hfi
    split at hv
    case h_2 => exact hv.elim
    rename_i o ho
    have hh : q9 P o = true := by have := hfi.2; unfold Du at this; rw [ho] at this; exact this
    rcases Bg hv with ⟨hw, hq⟩ | ⟨hw, hs⟩
    ·obtain ⟨v, g, hk⟩ := vP (N := N) hw hq
     exact ihf _ _ _ _ _ _ _ hnd hkp hu (r.hoist c ho hfi.1 hh g) hk
    ·exact ihf _ _ _ _ _ _ _ hnd hkp hu (r.hoist c ho hfi.1 hh (.inr ⟨hw, rfl⟩)) hs
   ·rename_i hfind
    refine ⟨fun hn => DE c hQ hnd hkp r hv0 (CN c r.size hn), fun i hi => ?_⟩
    obtain ⟨o, ho, hl, hp⟩ := (vi r.size).1 hi
    have hu' : unl ops (listed.setIfInBounds i true) ≤ m := by have := HK r.size ho hl; omega
    cases hd : done.testBit i with
    | true => exact r.pop c ho hp hl hd fun v r' => ihm (f + 1) _ _ _ _ _ _ _ hnd (fun t ht => (rS ho ht).trans (hkp t ht)) hu' r' hv0
    | false =>
     have hrdy : rdy ops done i = true := (Bk ho).2 ⟨hd, fun k hk => r.sub k (hp k hk)⟩
     have hmem : i ∈ (List.range ops.size).filter (rdy ops done) := List.mem_filter.2 ⟨List.mem_range.2 (jy ho), hrdy⟩
     split at hv
     ·rename_i hnil; rw [hnil] at hmem; cases hmem
     rename_i rs hrs
     have hP := yi hv (List.mem_map.2 ⟨i, hmem, rfl⟩)
     simp only [ho] at hP
     have hlk := r.looks c ho hp
     unfold wpOp; rw [ho]; simp only
     rw [yC, Ac hlk]
     rcases Bg hP with ⟨hw, hq⟩ | ⟨hw, hs⟩
     ·rw [hw]; simp only [if_true]
      have hx : execOp a.eval o = execOp (eev e) o := by rw [vZ]; exact zQ (fun cs b => c.sel i o cs b ho) hlk
      refine .inl ?_
      by_cases hqt : su P o.op = true
      ·obtain ⟨v, hv', hk⟩ := B4 hqt hq
       rw [if_pos hqt] at hk
       unfold Oper.wp; rw [hx, hv' w r.heap]
       have e0 : a.put o.dst v = ({ a with defers := ds } : Act).put o.dst v := by rw [← r.defers]
       show wpAny P .any ops Q m (listed.setIfInBounds i true) (a.put o.dst v) w
       rw [e0]
       exact ihm f _ _ _ _ _ _ _ hnd (fun t ht => (rS ho ht).trans (hkp t ht)) hu' (r.push c ho hp hl hd r.heap r.sm (.inl rfl)) hk
      ·rw [if_neg hqt] at hq
       have hq2 : uZ P o e ds h fun v ds' h' => (og ops = true → ds' = ds) ∧ Gl P ops e h' (HP ops am done i) (vcD P N ops am K f (done ||| 2 ^ i) (pA N e o.dst v) ds' h') := by
        by_cases hn : og ops = true
        ·have hnd' : ∀ c, o.op ≠ .defer c := fun c hc => by
          have := Array.all_eq_true_iff_forall_mem.1 hn o (Array.mem_of_getElem? ho)
          simp [hc] at this
         simpa only [hn, true_implies] using xZ hnd' hq
        ·simpa [hn] using hq
       rw [← r.defers, ← r.heap] at hq2
       refine Oper.wp_mono ?_ (w8 (Q := Q) r.sm hx hq2)
       rintro a' w' ⟨v, ds', rfl, ⟨hds, hk⟩, hsm⟩
       obtain ⟨hk, hobl⟩ := zE hk
       refine ihm f _ _ _ _ _ _ _ (fun hn => (hds hn).trans (r.defers.trans (hnd hn))) (fun t ht => (rS (a := { a with defers := ds' }) ho ht).trans (hkp t ht)) hu' (r.push c ho hp hl hd rfl hsm (.inr fun j q hq hj hlj hld => ?_)) hk
       have hjm : j ∈ HP ops am done i := by
        unfold HP
        rw [List.mem_filter]
        refine ⟨List.mem_range.2 (jy hq), ?_⟩
        rw [hj, hq]
        simp only [Bool.true_and, hld, Bool.and_true, Bool.not_eq_true']
        cases hb : (am.getD i 0).testBit j with
        | false => rfl
        | true =>
         have := CZ r.downL (ha i j hb) ho hp r.size
         rw [this] at hlj; cases hlj
       obtain ⟨q', d, hq', hdq, hst⟩ := hobl j hjm
       rw [hq] at hq'; cases hq'
       exact ⟨d, hdq, hst⟩
     ·rw [hw]; simp only [Bool.false_eq_true, if_false]
      have e0 : a.put o.dst undef = ({ a with defers := ds } : Act).put o.dst undef := by rw [← r.defers]
      rw [e0]
      exact ihm f _ _ _ _ _ _ _ hnd (fun t ht => (rS ho ht).trans (hkp t ht)) hu' (r.push c ho hp hl hd r.heap r.sm (.inl rfl)) hs
end main
def CV [Gh] (P : Program) (N : Nat) (ops : Array Oper) (K : Env → List Deferred → aA → Prop) (e : Env) (ds : List Deferred) (h : aA) : Prop :=
 if IU P ops = true then vcD P N ops (Bm ops.toList []) K (ops.size + 1) 0 e ds h else False
theorem EWP.drawN [Gh] {Q : pP} {e : Env} {ds : List Deferred} {h : aA} {id : Nat} (K : Env → aA → Prop) (hn : og ops = true) (hm : P.follows .mixedOrders = true) (hh : CV P N ops (fun e _ h => K e h) e ds h)
  (hk : ∀ e' h, (∀ t, sS ops t = true → e' t = e t) → K e' h → Q .normal e' ds h) : EWP P N (.region id ops true) Q e ds h := by
 rintro a w hN rfl rfl rfl
 unfold CV at hh
 split at hh
 case isFalse => exact hh.elim
 rename_i hc
 refine wp_region_any hm ?_
 refine Fg (IV hc) (x5 ops.toList [] (fun k hk => by simp) (fun j i hb => by simp at hb)) (ds0 := a.defers) (e0 := ja a) (fun a' w' hd hkp hk' => ⟨hk'.1, by rw [hd hn]; exact hk _ _ hkp hk'.2⟩) _ _ _ 0 (ja a) a.defers w.heap a _ (fun _ => rfl) (fun _ _ => rfl) ?_ ?_ hh
 ·unfold unl; exact Nat.le_trans (List.length_filter_le _ _) (by simp)
 ·have lf : ∀ j, (Array.replicate ops.size false).getD j false = false := fun j => by
   simp only [Array.getD_eq_getD_getElem?, Array.getElem?_replicate]
   split <;> rfl
  exact { size := by simp, tmps := hN.1, sm := hN.2, defers := rfl, heap := rfl, sub := fun j hj => (by rw [lf] at hj; cases hj), down := fun j o ho hj => (by simp at hj), downL := fun j o ho hj => (by rw [lf] at hj; cases hj), pend := fun j o ho hj => (by simp at hj), env := fun t _ => rfl, hi := fun t ht => AO (by rw [hN.1]; exact ht) }
end
end Go.Proofs.YtjmfpeiidlpngaaGreatDoor
namespace Go.Proofs.YtjmfpeiidlpngaaGreatDoor
set_option linter.unusedSimpArgs false
set_option linter.unusedVariables false
set_option maxRecDepth 20000
open Go
theorem gG (b o n : Nat) : Addr.add ⟨b, o, none⟩ n = ⟨b, o + n, none⟩ := by
 unfold Addr.add; split
 ·rename_i h; subst h; rfl
 ·rfl
theorem ka {h : aA} {b o : Nat} {cs : Array Value} {t : TypeId} {fr : Nat × Nat} (hb : h[b]? = some (.cells cs t fr)) : hcell h ⟨b, o, none⟩ = cs[o]? := by
 unfold hcell; simp only [hb]; rfl
theorem w7 {h : aA} {b o : Nat} {cs : Array Value} {t : TypeId} (hb : h[b]? = some (.cells cs t (0, 0))) : pB h ⟨b, o, none⟩ = false := by
 unfold pB; simp only [hb]; simp
def Ii (n : Nat) (fr : Nat × Nat) : Prop := fr = (0, 0) ∨ n ≤ fr.1
theorem pX {h : aA} {b o : Nat} {cs : Array Value} {t : TypeId} {fr : Nat × Nat} (hb : h[b]? = some (.cells cs t fr)) (hf : Ii cs.size fr) (ho : o < cs.size) : pB h ⟨b, o, none⟩ = false := by
 unfold pB; simp only [hb]
 obtain ⟨lo, hi⟩ := fr
 rcases hf with hf | hf
 ·cases hf; simp
 ·simp only at hf
  have : decide (lo ≤ o) = false := by rw [decide_eq_false_iff_not]; omega
  simp [this]
theorem rT {h : aA} {b o : Nat} {cs : Array Value} {t : TypeId} {fr : Nat × Nat} {v : Value} (hb : h[b]? = some (.cells cs t fr)) :
  Fu h ⟨b, o, none⟩ v = h.setIfInBounds b (.cells (cs.setIfInBounds o v) t fr) := by
 have hlt : b < h.size := (Array.getElem?_eq_some_iff.1 hb).1
 have hg : h[b] = .cells cs t fr := (Array.getElem?_eq_some_iff.1 hb).2
 unfold Fu
 ext1
 ·simp
 ·rename_i i h1 h2
  rw [Array.getElem_modify, Array.getElem_setIfInBounds]
  by_cases hi : b = i
  ·subst hi; rw [if_pos rfl, if_pos rfl, hg]; rfl
  ·rw [if_neg hi, if_neg hi]
structure Fr (S : Nat → Prop) (h h' : aA) : Prop where
 size : h.size ≤ h'.size
 same : ∀ b, b < h.size → ¬ S b → h'[b]? = h[b]?
theorem Fr.refl (S : Nat → Prop) (h : aA) : Fr S h h := ⟨Nat.le_refl _, fun _ _ _ => rfl⟩
theorem Fr.trans {S : Nat → Prop} {h h1 h2 : aA} (a : Fr S h h1) (b : Fr S h1 h2) : Fr S h h2 :=
 ⟨Nat.le_trans a.size b.size, fun x hx hs => (b.same x (Nat.lt_of_lt_of_le hx a.size) hs).trans (a.same x hx hs)⟩
theorem Fr.mono {S S' : Nat → Prop} {h h' : aA} (a : Fr S h h') (hs : ∀ b, S b → S' b) : Fr S' h h' :=
 ⟨a.size, fun x hx hn => a.same x hx fun hsx => hn (hs x hsx)⟩
theorem Fr.tr {S S' : Nat → Prop} {h h1 h2 : aA} (a : Fr S h h1) (b : Fr S' h1 h2) (hs : ∀ x, x < h.size → S' x → S x) : Fr S h h2 :=
 ⟨Nat.le_trans a.size b.size, fun x hx hn => (b.same x (Nat.lt_of_lt_of_le hx a.size) fun hsx => hn (hs x hx hsx)).trans (a.same x hx hn)⟩
theorem Fr.mono' {S S' : Nat → Prop} {h h' : aA} (a : Fr S h h') (hs : ∀ b, b < h.size → S b → S' b) : Fr S' h h' :=
 ⟨a.size, fun x hx hn => a.same x hx fun hsx => hn (hs x hx hsx)⟩
theorem Fr.push (S : Nat → Prop) (h : aA) (o : Obj) : Fr S h (h.push o) :=
 ⟨by simp, fun b hb _ => by simp [Array.getElem?_push, Nat.ne_of_lt hb]⟩
theorem Fr.set {S : Nat → Prop} (h : aA) {b : Nat} (o : Obj) (hb : S b) : Fr S h (h.setIfInBounds b o) :=
 ⟨by simp, fun x _ hn => by rw [Array.getElem?_setIfInBounds_ne]; rintro rfl; exact hn hb⟩
theorem Fr.get {S : Nat → Prop} {h h' : aA} (a : Fr S h h') {b : Nat} {o : Obj} (hb : h[b]? = some o) (hs : ¬ S b) : h'[b]? = some o := by
 rw [a.same b (Array.getElem?_eq_some_iff.1 hb).1 hs]; exact hb
theorem pD {h : aA} {b : Nat} {o : Obj} (hb : h[b]? = some o) : b < h.size := (Array.getElem?_eq_some_iff.1 hb).1
theorem cW {h : aA} {x : Obj} : (h.push x)[h.size]? = some x := by simp
theorem lk {h : aA} {b : Nat} {o x : Obj} (hb : h[b]? = some o) : (h.setIfInBounds b x)[b]? = some x := by
 simp [pD hb]
def aW (h : aA) (a : Addr) (vs : List Value) : Prop := ∀ j (hj : j < vs.length), hcell h (a.add j) = some vs[j]
theorem Gy {P : Program} {h : aA} {a : Addr} {v : Value} {K : Value → aA → Prop} (hc : hcell h a = some v) (hk : K v h) : wpH P (load a) K h := ⟨v, hc, hk⟩
theorem vJ {P : Program} {h : aA} {a : Addr} {K : Array Value → aA → Prop} : ∀ (vs : List Value) (i : Nat) (acc : Array Value), (∀ j (hj : j < vs.length), hcell h (a.add (i + j)) = some vs[j]) →
  K (acc ++ vs.toArray) h → wpH P (loadCellsFrom a i vs.length acc) K h
 | [], i, acc, _, hk => by simpa [loadCellsFrom, pure, wpH] using hk
 | v :: vs, i, acc, hc, hk => by
  have h0 := hc 0 (by simp)
  simp only [Nat.add_zero, List.getElem_cons_zero] at h0
  simp only [List.length_cons, loadCellsFrom, bind]
  rw [aO]
  refine Gy h0 ?_
  refine vJ vs (i + 1) (acc.push v) (fun j hj => ?_) (by simpa using hk)
  have := hc (j + 1) (by simpa using hj)
  simpa [Nat.add_assoc, Nat.add_comm 1 j] using this
theorem u1 {P : Program} {h : aA} {a : Addr} {vs : List Value} {n : Nat} {K : Array Value → aA → Prop} (hn : vs.length = n) (hc : aW h a vs) (hk : K vs.toArray h) : wpH P (loadCells a n) K h := by
 subst hn
 exact vJ vs 0 #[] (fun j hj => by rw [Nat.zero_add]; exact hc j hj) (by simpa using hk)
def nK (cs : Array Value) (o : Nat) : List Value → Array Value
 | [] => cs
 | v :: vs => nK (cs.setIfInBounds o v) (o + 1) vs
theorem io : ∀ (vs : List Value) (cs : Array Value) (o : Nat), (nK cs o vs).size = cs.size
 | [], _, _ => rfl
 | v :: vs, cs, o => by rw [nK, io vs]; simp
theorem pT : ∀ (vs : List Value) (cs : Array Value) (o : Nat), o + vs.length ≤ cs.size → ∀ i : Nat, (nK cs o vs)[i]? = if o ≤ i ∧ i < o + vs.length then vs[i - o]? else cs[i]?
 | [], cs, o, _, i => by rw [nK, if_neg]; simp only [List.length_nil]; omega
 | v :: vs, cs, o, hs, i => by
  simp only [List.length_cons] at hs
  rw [nK, pT vs _ (o + 1) (by simp; omega) i]
  simp only [List.length_cons]
  by_cases h1 : o + 1 ≤ i ∧ i < o + 1 + vs.length
  ·rw [if_pos h1, if_pos (by omega)]
   have : i - o = (i - (o + 1)) + 1 := by omega
   rw [this, List.getElem?_cons_succ]
  ·rw [if_neg h1]
   by_cases h2 : i = o
   ·subst h2
    have hlt : i < cs.size := by omega
    rw [if_pos ⟨Nat.le_refl _, by omega⟩, Nat.sub_self, List.getElem?_cons_zero, Array.getElem?_setIfInBounds_self_of_lt hlt]
   ·rw [if_neg (by omega), Array.getElem?_setIfInBounds_ne (Ne.symm h2)]
theorem rh {P : Program} {b : Nat} {t : TypeId} {fr : Nat × Nat} {K : Unit → aA → Prop} {a : Addr} {o : Nat} (ha : ∀ i, a.add i = ⟨b, o + i, none⟩) :
  ∀ (vs : List Value) (i : Nat) (cs : Array Value) (h : aA), h[b]? = some (.cells cs t fr) → Ii cs.size fr → (∀ v ∈ vs, ee v = true) → o + i + vs.length ≤ cs.size →
  K () (h.setIfInBounds b (.cells (nK cs (o + i) vs) t fr)) → wpH P (storeCells a vs i) K h
 | [], i, cs, h, hb, _, _, _, hk => by
  have : h.setIfInBounds b (.cells cs t fr) = h := by
   ext1
   ·simp
   ·rename_i j h1 h2
    rw [Array.getElem_setIfInBounds]
    split
    ·rename_i hj; subst hj; exact ((Array.getElem?_eq_some_iff.1 hb).2).symm
    ·rfl
  simp only [nK, this] at hk
  exact hk
 | v :: vs, i, cs, h, hb, hf, hv, hs, hk => by
  simp only [List.length_cons] at hs
  unfold storeCells
  simp only [bind, store]
  refine ⟨hv v (by simp), ?_, ?_, ?_⟩
  ·rw [ha, ka hb, Array.getElem?_eq_getElem (by omega)]; rfl
  ·rw [ha, pX hb hf (by omega)]
  ·rw [ha, rT hb]
   refine rh ha vs (i + 1) (cs.setIfInBounds (o + i) v) _ (lk hb) (by simpa using hf) (fun x hx => hv x (by simp [hx])) (by simp; omega) ?_
   rw [Array.setIfInBounds_setIfInBounds]
   have : o + (i + 1) = o + i + 1 := by omega
   rw [this]; exact hk
end Go.Proofs.YtjmfpeiidlpngaaGreatDoor
namespace Go.Proofs.YtjmfpeiidlpngaaGreatDoor
set_option linter.unusedSimpArgs false
set_option linter.unusedVariables false
set_option maxRecDepth 20000
open Go
def qQ (h : aA) (a : Option Addr) (cap sz : Nat) (cs : List Value) : Prop :=
 match a with
 | none => cs = [] ∧ cap = 0
 | some ad => ad.off = 0 ∧ ad.spot = none ∧ ∃ ds t fr, Ii ds.size fr ∧ h[ad.block]? = some (.cells ds t fr) ∧ cap * sz ≤ ds.size ∧ cs.length ≤ ds.size ∧ ∀ i (hi : i < cs.length), ds[i]? = some cs[i]
def InA (a : Option Addr) (b : Nat) : Prop := ∃ ad, a = some ad ∧ ad.block = b
theorem qQ.lt {h : aA} {a : Option Addr} {cap sz : Nat} {cs : List Value} (ho : qQ h a cap sz cs) {b : Nat} (hb : InA a b) : b < h.size := by
 obtain ⟨ad, rfl, rfl⟩ := hb
 obtain ⟨_, _, ds, t, fr, _, hg, _⟩ := ho
 exact pD hg
theorem qQ.fr {S : Nat → Prop} {h h' : aA} {a : Option Addr} {cap sz : Nat} {cs : List Value} (ho : qQ h a cap sz cs) (hf : Fr S h h') (hs : ∀ b, InA a b → ¬ S b) : qQ h' a cap sz cs := by
 cases a with
 | none => exact ho
 | some ad =>
  obtain ⟨h1, h2, ds, t, fr, hfr, hg, hr⟩ := ho
  exact ⟨h1, h2, ds, t, fr, hfr, hf.get hg (hs _ ⟨ad, rfl, rfl⟩), hr⟩
theorem qQ.cells {h : aA} {ad : Addr} {cap sz : Nat} {cs : List Value} (ho : qQ h (some ad) cap sz cs) : aW h ad cs := by
 obtain ⟨h1, h2, ds, t, fr, hfr, hg, _, _, hc⟩ := ho
 intro j hj
 obtain ⟨b, o, s⟩ := ad
 simp only at h1 h2 hg
 subst h1 h2
 rw [gG, ka hg, Nat.zero_add]; exact hc j hj
inductive Src (h : aA) (sz : Nat) : Value → Nat → List Value → Prop
 | str (s : ByteArray) (hs : sz = 1) : Src h sz (.string s) s.size (s.data.toList.map fun b => .int .u8 b.toNat)
 | sl (a : Addr) (m c : Nat) (xs : List Value) (hl : xs.length = m * sz) (hc : aW h a xs) : Src h sz (.slice (some a) m c) m xs
 | nil (c : Nat) : Src h sz (.slice none 0 c) 0 []
section
variable {P : Program} {h : aA}
theorem Src.len {sz : Nat} {x : Value} {m : Nat} {xs : List Value} (s : Src h sz x m xs) : xs.length = m * sz := by
 cases s with
 | str s hs => subst hs; simp
 | sl a m c xs hl hc => exact hl
 | nil c => simp
theorem pC {sz : Nat} {x : Value} {m : Nat} {xs : List Value} {K : Array Value → aA → Prop} (s : Src h sz x m xs) (hk : K xs.toArray h) : wpH P (Builtin.firstCells sz m x) K h := by
 cases s with
 | str s hs =>
  have : (s.extract 0 s.size).data.map (fun b => Value.int .u8 b.toNat) = (s.data.toList.map fun b => Value.int .u8 b.toNat).toArray := by
   have : (s.extract 0 s.size) = s := by simp
   rw [this]
   apply Array.ext'
   simp
  unfold Builtin.firstCells
  simp only [pure, wpH]
  rw [this]; exact hk
 | sl a m c xs hl hc => exact u1 hl hc hk
 | nil c => exact hk
theorem Ek {sz : Nat} {x : Value} {m : Nat} {xs : List Value} {K : Nat → aA → Prop} (s : Src h sz x m xs) (hk : K m h) : wpH P (Builtin.lenOf x) K h := by
 cases s <;> exact hk
theorem EV (n : Nat) : ∀ (r c : Nat), Builtin.growBy n r c ≤ c + r * (n + 768) + n := by
 intro r
 induction r with
 | zero => intro c; simp [Builtin.growBy]
 | succ r ih =>
  intro c
  simp only [Builtin.growBy]
  split
  ·omega
  ·have := ih (c + (c + 768) / 4)
   have h2 : (r + 1) * (n + 768) = r * (n + 768) + (n + 768) := by rw [Nat.succ_mul]
   rw [h2]
   omega
theorem yU {need cap : Nat} (h : cap < need) : Builtin.nextslicecap need cap ≤ 8 * need + 4000 := by
 unfold Builtin.nextslicecap
 split
 ·omega
 ·split
  ·omega
  ·have := EV need 4 cap
   omega
theorem pY (z : Array Value) (n : Nat) : (Builtin.zeroCells z n).size = n * z.size := by simp [Builtin.zeroCells]
structure gM (P : Program) (sT el : TypeId) (i : TypeInfo) (z : Value) : Prop where
 und : P.underlying sT = some (.slice el)
 info : P.info? el = some i
 zero : i.zero = some z
 size : z.cells.size = i.size
 bytes : 0 < i.bytes
theorem vo {sT xT ty el : TypeId} {consts : Array Bool} {i : TypeInfo} {z : Value} {d : TypeDesc} (t : gM P sT el i z) (hX : P.underlying xT = some d) (hd : ∀ k, d ≠ .int k)
  {a : Option Addr} {n cap m : Nat} {cs xs : List Value} {x : Value} (ho : qQ h a cap i.size cs) (hn : cs.length = n * i.size) (hnc : n ≤ cap) (s : Src h i.size x m xs) (hv : ∀ v ∈ xs, ee v = true)
  (hlim : (8 * (n + m) + 4000) * i.bytes ≤ 2 ^ 48) {K : Value → aA → Prop}
  (hk : ∀ (a' : Option Addr) (cap' : Nat) (h' : aA), qQ h' a' cap' i.size (cs ++ xs) → n + m ≤ cap' → Fr (InA a) h h' → (∀ b, InA a' b → InA a b ∨ h.size ≤ b) → K (.slice a' (n + m) cap') h') :
  dN P .append #[sT, xT] ty consts #[.slice a n cap, x] h K := by
 have hxl := s.len
 unfold dN builtin
 simp only [bind]
 rw [aO]
 unfold Builtin.append_
 simp only [List.getElem?_toArray, List.getElem?_cons_zero, List.getElem?_cons_succ, bind]
 rw [aO]
 refine bP t.und ?_
 simp only
 rw [aO]
 refine rQ (by rw [t.info]; rfl) ?_
 have hsz : gK P el = i.size := by simp [gK, t.info]
 rw [hsz, aO]
 refine bP hX ?_
 have hfalse : (match d with | .int _ => true | _ => false) = false := by
  cases d <;> first | rfl | exact absurd rfl (hd _)
 simp only [pure, Sem.bind, hfalse]
 simp only [Bool.false_eq_true, if_false]
 rw [aO]
 refine Ek s ?_
 split
 case isTrue hle =>
  rw [aO]
  refine pC s ?_
  cases a with
  | none =>
   obtain ⟨rfl, rfl⟩ := ho
   have hm : m = 0 := by omega
   have hn0 : n = 0 := by omega
   subst hm hn0
   have : xs = [] := by rw [← List.length_eq_zero_iff, hxl]; simp
   subst this
   exact hk none 0 h ⟨rfl, rfl⟩ (by omega) (Fr.refl _ _) (fun b hb => .inl hb)
  | some ad =>
   obtain ⟨h1, h2, ds, ty', fr, hfr, hg, hcap, hlen, hc⟩ := ho
   obtain ⟨b, o, sp⟩ := ad
   simp only at h1 h2 hg
   subst h1 h2
   simp only
   rw [aO]
   have hadd : ∀ j, (Addr.add (Addr.add ⟨b, 0, none⟩ (n * i.size)) j) = ⟨b, n * i.size + j, none⟩ := fun j => by rw [gG, gG, Nat.zero_add]
   have hfit : n * i.size + xs.length ≤ ds.size := by
    have : (n + m) * i.size ≤ cap * i.size := Nat.mul_le_mul_right _ hle
    rw [Nat.add_mul] at this
    omega
   refine rh hadd xs 0 ds h hg hfr hv (by omega) ?_
   simp only [Nat.add_zero, pure, wpH, nxK]
   refine hk _ _ _ ⟨rfl, rfl, _, ty', fr, by rw [io]; exact hfr, lk hg, ?_, ?_, ?_⟩ hle (Fr.set _ _ ⟨_, rfl, rfl⟩) (fun b hb => .inl hb)
   ·rw [io]; exact hcap
   ·rw [io, List.length_append]; omega
   ·intro j hj
    rw [pT _ _ _ hfit]
    rw [List.length_append] at hj
    by_cases hjn : j < cs.length
    ·rw [if_neg (by omega), hc j hjn, List.getElem_append_left hjn]
    ·rw [if_pos (by omega), List.getElem_append_right (by omega), List.getElem?_eq_getElem (by omega)]
     congr 2; omega
 case isFalse hgt =>
  have hgt' : cap < n + m := by omega
  rw [aO]
  have hp : (2 : Nat) ^ 48 = 281474976710656 := by decide
  have hb1 : 1 ≤ i.bytes := t.bytes
  have hneed : 8 * (n + m) + 4000 ≤ 2 ^ 48 := Nat.le_trans (Nat.le_mul_of_pos_right _ t.bytes) hlim
  refine j8 t.info ?_
  have c1 : ¬ (((n + m : Nat) : Int) > IntKind.i64.max ∧ (False ∨ i.bytes = 0)) := by
   rintro ⟨_, h | h⟩
   ·exact h
   ·omega
  rw [if_neg c1]
  rw [aO]
  refine j8 t.info ?_
  have c2 : ¬ (Builtin.nextslicecap (n + m) cap * i.bytes > 2 ^ 48) := by
   have := Nat.mul_le_mul_right i.bytes (yU hgt')
   omega
  rw [if_neg c2]
  rw [aO]
  unfold choose
  refine ⟨fun q => ?_, fun hq => by simp [Question.forced] at hq⟩
  simp only [wpH, Question.cut]
  rw [aO]
  refine j8 t.info ?_
  have room : ∀ {K : Unit → aA → Prop} {b : Nat} {h : aA}, K () h → wpH P (askRoom b) K h := fun hk => by
   unfold askRoom; split <;> exact hk
  rw [aO]
  refine room ?_
  rw [aO]
  have sold : Src h i.size (.slice a n cap) n cs := by
   cases a with
   | none =>
    obtain ⟨rfl, rfl⟩ := ho
    have : n = 0 := by omega
    subst this; exact .nil _
   | some ad => exact .sl ad n cap cs hn ho.cells
  refine pC sold ?_
  rw [aO]
  refine pC s ?_
  rw [aO]
  have zr : ∀ {K : Value → aA → Prop} {h : aA}, K z h → wpH P (zeroValue el) K h := fun hk => by
   unfold zeroValue; simp only [bind]; rw [aO]; refine j8 t.info ?_; rw [t.zero]; exact hk
  refine zr ?_
  rw [aO]
  unfold newRow newObj
  simp only [bind, Sem.bind, wpH, pure, nxK]
  refine hk _ _ _ ⟨rfl, rfl, _, _, (0, 0), .inl rfl, cW, ?_, ?_, ?_⟩ (by omega) (Fr.push _ _ _) (fun b hb => ?_)
  ·simp only [Array.size_append, pY, t.size]
   simp only [List.size_toArray, hn, hxl]
   rw [← Nat.add_mul, ← Nat.add_mul]
   exact Nat.mul_le_mul_right _ (by omega)
  ·simp only [Array.size_append, List.size_toArray, List.length_append]; omega
  ·intro j hj
   have hja : j < (cs.toArray ++ xs.toArray).size := by simpa using hj
   rw [Array.getElem?_append_left hja]
   simp only [List.append_toArray, List.getElem?_toArray]
   exact List.getElem?_eq_getElem hj
  ·obtain ⟨ad, he, rfl⟩ := hb
   cases he
   exact .inr (Nat.le_refl _)
end
end Go.Proofs.YtjmfpeiidlpngaaGreatDoor
namespace Go.Proofs.YtjmfpeiidlpngaaGreatDoor
set_option linter.unusedSimpArgs false
set_option linter.unusedVariables false
set_option maxRecDepth 20000
open Go
def vx (b : UInt8) : Value := .int .u8 b.toNat
def dX (l : List UInt8) : List Value := l.map vx
theorem jm (l : List UInt8) : (dX l).length = l.length := by simp [dX]
theorem AK (l : List UInt8) : ∀ v ∈ dX l, ee v = true := by
 intro v hv; obtain ⟨b, _, rfl⟩ := List.mem_map.1 hv; rfl
section
variable {P : Program} {h : aA}
theorem vg {K : ByteArray → aA → Prop} : ∀ (l : List UInt8) (s : ByteArray), K ⟨s.data ++ l.toArray⟩ h →
  wpH P (forIn (dX l) s fun c s => do
   let .int .u8 n := c | stuck "bytesToString: byte expected"
   pure (ForInStep.yield (s.push (UInt8.ofNat n.toNat)))) K h
 | [], s, hk => by simpa [dX, pure, wpH] using hk
 | b :: l, s, hk => by
  simp only [dX, List.map_cons, vx]
  rw [List.forIn_cons]
  simp only [bind, pure, Sem.bind]
  have := vg l (s.push (UInt8.ofNat b.toNat)) (K := K) (by
   have e : (UInt8.ofNat b.toNat) = b := by simp
   rw [e]
   have : (s.push b).data ++ l.toArray = s.data ++ (b :: l).toArray := by
    simp [ByteArray.push]
   rw [this]; exact hk)
  simpa [dX, vx, bind, pure, Sem.bind] using this
theorem r7 {sT dT e : TypeId} (hs : P.underlying sT = some (.slice e)) (hd : P.underlying dT = some .string) (he : P.underlying e = some (.int .u8)) {a : Option Addr} {n c : Nat} {l : List UInt8}
  (hl : l.length = n) (hc : ∀ ad, a = some ad → aW h ad (dX l)) (hn : a = none → l = []) {K : Value → aA → Prop} (hk : K (.string ⟨l.toArray⟩) h) : oJ P sT dT (.slice a n c) h K := by
 unfold oJ convert
 simp only [bind]
 rw [aO]; refine bP hs ?_
 rw [aO]; refine bP hd ?_
 simp only
 rw [aO]; refine bP he ?_
 simp only
 unfold Conv.bytesToString
 cases a with
 | none =>
  have := hn rfl; subst this
  exact hk
 | some ad =>
  simp only [bind]
  rw [aO]
  refine u1 (vs := dX l) (by rw [jm, hl]) (hc ad rfl) ?_
  rw [aO]
  rw [← Array.forIn_toList]
  refine lJ _ ?_ (vg (K := fun s h' => K (.string s) h') l ByteArray.empty (by
   have e : ByteArray.empty.data ++ l.toArray = l.toArray := Array.empty_append
   rw [e]; exact hk))
  intro s h' hk'; exact hk'
end
end Go.Proofs.YtjmfpeiidlpngaaGreatDoor
namespace Go.Proofs.YtjmfpeiidlpngaaGreatDoor
set_option linter.unusedSimpArgs false
set_option linter.unusedVariables false
set_option maxRecDepth 20000
open Go
def bs (l : List UInt8) : ByteArray := ⟨l.toArray⟩
theorem HF (s : ByteArray) : ∃ l, s = bs l := ⟨s.data.toList, by simp [bs]⟩
theorem lj (l : List UInt8) : (bs l).toList = l := ByteArray.toList_mk l
theorem wc (l : List UInt8) : (bs l).data.toList = l := by simp [bs]
theorem bR (l : List UInt8) : (bs l).size = l.length := by simp [bs, ByteArray.size]
theorem wP (l m : List UInt8) : bs l ++ bs m = bs (l ++ m) := by
 ext1; simp [bs]
theorem vm (l : List UInt8) (a b : Nat) : (bs l).extract a b = bs ((l.drop a).take (b - a)) := by
 ext1; simp [bs]
theorem Iq (l : List UInt8) (b : Nat) : (bs l).extract 0 b = bs (l.take b) := by rw [vm]; simp
theorem H3 (l : List UInt8) (a : Nat) : (bs l).extract a l.length = bs (l.drop a) := by
 rw [vm, List.take_of_length_le (by simp)]
theorem JI (l : List UInt8) (n : Int) : bAt (bs l) n = ((l.getD n.toNat 0).toNat : Int) := by
 simp [bAt, bs]
theorem Jb (l m : List UInt8) : (bs l == bs m) = (l == m) := by
 have e : (bs l == bs m) = (l.toArray == m.toArray) := rfl
 rw [e, Bool.eq_iff_iff, beq_iff_eq, beq_iff_eq]; simp
theorem wr {x : Int} (h1 : -9223372036854775808 ≤ x) (h2 : x ≤ 9223372036854775807) : IntKind.wrap .i64 x = x := by
 unfold IntKind.wrap IntKind.bits IntKind.signed
 simp only [Bool.true_and, decide_eq_true_eq, ge_iff_le]
 split <;> omega
theorem Kt : IntKind.max .i64 = 9223372036854775807 := by rfl
theorem Br (l : List UInt8) (n : Int) (K : Int → Prop) (h0 : 0 ≤ n) (h1 : n < l.length) (hk : K ((l.getD n.toNat 0).toNat : Int)) : rY (bs l) n K := by
 refine ⟨h0, by rw [bR]; exact h1, ?_⟩
 rw [JI]; exact hk
end Go.Proofs.YtjmfpeiidlpngaaGreatDoor
namespace Go.Proofs.YtjmfpeiidlpngaaGreatDoor
set_option linter.unusedSimpArgs false
set_option linter.unusedVariables false
set_option maxRecDepth 20000
open Go Go.RowKit
theorem yf [Gh] {P : Program} {f : FuncId} {args : Array Value} {w : World} {K : Value → aA → Prop} (hs : Sm w) (hc : (callFunc f args).run P w = .ok (.enter f args) w)
  (h : aD P f args w.heap K) : Calls P f args w fun e w' => ∃ v, e = .returned v ∧ K v w'.heap ∧ Sm w' := by
 have := h w rfl hs
 rw [hc] at this
 exact this
theorem GI {w w' : World} (hs : @Sm ⟨w⟩ w') (f : Fr (fun _ => False) w.heap w'.heap) : Below w.heap.size w w' :=
 ⟨hs.1, hs.2.1, hs.2.2, f.size, fun k hk => f.same k hk id⟩
theorem EW {P : Program} {f : FuncId} {args : Array Value} {w : World} (hc : ∀ w : World, (callFunc f args).run P w = .ok (.enter f args) w)
  (h : [Gh] → ∀ Q : Value → aA → Prop, (∀ h', Fr (fun _ => False) w.heap h' → Q (.bool true) h') → aD P f args w.heap Q) :
  Calls P f args w fun e w' => e = .returned (.bool true) ∧ Below w.heap.size w w' := by
 letI : Gh := ⟨w⟩
 refine (yf ⟨rfl, rfl, rfl⟩ (hc w) (h (fun v h' => v = .bool true ∧ Fr (fun _ => False) w.heap h') fun h' hf => ⟨rfl, hf⟩)).mono ?_
 rintro e w' ⟨v, rfl, ⟨rfl, hf⟩, hs⟩
 exact ⟨rfl, GI hs hf⟩
end Go.Proofs.YtjmfpeiidlpngaaGreatDoor
namespace Go.Proofs.YtjmfpeiidlpngaaGreatDoor
set_option linter.unusedSimpArgs false
set_option linter.unusedVariables false
set_option maxRecDepth 20000
open Go
theorem bH {h : aA} {a : Addr} {s : ByteArray} {K : ByteArray → Prop} (hc : hcell h a = some (.string s)) (hk : K s) : ldS h a K := ⟨s, hc, hk⟩
theorem aB {h : aA} {a : Addr} {k : IntKind} {n : Int} {K : Int → Prop} (hc : hcell h a = some (.int k n)) (hk : K n) : ldI h a k K := ⟨n, hc, hk⟩
theorem aN {h : aA} {a : Addr} {n : Bool} {K : Bool → Prop} (hc : hcell h a = some (.bool n)) (hk : K n) : ldB h a K := ⟨n, hc, hk⟩
theorem wr8 {x : Int} (h1 : 0 ≤ x) (h2 : x ≤ 255) : IntKind.wrap .u8 x = x := by
 unfold IntKind.wrap IntKind.bits IntKind.signed
 simp
 omega
theorem Fr.hcell {S : Nat → Prop} {h h' : aA} (f : Fr S h h') {a : Addr} {v : Value} (hc : Go.Proofs.YtjmfpeiidlpngaaGreatDoor.hcell h a = some v) (hn : ¬ S a.block) : Go.Proofs.YtjmfpeiidlpngaaGreatDoor.hcell h' a = some v := by
 unfold Go.Proofs.YtjmfpeiidlpngaaGreatDoor.hcell at hc ⊢
 cases hb : h[a.block]? with
 | none => rw [hb] at hc; simp at hc
 | some o => rw [f.get hb hn]; rw [hb] at hc; exact hc
theorem uv (a : Addr) (n : Nat) : (a.add n).block = a.block := by unfold Addr.add; split <;> rfl
theorem Gb {h : aA} {a : Addr} {v : Value} (hc : hcell h a = some v) : a.block < h.size := by
 unfold hcell at hc
 cases hb : h[a.block]? with
 | none => rw [hb] at hc; simp at hc
 | some o => exact pD hb
theorem Bj {b : Nat} {t : TypeId} {K : aA → Prop} : ∀ (vs : List Value) (i : Nat) (cs : Array Value) (h : aA), h[b]? = some (.cells cs t (0, 0)) → (∀ v ∈ vs, ee v = true) → i + vs.length ≤ cs.size →
  K (h.setIfInBounds b (.cells (nK cs i vs) t (0, 0))) → stN h ⟨b, 0, none⟩ vs i K
 | [], i, cs, h, hb, _, _, hk => by
  have : h.setIfInBounds b (.cells cs t (0, 0)) = h := by
   apply Array.ext_getElem?
   intro j
   rw [Array.getElem?_setIfInBounds]
   split
   ·rename_i e; subst e
    split
    ·exact hb.symm
    ·rename_i hj; exact (Array.getElem?_eq_none (by omega)).symm
   ·rfl
  unfold nK at hk; rw [this] at hk; exact hk
 | v :: vs, i, cs, h, hb, hv, hl, hk => by
  simp only [List.length_cons] at hl
  unfold stN
  rw [gG, Nat.zero_add]
  refine ⟨hv v (by simp), ?_, w7 hb, ?_⟩
  ·rw [ka hb, Array.getElem?_eq_getElem (by omega)]; rfl
  ·rw [rT hb]
   refine Bj vs (i + 1) _ _ (lk hb) (fun x hx => hv x (by simp [hx])) (by simp; omega) ?_
   rw [Array.setIfInBounds_setIfInBounds]
   exact hk
theorem Jz {h : aA} {t : TypeId} {zs vs : List Value} {K : Addr → aA → Prop} (hv : ∀ v ∈ vs, ee v = true) (hl : vs.length = zs.length) (hs : nK zs.toArray 0 vs = vs.toArray)
  (hk : K ⟨h.size, 0, none⟩ (h.push (.cells vs.toArray t (0, 0)))) : alV h (.cells zs.toArray t) fun a h1 => stN h1 a vs 0 fun h2 => K a h2 := by
 unfold alV
 refine Bj vs 0 zs.toArray _ cW hv (by simp; omega) ?_
 have : (h.push (.cells zs.toArray t (0, 0))).setIfInBounds h.size (.cells (nK zs.toArray 0 vs) t (0, 0)) = h.push (.cells vs.toArray t (0, 0)) := by
  rw [hs]
  apply Array.ext_getElem?
  intro j
  rw [Array.getElem?_setIfInBounds, Array.getElem?_push, Array.getElem?_push]
  by_cases e : j = h.size
  ·subst e; simp
  ·rw [if_neg (fun x => e x.symm), if_neg e, if_neg e]
 rw [this]; exact hk
theorem aV {h : aA} {a : Addr} {p : Option Addr} {K : Option Addr → Prop} (hc : hcell h a = some (.pointer p)) (hk : K p) : ldP h a K := ⟨p, hc, hk⟩
theorem aC {h : aA} {a : Addr} {p : Option Addr} {n c : Nat} {K : Option Addr → Nat → Nat → Prop} (hc : hcell h a = some (.slice p n c)) (hk : K p n c) : ldL h a K := ⟨p, n, c, hc, hk⟩
theorem GY {h : aA} {o : Obj} {K : Addr → aA → Prop} (hk : K ⟨h.size, 0, none⟩ (h.push o)) : alV h o K := hk
theorem dR {x : Nat} : ¬ InA none x := by
 rintro ⟨_, h, _⟩; cases h
end Go.Proofs.YtjmfpeiidlpngaaGreatDoor
namespace Go.Proofs.YtjmfpeiidlpngaaGreatDoor
set_option linter.unusedSimpArgs false
set_option linter.unusedVariables false
set_option maxRecDepth 20000
open Go
abbrev QT := Value → aA → Prop
abbrev XC := Exit → Env → aA → Prop
abbrev uD := List (Nat × (Env → aA → Prop))
def look : uD → Nat → Option (Env → aA → Prop)
 | [], _ => none
 | (m, K) :: r, n => bif Nat.beq m n then some K else look r n
def hd : Code → Nat
 | .region id _ _ => id + 1
 | .seq x y => match hd x with | 0 => hd y | n + 1 => n + 1
 | .cond _ x y => match hd x with | 0 => hd y | n + 1 => n + 1
 | .block _ c => hd c
 | .loop c => hd c
 | .scope c => hd c
 | _ => 0
def Fc : Code → Bool
 | .region _ _ _ => true
 | .seq x _ => Fc x
 | .block _ c => Fc c
 | .loop c => Fc c
 | .scope c => Fc c
 | _ => false
def ky (c : Code) : Nat := bif Fc c then 2 * hd c else 0
def kx (c : Code) : Nat := bif Fc c then 2 * hd c + 1 else 0
def DJ : Code → Bool
 | .label _ => true
 | _ => false
def nrm (K : Env → aA → Prop) (X : XC) : XC := fun x => match x with | .normal => K | y => X y
def blk (id : Nat) (X : XC) : XC := fun x => match x with | .exit i => (bif Nat.beq i id then X .normal else X (.exit i)) | y => X y
def orK (o : Option (Env → aA → Prop)) (K : Env → aA → Prop) : Env → aA → Prop := match o with | some L => L | none => K
def vcC [Gh] (P : Program) (N : Nat) (ct lp : uD) : Code → XC → Env → aA → Prop
 | .region _ ops draw, X, e, h =>
  if og ops = true then (bif draw then CV P N ops (fun e _ h => X .normal e h) e [] h else Aj P N ops (fun e _ h => X .normal e h) (List.range ops.size) e [] h) else False
 | .seq x y, X, e, h => bif DJ x then orK (look lp (2 * hd y + 1)) (fun _ _ => False) e h else vcC P N ct lp x (nrm (orK (look ct (ky y)) (vcC P N ct lp y X)) X) e h
 | .cond c x y, X, e, h =>
  match eev e c with
  | .bool b => if b = true then orK (look ct (kx x)) (vcC P N ct lp x X) e h else orK (look ct (kx y)) (vcC P N ct lp y X) e h
  | _ => False
 | .block id c, X, e, h => vcC P N ct lp c (blk id X) e h
 | .loop c, _, e, h => orK (look lp (2 * hd c)) (fun _ _ => False) e h
 | .scope c, _, e, h => orK (look lp (2 * hd c + 1)) (fun _ _ => False) e h
 | .skip, X, e, h => X .normal e h
 | .exit id, X, e, h => X (.exit id) e h
 | .goto l, X, e, h => X (.goto l) e h
 | .ret, X, e, h => X .ret e h
 | _, _, _, _ => False
def lZ [Gh] (P : Program) (N : Nat) (ct lp : uD) : Code → XC → Nat → List (Env → aA → Prop)
 | .seq x y, X, n => bif DJ x then [] else (bif Nat.beq (ky y) n then [vcC P N ct lp y X] else []) ++ (lZ P N ct lp x (nrm (orK (look ct (ky y)) (vcC P N ct lp y X)) X) n ++ lZ P N ct lp y X n)
 | .cond _ x y, X, n => ((bif Nat.beq (kx x) n then [vcC P N ct lp x X] else []) ++ (bif Nat.beq (kx y) n then [vcC P N ct lp y X] else [])) ++ (lZ P N ct lp x X n ++ lZ P N ct lp y X n)
 | .block id c, X, n => lZ P N ct lp c (blk id X) n
 | _, _, _ => []
def iX [Gh] (P : Program) (N : Nat) (ct lp : uD) : Code → XC → Nat → List (Code × XC)
 | .seq x y, X, n => bif DJ x then (bif Nat.beq (2 * hd y + 1) n then [(.seq x y, X)] else []) else iX P N ct lp x (nrm (orK (look ct (ky y)) (vcC P N ct lp y X)) X) n ++ iX P N ct lp y X n
 | .cond _ x y, X, n => iX P N ct lp x X n ++ iX P N ct lp y X n
 | .block id c, X, n => iX P N ct lp c (blk id X) n
 | .loop c, X, n => bif Nat.beq (2 * hd c) n then [(.loop c, X)] else []
 | .scope c, X, n => bif Nat.beq (2 * hd c + 1) n then [(.scope c, X)] else []
 | _, _, _ => []
def jx : Code → Nat → Bool
 | .region _ ops _, t => sS ops t
 | .seq x y, t => jx x t && jx y t
 | .cond _ x y, t => jx x t && jx y t
 | .block _ c, t => jx c t
 | .loop c, t => jx c t
 | .scope c, t => jx c t
 | _, _ => true
def oD (kp : Nat → Bool) (e0 e : Env) : Prop := ∀ t, kp t = true → e t = e0 t
theorem oD.refl (kp : Nat → Bool) (e : Env) : oD kp e e := fun _ _ => rfl
theorem oD.trans {kp : Nat → Bool} {a b c : Env} (h1 : oD kp a b) (h2 : oD kp b c) : oD kp a c := fun t ht => (h2 t ht).trans (h1 t ht)
theorem oD.mono {kp kq : Nat → Bool} {a b : Env} (h : oD kp a b) (hs : ∀ t, kq t = true → kp t = true) : oD kq a b := fun t ht => h t (hs t ht)
def toQ (kp : Nat → Bool) (e0 : Env) (X : XC) : pP := fun x e' ds' h' => ds' = [] ∧ oD kp e0 e' ∧ X x e' h'
def CW [Gh] (P : Program) (N : Nat) (kp : Nat → Bool) (e0 : Env) (L : Env → aA → Prop) (p : Code × XC) : Prop :=
 ∀ e h, oD kp e0 e → L e h → EWP P N p.1 (toQ kp e0 p.2) e [] h
section
variable [Gh] {P : Program} {N : Nat} {ct lp : uD} {kp : Nat → Bool} {e0 : Env}
theorem Eq (hm : P.follows .mixedOrders = true) : ∀ (c : Code) (X : XC) (Q : pP), (∀ t, kp t = true → jx c t = true) →
  (∀ x e h, oD kp e0 e → X x e h → Q x e [] h) →
  (∀ n K, look ct n = some K → ∀ g ∈ lZ P N ct lp c X n, ∀ e h, oD kp e0 e → K e h → g e h) →
  (∀ n L, look lp n = some L → ∀ p ∈ iX P N ct lp c X n, CW P N kp e0 L p) →
  ∀ e h, oD kp e0 e → vcC P N ct lp c X e h → EWP P N c Q e [] h := by
 intro c
 induction c with
 | skip => intro X Q _ hX _ _ e h he hv; exact EWP.skip (hX _ _ _ he hv)
 | region id ops draw =>
  intro X Q hkp hX _ _ e h he hv
  unfold vcC at hv
  split at hv
  case isFalse => exact hv.elim
  rename_i hn
  have kept : ∀ e', (∀ t, sS ops t = true → e' t = e t) → oD kp e0 e' := fun e' hk t ht => (hk t (hkp t ht)).trans (he t ht)
  cases draw with
  | false => exact EWP.regionN _ hn hv fun e' h' hk hx => hX _ _ _ (kept e' hk) hx
  | true => exact EWP.drawN _ hn hm hv fun e' h' hk hx => hX _ _ _ (kept e' hk) hx
 | seq x y ihx ihy =>
  intro X Q hkp hX hc hl e h he hv
  unfold vcC at hv
  cases hlb : DJ x with
  | true =>
   rw [hlb] at hv
   simp only [cond_true] at hv
   cases hL : look lp (2 * hd y + 1) with
   | none => rw [hL] at hv; exact hv.elim
   | some L =>
    rw [hL] at hv
    refine EWP.mono (hl _ L hL (.seq x y, X) (by unfold iX; rw [hlb, Nat.beq_refl]; exact List.mem_singleton.2 rfl) e h he hv) ?_
    rintro x e' ds' h' ⟨rfl, hk, hx⟩
    exact hX _ _ _ hk hx
  | false =>
  rw [hlb] at hv
  simp only [cond_false] at hv
  refine EWP.seq (fun e' ds' h' => ds' = [] ∧ oD kp e0 e' ∧ orK (look ct (ky y)) (vcC P N ct lp y X) e' h') ?_ ?_
  ·refine ihx _ _ (fun t ht => by have := hkp t ht; simp only [jx, Bool.and_eq_true] at this; exact this.1) ?_ ?_ ?_ e h he hv
   ·intro ex e' h' hk hx
    cases ex with
    | normal => exact ⟨rfl, hk, hx⟩
    | _ => exact hX _ _ _ hk hx
   ·intro n K hK g hg; exact hc n K hK g (by unfold lZ; rw [hlb]; exact List.mem_append_right _ (List.mem_append_left _ hg))
   ·intro n L hL p hp; exact hl n L hL p (by unfold iX; rw [hlb]; exact List.mem_append_left _ hp)
  ·rintro e' ds' h' ⟨rfl, hk, hx⟩
   refine ihy X Q (fun t ht => by have := hkp t ht; simp only [jx, Bool.and_eq_true] at this; exact this.2) hX ?_ ?_ e' h' hk ?_
   ·intro n K hK g hg; exact hc n K hK g (by unfold lZ; rw [hlb]; exact List.mem_append_right _ (List.mem_append_right _ hg))
   ·intro n L hL p hp; exact hl n L hL p (by unfold iX; rw [hlb]; exact List.mem_append_right _ hp)
   ·cases hK : look ct (ky y) with
    | none => rw [hK] at hx; exact hx
    | some K =>
     rw [hK] at hx
     refine hc (ky y) K hK _ ?_ e' h' hk hx
     unfold lZ
     rw [hlb]
     refine List.mem_append_left _ ?_
     rw [Nat.beq_refl]; exact List.mem_singleton.2 rfl
 | cond cc x y ihx ihy =>
  intro X Q hkp hX hc hl e h he hv
  unfold vcC at hv
  split at hv
  case h_2 => exact hv.elim
  rename_i b hb
  refine EWP.cond hb (fun ht => ?_) (fun hf => ?_)
  ·rw [if_pos ht] at hv
   have hv : vcC P N ct lp x X e h := by
    cases hK : look ct (kx x) with
    | none => rw [hK] at hv; exact hv
    | some K =>
     rw [hK] at hv
     refine hc (kx x) K hK _ ?_ e h he hv
     unfold lZ
     refine List.mem_append_left _ (List.mem_append_left _ ?_)
     rw [Nat.beq_refl]; exact List.mem_singleton.2 rfl
   refine ihx X Q (fun t ht => by have := hkp t ht; simp only [jx, Bool.and_eq_true] at this; exact this.1) hX ?_ ?_ e h he hv
   ·intro n K hK g hg; exact hc n K hK g (by unfold lZ; exact List.mem_append_right _ (List.mem_append_left _ hg))
   ·intro n L hL p hp; exact hl n L hL p (by unfold iX; exact List.mem_append_left _ hp)
  ·rw [if_neg (by simp [hf])] at hv
   have hv : vcC P N ct lp y X e h := by
    cases hK : look ct (kx y) with
    | none => rw [hK] at hv; exact hv
    | some K =>
     rw [hK] at hv
     refine hc (kx y) K hK _ ?_ e h he hv
     unfold lZ
     refine List.mem_append_left _ (List.mem_append_right _ ?_)
     rw [Nat.beq_refl]; exact List.mem_singleton.2 rfl
   refine ihy X Q (fun t ht => by have := hkp t ht; simp only [jx, Bool.and_eq_true] at this; exact this.2) hX ?_ ?_ e h he hv
   ·intro n K hK g hg; exact hc n K hK g (by unfold lZ; exact List.mem_append_right _ (List.mem_append_right _ hg))
   ·intro n L hL p hp; exact hl n L hL p (by unfold iX; exact List.mem_append_right _ hp)
 | block id c ih =>
  intro X Q hkp hX hc hl e h he hv
  unfold vcC at hv
  refine EWP.block (ih (blk id X) (Dg id Q) hkp ?_ (fun n K hK g hg => hc n K hK g hg) (fun n L hL p hp => hl n L hL p hp) e h he hv)
  intro ex e' h' hk hx
  cases ex with
  | exit i =>
   unfold blk at hx
   simp only at hx
   show (if i = id then Q .normal e' [] h' else Q (.exit i) e' [] h')
   cases hi : Nat.beq i id with
   | true => rw [hi] at hx; rw [if_pos (Nat.eq_of_beq_eq_true hi)]; exact hX _ _ _ hk hx
   | false => rw [hi] at hx; rw [if_neg (fun e => by subst e; rw [Nat.beq_refl] at hi; cases hi)]; exact hX _ _ _ hk hx
  | _ => exact hX _ _ _ hk hx
 | loop c ih =>
  intro X Q hkp hX _ hl e h he hv
  unfold vcC at hv
  cases hL : look lp (2 * hd c) with
  | none => rw [hL] at hv; exact hv.elim
  | some L =>
   rw [hL] at hv
   refine EWP.mono (hl _ L hL (.loop c, X) (by unfold iX; rw [Nat.beq_refl]; exact List.mem_singleton.2 rfl) e h he hv) ?_
   rintro x e' ds' h' ⟨rfl, hk, hx⟩
   exact hX _ _ _ hk hx
 | scope c ih =>
  intro X Q hkp hX _ hl e h he hv
  unfold vcC at hv
  cases hL : look lp (2 * hd c + 1) with
  | none => rw [hL] at hv; exact hv.elim
  | some L =>
   rw [hL] at hv
   refine EWP.mono (hl _ L hL (.scope c, X) (by unfold iX; rw [Nat.beq_refl]; exact List.mem_singleton.2 rfl) e h he hv) ?_
   rintro x e' ds' h' ⟨rfl, hk, hx⟩
   exact hX _ _ _ hk hx
 | exit id => intro X Q _ hX _ _ e h he hv; exact EWP.exit (hX _ _ _ he hv)
 | goto l => intro X Q _ hX _ _ e h he hv; exact EWP.goto (hX _ _ _ he hv)
 | ret => intro X Q _ hX _ _ e h he hv; exact EWP.ret (hX _ _ _ he hv)
 | label l => intro X Q _ _ _ _ e h _ hv; unfold vcC at hv; exact hv.elim
 | rangeFunc f p a b => intro X Q _ _ _ _ e h _ hv; unfold vcC at hv; exact hv.elim
 | refuse w => intro X Q _ _ _ _ e h _ hv; unfold vcC at hv; exact hv.elim
end
def vH : List (Nat × Value) → Env → Env
 | [], e => e
 | (t, v) :: l, e => upd (vH l e) t v
def Ag (e : Env) (L : List (Nat × Value)) : Prop := ∀ p ∈ L, e p.1 = p.2
theorem Ag.nil {e : Env} : Ag e [] := fun _ h => by cases h
theorem Ag.cons {e : Env} {L : List (Nat × Value)} (h : Ag e L) {t : Nat} {v : Value} (ht : e t = v) : Ag e ((t, v) :: L) := by
 intro p hp
 rcases List.mem_cons.1 hp with rfl | hp
 ·exact ht
 ·exact h p hp
theorem Ag.app {e : Env} {L M : List (Nat × Value)} (h : Ag e L) (g : Ag e M) : Ag e (L ++ M) := by
 intro p hp
 rcases List.mem_append.1 hp with hp | hp
 ·exact h p hp
 ·exact g p hp
theorem Ag.take {e : Env} {L : List (Nat × Value)} (h : Ag e L) (n : Nat) : Ag e (L.take n) := fun p hp => h p (List.mem_of_mem_take hp)
theorem Ag.keep {e e' : Env} {kq : Nat → Bool} {L : List (Nat × Value)} (h : Ag e L) (hk : oD kq e e') : Ag e' (L.filter fun p => kq p.1) := by
 intro p hp
 obtain ⟨h1, h2⟩ := List.mem_filter.1 hp
 exact (hk _ h2).trans (h p h1)
theorem Ag.over {e : Env} : ∀ {L : List (Nat × Value)}, Ag e L → vH L e = e
 | [], _ => rfl
 | (t, v) :: l, h => by
  show upd (vH l e) t v = e
  rw [Ag.over (L := l) (fun p hp => h p (List.mem_cons_of_mem _ hp))]
  exact tU (h (t, v) (List.mem_cons_self ..))
def dV (v : Value) (K : Value → Prop) : Prop := K v
theorem eI {e : Env} {L : List (Nat × Value)} (F : Ag e L) {k : IntKind} {t : Nat} {K : Int → Prop} (h : dI k (e t) K) : ∃ n, Ag e ((t, .int k n) :: L) ∧ K n := by
 obtain ⟨n, h1, h2⟩ := DO h; exact ⟨n, F.cons h1, h2⟩
theorem eB {e : Env} {L : List (Nat × Value)} (F : Ag e L) {t : Nat} {K : Bool → Prop} (h : dB (e t) K) : ∃ n, Ag e ((t, .bool n) :: L) ∧ K n := by
 obtain ⟨n, h1, h2⟩ := DI h; exact ⟨n, F.cons h1, h2⟩
theorem eS {e : Env} {L : List (Nat × Value)} (F : Ag e L) {t : Nat} {K : ByteArray → Prop} (h : dS (e t) K) : ∃ n, Ag e ((t, .string n) :: L) ∧ K n := by
 obtain ⟨n, h1, h2⟩ := Eh h; exact ⟨n, F.cons h1, h2⟩
theorem eP {e : Env} {L : List (Nat × Value)} (F : Ag e L) {t : Nat} {K : Option Addr → Prop} (h : dP (e t) K) : ∃ n, Ag e ((t, .pointer n) :: L) ∧ K n := by
 obtain ⟨n, h1, h2⟩ := D4 h; exact ⟨n, F.cons h1, h2⟩
theorem eA {e : Env} {L : List (Nat × Value)} (F : Ag e L) {t : Nat} {K : Addr → Prop} (h : dA (e t) K) : ∃ n, Ag e ((t, .pointer (some n)) :: L) ∧ K n := by
 obtain ⟨n, h1, h2⟩ := D0 h; exact ⟨n, F.cons h1, h2⟩
theorem eL {e : Env} {L : List (Nat × Value)} (F : Ag e L) {t : Nat} {K : Option Addr → Nat → Nat → Prop} (h : dL (e t) K) : ∃ a n c, Ag e ((t, .slice a n c) :: L) ∧ K a n c := by
 obtain ⟨a, n, c, h1, h2⟩ := DS h; exact ⟨a, n, c, F.cons h1, h2⟩
theorem eM {e : Env} {L : List (Nat × Value)} (F : Ag e L) {t : Nat} {K : Option Nat → Prop} (h : dM (e t) K) : ∃ n, Ag e ((t, .map n) :: L) ∧ K n := by
 obtain ⟨n, h1, h2⟩ := DK h; exact ⟨n, F.cons h1, h2⟩
theorem eV {e : Env} {L : List (Nat × Value)} (F : Ag e L) {t : Nat} {K : Value → Prop} (h : dV (e t) K) : ∃ n, Ag e ((t, n) :: L) ∧ K n := ⟨_, F.cons rfl, h⟩
theorem eG {e : Env} {L : List (Nat × Value)} (F : Ag e L) {t : Nat} {K : List Value → Prop} (h : dG (e t) K) : ∃ l, Ag e ((t, .agg l.toArray) :: L) ∧ K l := by
 obtain ⟨n, h1, h2⟩ := Ec h; exact ⟨n, F.cons h1, h2⟩
theorem eT {e : Env} {L : List (Nat × Value)} (F : Ag e L) {t : Nat} {K : List Value → Prop} (h : dT (e t) K) : ∃ l, Ag e ((t, .tuple l.toArray) :: L) ∧ K l := by
 obtain ⟨n, h1, h2⟩ := H6 h; exact ⟨n, F.cons h1, h2⟩
theorem eF {f : FuncId} {e : Env} {L : List (Nat × Value)} (F : Ag e L) {t : Nat} {K : List Value → Prop} (h : dF f (e t) K) : ∃ l, Ag e ((t, .func (.func f) #[] l.toArray) :: L) ∧ K l := by
 obtain ⟨n, h1, h2⟩ := Io h; exact ⟨n, F.cons h1, h2⟩
section
variable [Gh] {P : Program} {N : Nat} {ct lp : uD} {kp : Nat → Bool} {e0 : Env}
def GR (P : Program) (N : Nat) [Gh] (ct lp : uD) (c : Code) (X : XC) (n : Nat) (e : Env) (h : aA) : Prop := ID ((lZ P N ct lp c X n).map fun g => g e h)
def Hr (P : Program) (N : Nat) [Gh] (ct lp : uD) (c : Code) (X : XC) (n : Nat) : Code × XC := (iX P N ct lp c X n).headD (.skip, X)
def yl (P : Program) (N : Nat) (ct lp : uD) (c : Code) (X : XC) (kp : Nat → Bool) (e0 : Env) : uD → Prop
 | [] => True
 | (n, K) :: r => (∀ e h, oD kp e0 e → K e h → GR P N ct lp c X n e h) ∧ yl P N ct lp c X kp e0 r
def vS (P : Program) (N : Nat) (ct lp : uD) (c : Code) (X : XC) (kp : Nat → Bool) (e0 : Env) : uD → Prop
 | [] => True
 | (n, L) :: r => ((iX P N ct lp c X n).length = 1 ∧ CW P N kp e0 L (Hr P N ct lp c X n)) ∧ vS P N ct lp c X kp e0 r
theorem zD {c : Code} {X : XC} : ∀ {l : uD}, yl P N ct lp c X kp e0 l → ∀ n K, look l n = some K → ∀ g ∈ lZ P N ct lp c X n, ∀ e h, oD kp e0 e → K e h → g e h
 | [], _, _, _, h => by cases h
 | (m, L) :: r, hc, n, K, hK => by
  unfold look at hK
  cases hb : Nat.beq m n with
  | true =>
   rw [hb] at hK
   have : L = K := by simpa using hK
   subst this
   have := Nat.eq_of_beq_eq_true hb
   subst this
   intro g hg e h he hk
   exact yi (hc.1 e h he hk) (List.mem_map_of_mem (f := fun g => g e h) hg)
  | false => rw [hb] at hK; exact zD hc.2 n K hK
theorem xV {c : Code} {X : XC} : ∀ {l : uD}, vS P N ct lp c X kp e0 l → ∀ n K, look l n = some K → ∀ p ∈ iX P N ct lp c X n, CW P N kp e0 K p
 | [], _, _, _, h => by cases h
 | (m, L) :: r, hc, n, K, hK => by
  unfold look at hK
  cases hb : Nat.beq m n with
  | true =>
   rw [hb] at hK
   have : L = K := by simpa using hK
   subst this
   have := Nat.eq_of_beq_eq_true hb
   subst this
   intro p hp
   obtain ⟨h1, h2⟩ := hc.1
   unfold Hr at h2
   match hq : iX P N ct lp c X m, h1 with
   | [q], _ =>
    rw [hq] at hp h2
    rw [List.mem_singleton.1 hp]; exact h2
  | false => rw [hb] at hK; exact xV hc.2 n K hK
theorem yy (hm : P.follows .mixedOrders = true) {c : Code} {X : XC} (hkp : ∀ t, kp t = true → jx c t = true) (hc : yl P N ct lp c X kp e0 ct) (hl : vS P N ct lp c X kp e0 lp)
  {Q : pP} (hX : ∀ x e h, oD kp e0 e → X x e h → Q x e [] h) {e : Env} {h : aA} (he : oD kp e0 e) (hv : vcC P N ct lp c X e h) : EWP P N c Q e [] h :=
 Eq hm c X Q hkp hX (zD hc) (xV hl) e h he hv
def X0 (P : Program) (fn : Func) (Q : Value → aA → Prop) : XC := fun x e h => match x with | .normal => GP P fn e h fun v => Q v h | .ret => GP P fn e h fun v => Q v h | _ => False
def yM (fn : Func) : Code := fn.body.getD .skip
def noK : Nat → Bool := fun _ => false
theorem aU (hm : P.follows .mixedOrders = true) {f : FuncId} {fn : Func} {args : Array Value} {h : aA} {Q : Value → aA → Prop} (hf : P.funcs[f]? = some fn)
  (hcall : ∀ w, (callFunc f args).run P w = .ok (.enter f args) w) (hb : fn.body.isSome = true) (hs : Nat.ble args.size fn.ntmps = true) (ct lp : uD)
  (hc : yl P fn.ntmps ct lp (yM fn) (X0 P fn Q) noK (Dd args) ct) (hl : vS P fn.ntmps ct lp (yM fn) (X0 P fn Q) noK (Dd args) lp)
  {B : Prop} (hv : vcC P fn.ntmps ct lp (yM fn) (X0 P fn Q) (Dd args) h = B) (hk : B) : aD P f args h Q := by
 obtain ⟨c, hbc⟩ := Option.isSome_iff_exists.1 hb
 have hbo : yM fn = c := by unfold yM; rw [hbc]; rfl
 refine GO (N := fn.ntmps) hf hbc rfl hcall (Nat.le_of_ble_eq_true hs) ?_
 rw [← hbo]
 refine yy hm (fun t ht => by cases ht) hc hl ?_ (oD.refl _ _) (hv ▸ hk)
 intro x e h' _ hx
 cases x <;> first | exact ⟨rfl, hx⟩ | exact hx
theorem jj {c : Code} {X : XC} {n : Nat} {e : Env} {h : aA} {L : List (Nat × Value)} (F : Ag e L) {B : Prop} (hv : GR P N ct lp c X n (vH L e) h = B) (hk : B) : GR P N ct lp c X n e h := by
 rw [F.over] at hv; exact hv ▸ hk
def u6 (c : Code) : Code := match c with | .loop c => c | .scope c => c | c => c
theorem cE {σ : Type} (hm : P.follows .mixedOrders = true) {p : Code × XC} {e : Env} {h : aA} {L : List (Nat × Value)} {body : σ → aA → (σ → aA → Prop) → Prop} {s0 : σ}
  (hkp : ∀ t, kp t = true → jx (u6 p.1) t = true) (he : oD kp e0 e) (F : Ag e L) (M : σ → List (Nat × Value)) (hp : p.1 = .loop (u6 p.1)) (h0 : Ag e (M s0)) (hlv : aJ body s0 h)
  (dK : (σ → aA → Prop) → Env → aA → Prop) (hM : ∀ (Kn : σ → aA → Prop) e h, dK Kn e h → ∃ s, Ag e (M s) ∧ Kn s h) (ct lp : (σ → aA → Prop) → uD)
  (hc : ∀ Kn, yl P N (ct Kn) (lp Kn) (u6 p.1) (nrm (dK Kn) p.2) (jx (u6 p.1)) e (ct Kn)) (hl : ∀ Kn, vS P N (ct Kn) (lp Kn) (u6 p.1) (nrm (dK Kn) p.2) (jx (u6 p.1)) e (lp Kn))
  (hv : ∀ e s h Kn, vcC P N (ct Kn) (lp Kn) (u6 p.1) (nrm (dK Kn) p.2) (vH (M s ++ L.filter fun q => jx (u6 p.1) q.1) e) h = body s h Kn) :
  EWP P N p.1 (toQ kp e0 p.2) e [] h := by
 rw [hp]
 refine EWP.loopV (fun e' s => oD (jx (u6 p.1)) e e' ∧ Ag e' (M s)) ⟨oD.refl _ _, h0⟩ hlv ?_
 rintro e' s h' Kn ⟨hk', ha⟩ hb
 refine yy (kp := jx (u6 p.1)) (e0 := e) hm (fun t ht => ht) (hc Kn) (hl Kn) ?_ hk' ?_
 ·intro x e'' h'' hk hx
  have keep0 : oD kp e0 e'' := he.trans (hk.mono hkp)
  cases x with
  | normal => obtain ⟨s', ha', hs'⟩ := hM Kn e'' h'' hx; exact ⟨rfl, s', ⟨hk, ha'⟩, hs'⟩
  | _ => exact ⟨rfl, keep0, hx⟩
 ·have := hv e' s h' Kn
  rw [(ha.app (F.keep hk')).over] at this
  rw [this]; exact hb
end
def wrs : Code → List Nat
 | .region _ ops _ => ops.toList.filterMap (·.dst)
 | .seq x y => wrs x ++ wrs y
 | .cond _ x y => wrs x ++ wrs y
 | .block _ c => wrs c
 | .loop c => wrs c
 | .scope c => wrs c
 | _ => []
theorem Jq : ∀ {c : Code} {t : Nat}, jx c t = false → t ∈ wrs c := by
 intro c
 induction c with
 | region id ops draw =>
  intro t h
  simp only [jx, sS] at h
  rw [Array.all_eq_false'] at h
  obtain ⟨o, ho, hd⟩ := h
  unfold wrs
  rw [List.mem_filterMap]
  exact ⟨o, by simpa using ho, by simpa using hd⟩
 | seq x y ihx ihy => intro t h; simp only [jx, Bool.and_eq_false_iff] at h; unfold wrs; rcases h with h | h; exact List.mem_append_left _ (ihx h); exact List.mem_append_right _ (ihy h)
 | cond cc x y ihx ihy => intro t h; simp only [jx, Bool.and_eq_false_iff] at h; unfold wrs; rcases h with h | h; exact List.mem_append_left _ (ihx h); exact List.mem_append_right _ (ihy h)
 | block id c ih => intro t h; exact ih h
 | loop c ih => intro t h; exact ih h
 | scope c ih => intro t h; exact ih h
 | _ => intro t h; cases h
theorem uj {b c : Code} (h : ((wrs b).all fun t => !jx c t) = true) : ∀ t, jx c t = true → jx b t = true := by
 intro t ht
 cases hb : jx b t with
 | true => rfl
 | false =>
  have := List.all_eq_true.1 h t (Jq hb)
  rw [ht] at this; cases this
end Go.Proofs.YtjmfpeiidlpngaaGreatDoor
namespace Go.Proofs.YtjmfpeiidlpngaaGreatDoor
set_option linter.unusedSimpArgs false
set_option linter.unusedVariables false
set_option maxRecDepth 20000
open Go
theorem aW.at {h : aA} {a : Addr} {vs : List Value} (c : aW h a vs) {j : Nat} {v : Value} (hv : vs[j]? = some v) : hcell h (a.add j) = some v := by
 obtain ⟨hj, rfl⟩ := List.getElem?_eq_some_iff.1 hv
 exact c j hj
theorem aW.at0 {h : aA} {a : Addr} {vs : List Value} (c : aW h a vs) {v : Value} (hv : vs[0]? = some v) : hcell h a = some v := c.at hv
theorem aW.fr {S : Nat → Prop} {h h' : aA} {a : Addr} {vs : List Value} (c : aW h a vs) (f : Fr S h h') (hn : ¬ S a.block) : aW h' a vs :=
 fun j hj => f.hcell (c j hj) (by rw [uv]; exact hn)
theorem aW.fr0 {h h' : aA} {a : Addr} {vs : List Value} (f : Fr (fun _ => False) h h') (c : aW h a vs) : aW h' a vs := c.fr f id
structure Own (h : aA) (a : Addr) (vs : List Value) (T : TypeId) : Prop where
 off : a.off = 0
 spot : a.spot = none
 blk : h[a.block]? = some (.cells vs.toArray T (0, 0))
theorem Own.mk_eq {h : aA} {a : Addr} {vs : List Value} {T : TypeId} (o : Own h a vs T) : a = ⟨a.block, 0, none⟩ := by
 obtain ⟨h1, h2, _⟩ := o; obtain ⟨b, f, s⟩ := a; simp only at h1 h2; subst h1 h2; rfl
theorem Own.cells {h : aA} {a : Addr} {vs : List Value} {T : TypeId} (o : Own h a vs T) : aW h a vs := by
 intro j hj
 rw [o.mk_eq, gG, Nat.zero_add, ka o.blk, List.getElem?_toArray, List.getElem?_eq_getElem hj]
theorem Own.fr {S : Nat → Prop} {h h' : aA} {a : Addr} {vs : List Value} {T : TypeId} (o : Own h a vs T) (f : Fr S h h') (hn : ¬ S a.block) : Own h' a vs T :=
 ⟨o.off, o.spot, f.get o.blk hn⟩
theorem Own.fr0 {h h' : aA} {a : Addr} {vs : List Value} {T : TypeId} (f : Fr (fun _ => False) h h') (o : Own h a vs T) : Own h' a vs T := o.fr f id
theorem Own.lt {h : aA} {a : Addr} {vs : List Value} {T : TypeId} (o : Own h a vs T) : a.block < h.size := pD o.blk
theorem aZ {h : aA} {vs : List Value} {T : TypeId} {K : Addr → aA → Prop} (hk : ∀ a h', Fr (fun _ => False) h h' → a.block = h.size → Own h' a vs T → K a h') : alV h (.cells vs.toArray T) K :=
 hk _ _ (Fr.push _ _ _) rfl ⟨rfl, rfl, cW⟩
theorem vp : ∀ (vs zs : List Value), vs.length = zs.length → nK zs.toArray 0 vs = vs.toArray := by
 intro vs zs hl
 apply Array.ext_getElem?
 intro i
 rw [pT vs _ 0 (by simp; omega)]
 split
 ·simp
 ·rename_i hi
  rw [List.getElem?_toArray, List.getElem?_toArray, List.getElem?_eq_none (by omega), List.getElem?_eq_none (by omega)]
theorem Af {vs : List Value} (h : vs.all ee = true) : ∀ v ∈ vs, ee v = true := fun v hv => List.all_eq_true.1 h v hv
theorem qf {h : aA} {vs zs : List Value} {T : TypeId} {K : Addr → aA → Prop} (hv : vs.all ee = true) (hl : vs.length = zs.length)
  (hk : ∀ a h', Fr (fun _ => False) h h' → a.block = h.size → Own h' a vs T → K a h') : alV h (.cells zs.toArray T) fun a h1 => stN h1 a vs 0 fun h2 => K a h2 :=
 Jz (Af hv) hl (vp vs zs hl) (hk _ _ (Fr.push _ _ _) rfl ⟨rfl, rfl, cW⟩)
theorem cK {h : aA} {a : Addr} {vs : List Value} {T : TypeId} (o : Own h a vs T) (j : Nat) {v : Value} {K : aA → Prop} (hj : j < vs.length) (hv : ee v = true)
  (hk : ∀ h', Fr (fun b => b = a.block) h h' → h'.size = h.size → Own h' a (vs.set j v) T → K h') : st1 h (a.add j) v K := by
 have hb := o.blk
 have e : a.add j = ⟨a.block, j, none⟩ := by rw [o.mk_eq, gG, Nat.zero_add]
 rw [e]
 refine ⟨hv, by rw [ka hb]; simp [hj], w7 hb, ?_⟩
 rw [rT hb]
 refine hk _ (Fr.set _ _ rfl) (by simp) ⟨o.off, o.spot, ?_⟩
 rw [lk hb]; simp
theorem mL {h : aA} {a : Addr} {vs : List Value} {T : TypeId} (o : Own h a vs T) {v : Value} {K : aA → Prop} (hj : 0 < vs.length) (hv : ee v = true)
  (hk : ∀ h', Fr (fun b => b = a.block) h h' → h'.size = h.size → Own h' a (vs.set 0 v) T → K h') : st1 h a v K := cK o 0 hj hv hk
theorem jr {h : aA} {a : Addr} {vs ws : List Value} {T : TypeId} (o : Own h a vs T) {K : aA → Prop} (hl : ws.length = vs.length) (hv : ws.all ee = true)
  (hk : ∀ h', Fr (fun b => b = a.block) h h' → h'.size = h.size → Own h' a ws T → K h') : stN h a ws 0 K := by
 rw [o.mk_eq]
 refine Bj ws 0 _ h o.blk (Af hv) (by simp; omega) ?_
 rw [vp ws vs hl]
 exact hk _ (Fr.set _ _ rfl) (by simp) ⟨o.off, o.spot, lk o.blk⟩
theorem ifD {p : Prop} [Decidable p] {X Y : Prop} (h1 : p → X) (h2 : ¬ p → Y) : if decide p = true then X else Y := by
 by_cases hp : p
 ·rw [if_pos (by simpa using hp)]; exact h1 hp
 ·rw [if_neg (by simpa using hp)]; exact h2 hp
theorem ifE {x y : Int} {X Y : Prop} (h1 : x = y → X) (h2 : x ≠ y → Y) : if (x == y) = true then X else Y := by
 by_cases hp : x = y
 ·rw [if_pos (by simpa using hp)]; exact h1 hp
 ·rw [if_neg (by simpa using hp)]; exact h2 hp
theorem rM {x y : Int} {X Y : Prop} (h1 : x ≠ y → X) (h2 : x = y → Y) : if (x != y) = true then X else Y := by
 by_cases hp : x = y
 ·rw [if_neg (by simpa using hp)]; exact h2 hp
 ·rw [if_pos (by simpa using hp)]; exact h1 hp
theorem ifS {l m : List UInt8} {X Y : Prop} (h1 : l = m → X) (h2 : l ≠ m → Y) : if ((bs l).toList == (bs m).toList) = true then X else Y := by
 rw [lj, lj]
 by_cases hp : l = m
 ·rw [if_pos (by simpa using hp)]; exact h1 hp
 ·rw [if_neg (by simpa using hp)]; exact h2 hp
theorem Bw {l : List UInt8} {X Y : Prop} (h1 : l = [] → X) (h2 : l ≠ [] → Y) : if ((bs l).toList == (⟨#[]⟩ : ByteArray).toList) = true then X else Y := ifS (m := []) h1 h2
theorem JE {l m : List UInt8} {X Y : Prop} (h1 : l ≠ m → X) (h2 : l = m → Y) : if (!((bs l).toList == (bs m).toList)) = true then X else Y := by
 rw [lj, lj]
 by_cases hp : l = m
 ·rw [if_neg (by simpa using hp)]; exact h2 hp
 ·rw [if_pos (by simpa using hp)]; exact h1 hp
theorem ifB {b : Bool} {X Y : Prop} (h1 : b = true → X) (h2 : b = false → Y) : if b = true then X else Y := by
 cases b
 ·rw [if_neg (by simp)]; exact h2 rfl
 ·rw [if_pos rfl]; exact h1 rfl
theorem ifN {b : Bool} {X Y : Prop} (h1 : b = false → X) (h2 : b = true → Y) : if (!b) = true then X else Y := by
 cases b
 ·rw [if_pos (by rfl)]; exact h1 rfl
 ·rw [if_neg (by simp)]; exact h2 rfl
theorem bO {n : Int} {len : Nat} {K : Prop} (k : Nat) (hn : n = k) (hk : k < len) (h : K) : bQ n len K := ⟨by omega, by omega, h⟩
theorem aS {a : Addr} {K : Addr → Prop} (h : K a) : nn (some a) K := h
section
variable {P : Program}
theorem xH {sT el : TypeId} {i : TypeInfo} {z : Value} (t : gM P sT el i z) (n : Nat) {m : Int} (hm : m = n) (hlim : n * i.bytes ≤ 2 ^ 48) {h : aA} {K : Value → aA → Prop}
  (hk : ∀ a h', Fr (fun _ => False) h h' → a.block = h.size → Own h' a (List.replicate n z.cells.toList).flatten el → K (.slice (some a) n n) h') :
  xg P sT (.int .i64 m) (.int .i64 m) h K := by
 subst hm
 unfold xg Instr.makeSlice
 simp only [bind]
 rw [aO]; refine bP t.und ?_
 simp only [asInt, asIntOf, bind, pure, Sem.bind]
 rw [aO]; refine j8 t.info ?_
 have hb := t.bytes
 have hp : (2 : Nat) ^ 48 = 281474976710656 := by decide
 have hn : n ≤ 2 ^ 48 := Nat.le_trans (Nat.le_mul_of_pos_right _ t.bytes) hlim
 have hw : IntKind.wrap .i64 (n : Int) = n := wr (by omega) (by omega)
 rw [hw]
 have hle : ¬ ((decide ((n : Int) < 0) || decide ((i.bytes : Int) * (n : Int) > 2 ^ 48)) = true) := by
  have : (i.bytes : Int) * (n : Int) ≤ 2 ^ 48 := by
   have e : ((n * i.bytes : Nat) : Int) ≤ ((2 ^ 48 : Nat) : Int) := by omega
   rw [Int.natCast_mul, Int.mul_comm] at e
   exact e
  simp only [Bool.or_eq_true, decide_eq_true_eq, not_or]
  omega
 rw [if_neg (by
  simp only [Bool.or_eq_true, decide_eq_true_eq, not_or] at hle ⊢
  omega)]
 have room : ∀ {K : Unit → aA → Prop} {b : Nat} {h : aA}, K () h → wpH P (askRoom b) K h := fun hk => by
  unfold askRoom; split <;> exact hk
 rw [aO]
 refine room ?_
 rw [aO]
 refine rQ (by rw [t.info]; rfl) ?_
 have hsz : gK P el = i.size := by simp [gK, t.info]
 rw [hsz, Int.toNat_natCast]
 have zr : ∀ {K : Value → aA → Prop} {h : aA}, K z h → wpH P (zeroValue el) K h := fun hk => by
  unfold zeroValue; simp only [bind]; rw [aO]; refine j8 t.info ?_; rw [t.zero]; exact hk
 have go : ∀ zs : Array Value, (n * i.size = 0 ∨ zs = z.cells) → wpH P ((newRow el ((Array.range (n * i.size)).map (fun x => zs[x % zs.size]!))).bind fun a => Sem.pure (Value.slice (some a) n n)) K h := by
  intro zs hz
  unfold newRow newObj
  simp only [bind, pure, Sem.bind, wpH]
  refine hk _ _ (Fr.push _ _ _) rfl ⟨rfl, rfl, ?_⟩
  rw [cW]
  congr 2
  apply Array.ext'
  apply List.ext_getElem?
  intro j
  have hzs := t.size
  have hflat : ∀ n j, ((List.replicate n z.cells.toList).flatten)[j]? = if j < n * i.size then some (z.cells[j % z.cells.size]!) else none := by
   intro n
   induction n with
   | zero => intro j; simp
   | succ n ih =>
    intro j
    rw [List.replicate_succ, List.flatten_cons]
    have hl : z.cells.toList.length = i.size := by simpa using hzs
    by_cases hj : j < i.size
    ·rw [List.getElem?_append_left (by omega), if_pos (by rw [Nat.succ_mul]; omega)]
     rw [Nat.mod_eq_of_lt (by omega), getElem!_pos z.cells j (by omega)]
     simp [hzs, hj]
    ·rw [List.getElem?_append_right (by omega), hl, ih]
     have e : (j - i.size) % z.cells.size = j % z.cells.size := by
      rw [hzs]
      conv => rhs; rw [show j = (j - i.size) + i.size by omega]
      rw [Nat.add_mod_right]
     rw [e]
     by_cases h2 : j - i.size < n * i.size
     ·rw [if_pos h2, if_pos (by rw [Nat.succ_mul]; omega)]
     ·rw [if_neg h2, if_neg (by rw [Nat.succ_mul]; omega)]
  show _ = ((List.replicate n z.cells.toList).flatten)[j]?
  rw [hflat]
  by_cases hj : j < n * i.size
  ·rw [if_pos hj]
   rcases hz with hz | rfl
   ·omega
   ·simp [hj]
  ·rw [if_neg hj]; simp; omega
 split
 ·rename_i h0; exact go _ (.inl h0)
 ·rw [aO]; exact zr (go _ (.inr rfl))
theorem AA {sT dT e : TypeId} (hs : P.underlying sT = some .string) (hd : P.underlying dT = some (.slice e)) (he : P.underlying e = some (.int .u8)) (l : List UInt8) {h : aA} {K : Value → aA → Prop}
  (hk : ∀ a c h', Fr (fun _ => False) h h' → (∀ b, InA a b → h.size ≤ b) → qQ h' a c 1 (dX l) → l.length ≤ c → K (.slice a l.length c) h') :
  oJ P sT dT (.string (bs l)) h K := by
 unfold oJ convert
 simp only [bind]
 rw [aO]; refine bP hs ?_
 rw [aO]; refine bP hd ?_
 simp only
 rw [aO]; refine bP he ?_
 simp only
 unfold Conv.stringToBytes choose
 simp only [bind, Sem.bind]
 refine ⟨fun q => ?_, fun hq => by simp [Question.forced] at hq⟩
 have hsz : (bs l).size = l.length := bR l
 have hdat : (bs l).data.map (fun b => Value.int .u8 b.toNat) = (dX l).toArray := by apply Array.ext'; simp [bs, dX, vx]
 unfold newRow newObj markStringish shape freeze
 simp only [bind, pure, Sem.bind, wpH, Question.cut, AF, cW, hsz]
 generalize hx : q % (2 ^ 63 - l.length) = x
 have hlen : ((bs l).data.map (fun b => Value.int .u8 b.toNat) ++ Array.replicate (l.length + x - l.length) (Value.int .u8 0)).size = l.length + x := by
  rw [hdat]; simp [jm]
 have hg : (pw (h.push (.cells ((bs l).data.map (fun b => Value.int .u8 b.toNat) ++ Array.replicate (l.length + x - l.length) (Value.int .u8 0)) e (0, 0))) ⟨h.size, l.length + x, none⟩ 1)[h.size]? = some (.cells ((bs l).data.map (fun b => Value.int .u8 b.toNat) ++ Array.replicate (l.length + x - l.length) (Value.int .u8 0)) e (l.length + x, l.length + x + 1)) := by
  unfold pw
  rw [if_neg (by omega), Array.getElem?_modify, if_pos rfl, cW]
  rfl
 rw [hlen]
 refine hk _ _ _ ?_ ?_ ⟨rfl, rfl, _, _, _, .inr ?_, hg, ?_, ?_, ?_⟩ (by omega)
 ·refine ⟨?_, fun b hb _ => ?_⟩
  ·unfold pw; rw [if_neg (by omega)]; simp
  ·unfold pw
   rw [if_neg (by omega), Array.getElem?_modify, if_neg (by simp only; omega), Array.getElem?_push, if_neg (by omega)]
 ·rintro b ⟨ad, h1, rfl⟩; cases h1; exact Nat.le_refl _
 ·rw [hlen]; exact Nat.le_refl _
 ·rw [hlen]; omega
 ·rw [hlen, jm]; omega
 ·intro j hj
  rw [hdat]
  rw [Array.getElem?_append_left (by simpa using hj), List.getElem?_toArray, List.getElem?_eq_getElem hj]
end
end Go.Proofs.YtjmfpeiidlpngaaGreatDoor
namespace Go.Proofs.YtjmfpeiidlpngaaGreatDoor
set_option linter.unusedSimpArgs false
set_option linter.unusedVariables false
set_option maxRecDepth 20000
open Go Go.ChangeShapes Go.WideShapes Go.ChangeAt Go.RowKit
structure Sl (α : Type) where
 p : Option Addr
 cap : Nat
 xs : List α
def Sl.v {α : Type} (s : Sl α) : Value := .slice s.p s.xs.length s.cap
structure bF {α : Type} (sz : Nat) (vals : α → List Value) (ok : aA → α → Prop) (h : aA) (s : Sl α) : Prop where
 len : s.xs.length ≤ s.cap
 cap : s.xs.length ≤ 9223372036854775807
 at_ : ∀ i (hi : i < s.xs.length), ∃ ad, s.p = some ad ∧ aW h (ad.add (i * sz)) (vals s.xs[i]) ∧ ok h s.xs[i]
theorem bF.fr0 {α : Type} {sz : Nat} {vals : α → List Value} {ok : aA → α → Prop} (hok : ∀ h h' x, Fr (fun _ => False) h h' → ok h x → ok h' x) {h h' : aA} {s : Sl α} (f : Fr (fun _ => False) h h') (o : bF sz vals ok h s) : bF sz vals ok h' s :=
 ⟨o.len, o.cap, fun i hi => by obtain ⟨ad, h1, h2, h3⟩ := o.at_ i hi; exact ⟨ad, h1, h2.fr0 f, hok _ _ _ f h3⟩⟩
def kOk (k : IntKind) (_ : aA) (n : Int) : Prop := (Lit.int k n).wf = true
def sOk (_ : aA) (l : List UInt8) : Prop := l.length ≤ 9223372036854775807
def bOk (_ : aA) (_ : Bool) : Prop := True
theorem xz {α : Type} {p : α → Prop} : ∀ (h h' : aA) (x : α), Fr (fun _ => False) h h' → p x → p x := fun _ _ _ _ o => o
theorem oI {α : Type} {sz : Nat} {vals : α → List Value} {ok : aA → α → Prop} (m : ∀ h h' x, Fr (fun _ => False) h h' → ok h x → ok h' x) : ∀ h h' x, Fr (fun _ => False) h h' → bF sz vals ok h x → bF sz vals ok h' x :=
 fun _ _ _ f o => bF.fr0 m f o
section
variable {H : Type} {enc : TypeId × Value → H} {P : Program} {w : World}
def bM (enc : TypeId × Value → H) (P : Program) (w : World) (t : TypeId) {α : Type} (vals : α → List Value) (ok : aA → α → Prop) : Prop :=
 ∀ (fuel : Nat) (cs : List Value) (x : DataW H × List MemPlace), DataW.trod enc P w 0 (fun _ => true) true fuel t cs = some x → ∃ y : α, cs = vals y ∧ ok w.heap y
theorem gA {t : TypeId} {k : IntKind} (hu : P.underlying t = some (.int k)) : bM enc P w t (fun n : Int => [Value.int k n]) (kOk k) := fun _ _ _ h => by
 obtain ⟨n, e, _, g⟩ := DataW.trod_int hu h; exact ⟨n, e, g⟩
theorem m8 {t : TypeId} (hu : P.underlying t = some .bool) : bM enc P w t (fun n : Bool => [Value.bool n]) bOk := fun _ _ _ h => by
 obtain ⟨n, e, _⟩ := DataW.trod_bool hu h; exact ⟨n, e, trivial⟩
theorem yQ {t : TypeId} (hu : P.underlying t = some .string) : bM enc P w t (fun l : List UInt8 => [Value.string (bs l)]) sOk := fun _ _ _ h => by
 obtain ⟨s, e, _, g⟩ := DataW.trod_string hu h
 obtain ⟨l, rfl⟩ := HF s
 exact ⟨l, e, by rw [bR] at g; exact g⟩
theorem FI {a : Addr} {n : Nat} {vs : List Value} (h : w.cells? 0 a n = some vs) (hn : vs.length = n) : aW w.heap a vs := by
 obtain ⟨_, hlen, hcell⟩ := World.cells?_some h
 intro j hj
 have := hcell j (by omega)
 rw [List.getElem?_eq_getElem hj] at this
 exact this
theorem rF {t e : TypeId} (hu : P.underlying t = some (.slice e)) {sz : Nat} (hsz : P.cellsOf e = sz) {α : Type} {vals : α → List Value} {ok : aA → α → Prop} (hl : ∀ y, (vals y).length = sz) (op : bM enc P w e vals ok) :
  bM enc P w t (fun s : Sl α => [s.v]) (bF sz vals ok) := fun fuel cs x h => by
 rcases Go.Deep.open_slice hu h with ⟨hcs, _⟩ | ⟨a, len, cap, m, n, D, Pl, hcs, _, hl1, hl2, hm, _, hcell⟩
 ·exact ⟨⟨none, 0, []⟩, hcs, Nat.le_refl _, Nat.zero_le _, fun i hi => absurd hi (Nat.not_lt_zero _)⟩
 ·simp only [if_true] at hm
  have ex : ∀ i : Fin len, ∃ y : α, aW w.heap (a.add (i * sz)) (vals y) ∧ ok w.heap y := fun i => by
   obtain ⟨cs', h1, h2⟩ := hcell i (by omega)
   rw [hsz] at h1
   obtain ⟨y, hy, hok⟩ := op _ _ _ h2
   subst hy
   exact ⟨y, FI h1 (hl y), hok⟩
  obtain ⟨f, hf⟩ := Classical.axiomOfChoice ex
  refine ⟨⟨some a, cap, (List.finRange len).map f⟩, by rw [hcs]; simp [Sl.v], by simpa using hl1, ?_, fun i hi => ⟨a, rfl, ?_⟩⟩
  ·have : len ≤ 9223372036854775807 := Nat.le_trans hl1 hl2
   simpa using this
  ·simp only [List.getElem_map, List.getElem_finRange]
   exact hf ⟨i, by simpa using hi⟩
end
theorem bF.get {α : Type} {sz : Nat} {vals : α → List Value} {ok : aA → α → Prop} {h : aA} {s : Sl α} (o : bF sz vals ok h s) {i : Nat} (hi : i < s.xs.length) {K : Addr → Prop}
  (hk : ∀ ad, s.p = some ad → aW h (ad.add (i * sz)) (vals s.xs[i]) → ok h s.xs[i] → K ad) : nn s.p K := by
 obtain ⟨ad, h1, h2, h3⟩ := o.at_ i hi
 rw [h1]; exact hk ad h1 h2 h3
theorem dH {α : Type} {sz : Nat} {vals : α → List Value} {ok : aA → α → Prop} {h : aA} {s : Sl α} (o : bF sz vals ok h s) {n : Int} (i : Nat) (hn : n = i) (hi : i < s.xs.length) {K : Addr → Prop}
  (hk : ∀ ad, aW h (ad.add (i * sz)) (vals s.xs[i]) → ok h s.xs[i] → K ad) : bQ n s.xs.length (nn s.p fun a => K a) :=
 bO i hn hi (o.get hi fun ad _ h2 h3 => hk ad h2 h3)
theorem tH {α : Type} {vals : α → List Value} {sz : Nat} (hsz : ∀ x, (vals x).length = sz) : ∀ (xs : List α) (i j : Nat) (hi : i < xs.length), j < sz → (xs.flatMap vals)[i * sz + j]? = (vals xs[i])[j]?
 | [], i, j, hi, _ => absurd hi (Nat.not_lt_zero _)
 | x :: xs, 0, j, hi, hj => by
  rw [Nat.zero_mul, Nat.zero_add, List.flatMap_cons, List.getElem?_append_left (by rw [hsz]; exact hj)]; rfl
 | x :: xs, i + 1, j, hi, hj => by
  have := tH hsz xs i j (by simpa using hi) hj
  rw [List.flatMap_cons, List.getElem?_append_right (by rw [hsz, Nat.succ_mul]; omega), hsz]
  have e : (i + 1) * sz + j - sz = i * sz + j := by rw [Nat.succ_mul]; omega
  rw [e, this]; rfl
theorem bF.of_own {α : Type} {sz : Nat} {vals : α → List Value} {ok : aA → α → Prop} (hsz : ∀ x, (vals x).length = sz) {h : aA} {a : Addr} {T : TypeId} {xs : List α} (o : Own h a (xs.flatMap vals) T) (hl : xs.length ≤ 9223372036854775807) (hok : ∀ x ∈ xs, ok h x) :
  bF sz vals ok h ⟨some a, xs.length, xs⟩ :=
 ⟨Nat.le_refl _, hl, fun i hi => ⟨a, rfl, fun j hj => by
  have hs := hsz xs[i]
  have e : (a.add (i * sz)).add j = a.add (i * sz + j) := by rw [o.mk_eq, gG, gG, gG, Nat.add_assoc]
  rw [e]
  refine o.cells.at ?_
  rw [tH hsz xs i j hi (by rw [← hs]; exact hj), List.getElem?_eq_getElem hj], hok _ (List.getElem_mem hi)⟩⟩
def rB {α : Type} : Sl α := ⟨none, 0, []⟩
theorem r5 {α : Type} {sz : Nat} {vals : α → List Value} {ok : aA → α → Prop} {h : aA} : bF sz vals ok h rB := ⟨Nat.le_refl _, Nat.zero_le _, fun i hi => absurd hi (Nat.not_lt_zero _)⟩
end Go.Proofs.YtjmfpeiidlpngaaGreatDoor
namespace Go.Proofs.YtjmfpeiidlpngaaGreatDoor
set_option linter.unusedSimpArgs false
set_option linter.unusedVariables false
set_option maxRecDepth 20000
open Go
theorem lim {n b : Nat} (hb : b ≤ 2000) (hn : n ≤ 2 ^ 30) : (8 * n + 4000) * b ≤ 2 ^ 48 :=
 Nat.le_trans (Nat.mul_le_mul (show 8 * n + 4000 ≤ 8 * 2 ^ 30 + 4000 by omega) hb) (by decide)
theorem lN {α : Type} {vals : α → List Value} {sz : Nat} (hv : ∀ x, (vals x).length = sz) : ∀ L : List α, (L.flatMap vals).length = L.length * sz
 | [] => by simp
 | e :: L => by rw [List.flatMap_cons, List.length_append, lN hv L, hv, List.length_cons, Nat.succ_mul, Nat.add_comm]
theorem zK {α : Type} {vals : α → List Value} (hc : ∀ x, (vals x).all ee = true) (L : List α) : ∀ v ∈ L.flatMap vals, ee v = true := fun v hv => by
 obtain ⟨e, _, hv⟩ := List.mem_flatMap.1 hv
 exact List.all_eq_true.1 (hc e) v hv
theorem lg (a : Addr) (i j : Nat) : (a.add i).add j = a.add (i + j) := by
 unfold Addr.add
 obtain ⟨b, o, s⟩ := a
 cases i with
 | zero => simp
 | succ i =>
  cases j with
  | zero => simp
  | succ j => simp [Nat.add_assoc]
theorem aW.sub {h : aA} {a : Addr} {vs : List Value} (c : aW h a vs) (k : Nat) : aW h (a.add k) (vs.drop k) := by
 intro j hj
 rw [lg]
 refine c.at ?_
 rw [← List.getElem?_drop, List.getElem?_eq_getElem hj]
structure Row {α : Type} (sz : Nat) (vals : α → List Value) (h : aA) (p : Option Addr) (cap : Nat) (L : List α) : Prop where
 own : qQ h p cap sz (L.flatMap vals)
 le : L.length ≤ cap
section
variable {α : Type} {sz : Nat} {vals : α → List Value} {h : aA} {p : Option Addr} {cap : Nat} {L : List α}
theorem Row.nil : Row sz vals h none 0 ([] : List α) := ⟨⟨rfl, rfl⟩, Nat.le_refl _⟩
theorem Row.of_own {a : Addr} {T : TypeId} (hv : ∀ x, (vals x).length = sz) (o : Own h a (L.flatMap vals) T) : Row sz vals h (some a) L.length L :=
 ⟨⟨o.off, o.spot, _, T, (0, 0), .inl rfl, o.blk, by rw [List.size_toArray, lN hv]; exact Nat.le_refl _, by simp, fun i hi => by simp [hi]⟩, Nat.le_refl _⟩
theorem Row.fr {S : Nat → Prop} {h' : aA} (R : Row sz vals h p cap L) (f : Fr S h h') (hs : ∀ b, InA p b → ¬ S b) : Row sz vals h' p cap L := ⟨R.own.fr f hs, R.le⟩
theorem Row.fr0 {h' : aA} (f : Fr (fun _ => False) h h') (R : Row sz vals h p cap L) : Row sz vals h' p cap L := R.fr f fun _ _ => id
theorem Row.lt (R : Row sz vals h p cap L) {b : Nat} (hb : InA p b) : b < h.size := R.own.lt hb
theorem Row.cellsAt (R : Row sz vals h p cap L) (hv : ∀ x, (vals x).length = sz) (h0 : 0 < sz) (i : Nat) (hi : i < L.length) : ∃ ad, p = some ad ∧ aW h (ad.add (i * sz)) (vals L[i]) := by
 cases p with
 | none =>
  have := R.own.1
  rw [List.flatMap_eq_nil_iff] at this
  have h1 := hv L[i]
  rw [this _ (List.getElem_mem hi)] at h1
  simp at h1; omega
 | some ad =>
  refine ⟨ad, rfl, fun j hj => ?_⟩
  have e : (ad.add (i * sz)).add j = ad.add (i * sz + j) := by
   have h1 := R.own.1
   have h2 := R.own.2.1
   obtain ⟨b, o, s⟩ := ad
   simp only at h1 h2
   subst h1 h2
   rw [gG, gG, gG, Nat.add_assoc]
  rw [e]
  refine R.own.cells.at ?_
  rw [tH hv L i j hi (by rw [hv] at hj; exact hj), List.getElem?_eq_getElem hj]
theorem Row.idx (R : Row sz vals h p cap L) (hv : ∀ x, (vals x).length = sz) (h0 : 0 < sz) {n : Int} (i : Nat) (hn : n = i) (hi : i < L.length) {K : Addr → Prop} (hk : ∀ ad, aW h (ad.add (i * sz)) (vals L[i]) → K ad) : bQ n L.length (nn p fun a => K a) := by
 refine bO i hn hi ?_
 obtain ⟨ad, rfl, c⟩ := R.cellsAt hv h0 i hi
 exact aS (hk ad c)
theorem Row.sl {ok : aA → α → Prop} (R : Row sz vals h p cap L) (hv : ∀ x, (vals x).length = sz) (h0 : 0 < sz) (hl : L.length ≤ 9223372036854775807) (hok : ∀ x ∈ L, ok h x) : bF sz vals ok h ⟨p, cap, L⟩ :=
 ⟨R.le, hl, fun i hi => by obtain ⟨ad, h1, h2⟩ := R.cellsAt hv h0 i hi; exact ⟨ad, h1, h2, hok _ (List.getElem_mem hi)⟩⟩
theorem Row.src (R : Row sz vals h p cap L) (hv : ∀ x, (vals x).length = sz) (h0 : 0 < sz) : Src h sz (.slice p L.length cap) L.length (L.flatMap vals) := by
 cases p with
 | none =>
  have h1 := R.own.1
  have : L = [] := by
   cases L with
   | nil => rfl
   | cons e L =>
    rw [List.flatMap_eq_nil_iff] at h1
    have h2 := hv e
    rw [h1 e (by simp)] at h2
    simp at h2; omega
  subst this
  exact .nil _
 | some ad => exact .sl ad _ _ _ (lN hv L) R.own.cells
theorem bF.src {ok : aA → α → Prop} {s : Sl α} (o : bF sz vals ok h s) (hv : ∀ x, (vals x).length = sz) : Src h sz (.slice s.p s.xs.length s.cap) s.xs.length (s.xs.flatMap vals) := by
 cases hp : s.p with
 | none =>
  have : s.xs = [] := by
   cases hx : s.xs with
   | nil => rfl
   | cons e l =>
    obtain ⟨ad, h1, _⟩ := o.at_ 0 (by rw [hx]; simp)
    rw [hp] at h1; cases h1
  rw [this]
  exact .nil _
 | some ad =>
  refine .sl ad _ _ _ (lN hv s.xs) fun j hj => ?_
  rw [lN hv] at hj
  have h0 : 0 < sz := by
   rcases Nat.eq_zero_or_pos sz with h | h
   ·subst h; omega
   ·exact h
  have hi : j / sz < s.xs.length := (Nat.div_lt_iff_lt_mul h0).2 hj
  obtain ⟨ad', h1, h2, _⟩ := o.at_ (j / sz) hi
  rw [hp] at h1; cases h1
  have hm : j % sz < sz := Nat.mod_lt _ h0
  have e : (ad.add (j / sz * sz)).add (j % sz) = ad.add j := by rw [lg, Nat.div_add_mod' j sz]
  rw [← e]
  have := h2.at (j := j % sz) (v := (vals s.xs[j / sz])[j % sz]'(by rw [hv]; exact hm)) (List.getElem?_eq_getElem _)
  rw [this]
  congr 1
  have hg := tH hv s.xs (j / sz) (j % sz) hi hm
  rw [Nat.div_add_mod' j sz, List.getElem?_eq_getElem (by rw [lN hv]; exact hj), List.getElem?_eq_getElem (by rw [hv]; exact hm)] at hg
  exact (Option.some.inj hg).symm
theorem yv (hv : ∀ x, (vals x).length = sz) {e' : α} {v : Value} : ∀ (L : List α) (i j : Nat) (hi : i < L.length), j < sz → vals e' = (vals L[i]).set j v → (L.flatMap vals).set (i * sz + j) v = (L.set i e').flatMap vals
 | [], i, j, hi, _, _ => absurd hi (Nat.not_lt_zero _)
 | x :: L, 0, j, hi, hj, he => by
  rw [Nat.zero_mul, Nat.zero_add, List.flatMap_cons, List.set_append_left _ _ (by rw [hv]; exact hj), List.set_cons_zero, List.flatMap_cons, he]; rfl
 | x :: L, i + 1, j, hi, hj, he => by
  have := yv hv L i j (by simpa using hi) hj he
  rw [List.flatMap_cons, List.set_append_right _ _ (by rw [hv, Nat.succ_mul]; omega), hv, List.set_cons_succ, List.flatMap_cons, ← this]
  have e : (i + 1) * sz + j - sz = i * sz + j := by rw [Nat.succ_mul]; omega
  rw [e]
theorem Row.set1 (R : Row sz vals h p cap L) (hv : ∀ x, (vals x).length = sz) (i : Nat) (hi : i < L.length) {ad : Addr} (hp : p = some ad) {j : Nat} (hj : j < sz) {v : Value} (hc : ee v = true) {e' : α} (he : vals e' = (vals L[i]).set j v) {K : aA → Prop}
  (hk : ∀ h', Fr (InA p) h h' → Row sz vals h' p cap (L.set i e') → K h') : st1 h ((ad.add (i * sz)).add j) v K := by
 subst hp
 obtain ⟨⟨h1, h2, ds, t, fr, hfr, hg, hc1, hc2, hc3⟩, hle⟩ := R
 have e : (ad.add (i * sz)).add j = ⟨ad.block, i * sz + j, none⟩ := by
  rw [lg]
  obtain ⟨b, o, s⟩ := ad; simp only at h1 h2; subst h1 h2; rw [gG, Nat.zero_add]
 have hlt : i * sz + j < (L.flatMap vals).length := by
  rw [lN hv]
  have := Nat.mul_le_mul_right sz (show i + 1 ≤ L.length from hi)
  rw [Nat.succ_mul] at this
  omega
 rw [e]
 refine ⟨hc, by rw [ka hg, Array.getElem?_eq_getElem (by omega)]; rfl, pX hg hfr (by omega), ?_⟩
 rw [rT hg]
 refine hk _ (Fr.set _ _ ⟨ad, rfl, rfl⟩) ⟨⟨h1, h2, _, t, fr, by simpa using hfr, lk hg, by simpa using hc1, ?_, ?_⟩, by simpa using hle⟩
 ·rw [← yv hv L i j hi hj he]; simpa using hc2
 ·rw [← yv hv L i j hi hj he]
  intro k hk
  rw [List.length_set] at hk
  rw [Array.getElem?_setIfInBounds, List.getElem_set]
  by_cases hik : i * sz + j = k
  ·subst hik
   rw [if_pos rfl, if_pos (by omega), if_pos rfl]
  ·rw [if_neg hik, if_neg hik]; exact hc3 k hk
theorem Row.appL {P : Program} {sT xT ty el : TypeId} {consts : Array Bool} {i : TypeInfo} {z : Value} {d : TypeDesc} (t : gM P sT el i z) (hX : P.underlying xT = some d) (hd : ∀ k, d ≠ .int k) (hz : i.size = sz) (hb : i.bytes ≤ 2000) (hv : ∀ x, (vals x).length = sz) (hc : ∀ x, (vals x).all ee = true)
  (R : Row sz vals h p cap L) {M : List α} {x : Value} (s : Src h sz x M.length (M.flatMap vals)) (hl : L.length + M.length ≤ 2 ^ 30) {K : Value → aA → Prop}
  (hk : ∀ p' cap' h', Row sz vals h' p' cap' (L ++ M) → Fr (InA p) h h' → (∀ b, InA p' b → InA p b ∨ h.size ≤ b) → K (.slice p' (L ++ M).length cap') h') :
  dN P .append #[sT, xT] ty consts #[.slice p L.length cap, x] h K := by
 subst hz
 refine vo t hX hd (m := M.length) (xs := M.flatMap vals) R.own (lN hv L) R.le s (zK hc M) (lim hb hl) fun p' c' h' o' hc' f hn => ?_
 have el : L.length + M.length = (L ++ M).length := by simp
 rw [el] at hc' ⊢
 refine hk p' c' h' ⟨?_, hc'⟩ f hn
 rw [List.flatMap_append]; exact o'
theorem Row.app {P : Program} {sT xT ty el T : TypeId} {consts : Array Bool} {i : TypeInfo} {z : Value} {d : TypeDesc} (t : gM P sT el i z) (hX : P.underlying xT = some d) (hd : ∀ k, d ≠ .int k) (hz : i.size = sz) (hb : i.bytes ≤ 2000) (hv : ∀ x, (vals x).length = sz) (hc : ∀ x, (vals x).all ee = true)
  (R : Row sz vals h p cap L) {e : α} {b : Addr} (ob : Own h b (vals e) T) (c : Nat) (hl : L.length ≤ 2 ^ 29) {K : Value → aA → Prop}
  (hk : ∀ p' cap' h', Row sz vals h' p' cap' (L ++ [e]) → Fr (InA p) h h' → (∀ b, InA p' b → InA p b ∨ h.size ≤ b) → K (.slice p' (L ++ [e]).length cap') h') :
  dN P .append #[sT, xT] ty consts #[.slice p L.length cap, .slice (some b) 1 c] h K := by
 have s : Src h sz (.slice (some b) 1 c) [e].length ([e].flatMap vals) := by
  have : [e].flatMap vals = vals e := by simp
  rw [this]; exact Src.sl b 1 c (vals e) (by rw [hv]; simp) ob.cells
 exact R.appL t hX hd hz hb hv hc s (by simp only [List.length_singleton]; omega) hk
end
end Go.Proofs.YtjmfpeiidlpngaaGreatDoor
namespace Go.Proofs.YtjmfpeiidlpngaaGreatDoor
set_option linter.unusedSimpArgs false
set_option linter.unusedVariables false
set_option maxRecDepth 20000
open Go
abbrev Blk := Addr × List Value × TypeId
theorem zk {α : Type} {a : α} {X Y : Prop} (h : Y) : if (Option.isNone (some a)) = true then X else Y := by rw [if_neg (by simp)]; exact h
theorem kM {h : aA} {a : Addr} {p : Option Nat} {K : Option Nat → Prop} (hc : hcell h a = some (.map p)) (hk : K p) : ldM h a K := ⟨p, hc, hk⟩
theorem Bs {h : aA} {a : Addr} {v : Value} {K : Value → Prop} (hc : hcell h a = some v) (hk : K v) : ldV h a K := ⟨v, hc, hk⟩
theorem Qeq {Q : Value → aA → Prop} {v v' : Value} {h : aA} (hk : Q v h) (e : v = v') : Q v' h := e ▸ hk
end Go.Proofs.YtjmfpeiidlpngaaGreatDoor
namespace Go.Proofs.YtjmfpeiidlpngaaGreatDoor
set_option linter.unusedSimpArgs false
set_option linter.unusedVariables false
set_option maxRecDepth 20000
open Go
theorem JL {I : Nat → Prop} (h : ∃ n, I n) : ∃ n, I n ∧ ∀ m, m < n → ¬ I m := by
 obtain ⟨n, hn⟩ := h
 induction n using Nat.strongRecOn with
 | ind n ih =>
  by_cases hm : ∃ m, m < n ∧ I m
  ·obtain ⟨m, h1, h2⟩ := hm; exact ih m h1 h2
  ·exact ⟨n, hn, fun m h1 h2 => hm ⟨m, h1, h2⟩⟩
theorem aJ.go {σ : Type} {body : σ → aA → (σ → aA → Prop) → Prop} {s : σ} {h : aA} (I : Nat → σ → aA → Prop) (n0 : Nat) (h0 : I n0 s h)
  (hr : ∀ n s h, I n s h → ∀ Kn : σ → aA → Prop, (∀ m s' h', m < n → I m s' h' → Kn s' h') → body s h Kn) : aJ body s h := by
 have hx : ∀ s h, ∃ k : Nat, (∃ n, I n s h) → I k s h ∧ ∀ m, m < k → ¬ I m s h := fun s h => by
  by_cases he : ∃ n, I n s h
  ·obtain ⟨k, h1, h2⟩ := JL he; exact ⟨k, fun _ => ⟨h1, h2⟩⟩
  ·exact ⟨0, fun h => absurd h he⟩
 refine aJ.mk (fun s h => ∃ n, I n s h) (fun s h => Classical.choose (hx s h)) ⟨n0, h0⟩ fun s h hI => ?_
 obtain ⟨h1, h2⟩ := Classical.choose_spec (hx s h) hI
 refine hr _ s h h1 _ fun m s' h' hm hi => ⟨⟨m, hi⟩, ?_⟩
 obtain ⟨h3, h4⟩ := Classical.choose_spec (hx s' h') ⟨m, hi⟩
 exact Nat.lt_of_le_of_lt (Nat.le_of_not_lt fun hlt => h4 m hlt hi) hm
end Go.Proofs.YtjmfpeiidlpngaaGreatDoor
