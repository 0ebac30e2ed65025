/-
  What the arguments of a law read as: numbers, strings, slices of data, structs of these.
-/
import Derived.Test.YtjelnknmjhceiaaKit2
import Derived.Deep.Slices
import Derived.WalkKit
import Derived.ProofKit
import Derived.OpenShut
import Derived.ShutString
import Derived.ChangeOld
import Derived.Below
import Derived.Carry
import Derived.SizedLaws
namespace Go.Proofs.Ytjelnknmjhceiaa
set_option linter.unusedSimpArgs false
set_option linter.unusedVariables false
set_option maxRecDepth 20000
open Go Go.ChangeShapes Go.WideShapes Go.ChangeAt Go.RowKit
/-- A slice of data. -/
structure Sl (α : Type) where
  p : Option Addr
  cap : Nat
  xs : List α
def Sl.v {α : Type} (s : Sl α) : Value := .slice s.p s.xs.length s.cap
structure SlOk {α : Type} (sz : Nat) (vals : α → List Value) (ok : Heap → α → Prop) (h : Heap) (s : Sl α) : Prop where
  len : s.xs.length ≤ s.cap
  cap : s.xs.length ≤ 9223372036854775807
  at_ : ∀ i (hi : i < s.xs.length), ∃ ad, s.p = some ad ∧ Cells h (ad.add (i * sz)) (vals s.xs[i]) ∧ ok h s.xs[i]
theorem SlOk.fr0 {α : Type} {sz : Nat} {vals : α → List Value} {ok : Heap → α → Prop} (hok : ∀ h h' x, Fr (fun _ => False) h h' → ok h x → ok h' x) {h h' : Heap} {s : Sl α} (f : Fr (fun _ => False) h h') (o : SlOk sz vals ok h s) : SlOk sz vals ok h' s :=
  ⟨o.len, o.cap, fun i hi => by obtain ⟨ad, h1, h2, h3⟩ := o.at_ i hi; exact ⟨ad, h1, h2.fr0 f, hok _ _ _ f h3⟩⟩
def I64 (n : Int) : Prop := -9223372036854775808 ≤ n ∧ n ≤ 9223372036854775807
def kOk (k : IntKind) (_ : Heap) (n : Int) : Prop := (Lit.int k n).wf = true
def sOk (_ : Heap) (l : List UInt8) : Prop := l.length ≤ 9223372036854775807
def bOk (_ : Heap) (_ : Bool) : Prop := True
theorem wf64 {n : Int} (h : (Lit.int .i64 n).wf = true) : I64 n := by
  unfold I64
  simp [Lit.wf, IntKind.min, IntKind.max, IntKind.signed, IntKind.bits] at h
  omega
theorem wf8 {n : Int} (h : (Lit.int .u8 n).wf = true) : 0 ≤ n ∧ n ≤ 255 := by
  simp [Lit.wf, IntKind.min, IntKind.max, IntKind.signed, IntKind.bits] at h
  omega
theorem fr_c {α : Type} {p : α → Prop} : ∀ (h h' : Heap) (x : α), Fr (fun _ => False) h h' → p x → p x := fun _ _ _ _ o => o
theorem fr_sl {α : Type} {sz : Nat} {vals : α → List Value} {ok : Heap → α → Prop} (m : ∀ h h' x, Fr (fun _ => False) h h' → ok h x → ok h' x) : ∀ h h' x, Fr (fun _ => False) h h' → SlOk sz vals ok h x → SlOk sz vals ok h' x :=
  fun _ _ _ f o => SlOk.fr0 m f o
section
variable {H : Type} {enc : TypeId × Value → H} {P : Program} {w : World}
/-- Every value of a type reads as one of these. -/
def Opens (enc : TypeId × Value → H) (P : Program) (w : World) (t : TypeId) {α : Type} (vals : α → List Value) (ok : Heap → α → Prop) : Prop :=
  ∀ (fuel : Nat) (cs : List Value) (x : DataW H × List MemPlace), DataW.trod enc P w 0 (fun _ => true) true fuel t cs = some x → ∃ y : α, cs = vals y ∧ ok w.heap y
theorem op_int {t : TypeId} {k : IntKind} (hu : P.underlying t = some (.int k)) : Opens enc P w t (fun n : Int => [Value.int k n]) (kOk k) := fun _ _ _ h => by
  obtain ⟨n, e, _, g⟩ := DataW.trod_int hu h; exact ⟨n, e, g⟩
theorem op_bool {t : TypeId} (hu : P.underlying t = some .bool) : Opens enc P w t (fun n : Bool => [Value.bool n]) bOk := fun _ _ _ h => by
  obtain ⟨n, e, _⟩ := DataW.trod_bool hu h; exact ⟨n, e, trivial⟩
theorem op_str {t : TypeId} (hu : P.underlying t = some .string) : Opens enc P w t (fun l : List UInt8 => [Value.string (bs l)]) sOk := fun _ _ _ h => by
  obtain ⟨s, e, _, g⟩ := DataW.trod_string hu h
  obtain ⟨l, rfl⟩ := bs_surj s
  exact ⟨l, e, by rw [bs_size] at g; exact g⟩
theorem cells_of {a : Addr} {n : Nat} {vs : List Value} (h : w.cells? 0 a n = some vs) (hn : vs.length = n) : Cells w.heap a vs := by
  obtain ⟨_, hlen, hcell⟩ := World.cells?_some h
  intro j hj
  have := hcell j (by omega)
  rw [List.getElem?_eq_getElem hj] at this
  exact this
theorem op_sl {t e : TypeId} (hu : P.underlying t = some (.slice e)) {sz : Nat} (hsz : P.cellsOf e = sz) {α : Type} {vals : α → List Value} {ok : Heap → α → Prop} (hl : ∀ y, (vals y).length = sz) (op : Opens enc P w e vals ok) :
    Opens enc P w t (fun s : Sl α => [s.v]) (SlOk sz vals ok) := fun fuel cs x h => by
  rcases Go.Deep.open_slice hu h with ⟨hcs, _⟩ | ⟨a, len, cap, m, n, D, Pl, hcs, _, hl1, hl2, hm, _, hcell⟩
  · exact ⟨⟨none, 0, []⟩, hcs, Nat.le_refl _, Nat.zero_le _, fun i hi => absurd hi (Nat.not_lt_zero _)⟩
  · simp only [if_true] at hm
    have ex : ∀ i : Fin len, ∃ y : α, Cells w.heap (a.add (i * sz)) (vals y) ∧ ok w.heap y := fun i => by
      obtain ⟨cs', h1, h2⟩ := hcell i (by omega)
      rw [hsz] at h1
      obtain ⟨y, hy, hok⟩ := op _ _ _ h2
      subst hy
      exact ⟨y, cells_of h1 (hl y), hok⟩
    obtain ⟨f, hf⟩ := Classical.axiomOfChoice ex
    refine ⟨⟨some a, cap, (List.finRange len).map f⟩, by rw [hcs]; simp [Sl.v], by simpa using hl1, ?_, fun i hi => ⟨a, rfl, ?_⟩⟩
    · have : len ≤ 9223372036854775807 := Nat.le_trans hl1 hl2
      simpa using this
    · simp only [List.getElem_map, List.getElem_finRange]
      exact hf ⟨i, by simpa using hi⟩
end
theorem I64.lo {n : Int} (h : I64 n) : -9223372036854775808 ≤ n := h.1
/-- A slice's place, known to be there. -/
theorem SlOk.get {α : Type} {sz : Nat} {vals : α → List Value} {ok : Heap → α → Prop} {h : Heap} {s : Sl α} (o : SlOk sz vals ok h s) {i : Nat} (hi : i < s.xs.length) {K : Addr → Prop}
    (hk : ∀ ad, s.p = some ad → Cells h (ad.add (i * sz)) (vals s.xs[i]) → ok h s.xs[i] → K ad) : nn s.p K := by
  obtain ⟨ad, h1, h2, h3⟩ := o.at_ i hi
  rw [h1]; exact hk ad h1 h2 h3
/-- Slices of one list, which the row's frame does not touch. -/
theorem idx_sl {α : Type} {sz : Nat} {vals : α → List Value} {ok : Heap → α → Prop} {h : Heap} {s : Sl α} (o : SlOk sz vals ok h s) {n : Int} (i : Nat) (hn : n = i) (hi : i < s.xs.length) {K : Addr → Prop}
    (hk : ∀ ad, Cells h (ad.add (i * sz)) (vals s.xs[i]) → ok h s.xs[i] → K ad) : idxA n s.xs.length (nn s.p fun a => K a) :=
  idxA_mk i hn hi (o.get hi fun ad _ h2 h3 => hk ad h2 h3)
theorem flat_get {α : Type} {vals : α → List Value} {sz : Nat} (hsz : ∀ x, (vals x).length = sz) : ∀ (xs : List α) (i j : Nat) (hi : i < xs.length), j < sz → (xs.flatMap vals)[i * sz + j]? = (vals xs[i])[j]?
  | [], i, j, hi, _ => absurd hi (Nat.not_lt_zero _)
  | x :: xs, 0, j, hi, hj => by
    rw [Nat.zero_mul, Nat.zero_add, List.flatMap_cons, List.getElem?_append_left (by rw [hsz]; exact hj)]; rfl
  | x :: xs, i + 1, j, hi, hj => by
    have := flat_get hsz xs i j (by simpa using hi) hj
    rw [List.flatMap_cons, List.getElem?_append_right (by rw [hsz, Nat.succ_mul]; omega), hsz]
    have e : (i + 1) * sz + j - sz = i * sz + j := by rw [Nat.succ_mul]; omega
    rw [e, this]; rfl
/-- A row of data that a call has laid. -/
theorem SlOk.of_own {α : Type} {sz : Nat} {vals : α → List Value} {ok : Heap → α → Prop} (hsz : ∀ x, (vals x).length = sz) {h : Heap} {a : Addr} {T : TypeId} {xs : List α} (o : Own h a (xs.flatMap vals) T) (hl : xs.length ≤ 9223372036854775807) (hok : ∀ x ∈ xs, ok h x) :
    SlOk sz vals ok h ⟨some a, xs.length, xs⟩ :=
  ⟨Nat.le_refl _, hl, fun i hi => ⟨a, rfl, fun j hj => by
    have hs := hsz xs[i]
    have e : (a.add (i * sz)).add j = a.add (i * sz + j) := by rw [o.mk_eq, add_mk, add_mk, add_mk, Nat.add_assoc]
    rw [e]
    refine o.cells.at ?_
    rw [flat_get hsz xs i j hi (by rw [← hs]; exact hj), List.getElem?_eq_getElem hj], hok _ (List.getElem_mem hi)⟩⟩
def nilS {α : Type} : Sl α := ⟨none, 0, []⟩
theorem nilS_ok {α : Type} {sz : Nat} {vals : α → List Value} {ok : Heap → α → Prop} {h : Heap} : SlOk sz vals ok h nilS := ⟨Nat.le_refl _, Nat.zero_le _, fun i hi => absurd hi (Nat.not_lt_zero _)⟩
theorem ag_of {v : Value} {c : Array Value} {l : List Value} (h : v.cells.toList = l) (hv : v = .agg c) : v = .agg l.toArray := by
  subst hv; simp [Value.cells] at h; rw [← h]
end Go.Proofs.Ytjelnknmjhceiaa
