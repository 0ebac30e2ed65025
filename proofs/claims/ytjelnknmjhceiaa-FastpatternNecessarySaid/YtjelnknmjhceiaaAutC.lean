/-
  Occurrences: Plain of both sides.
-/
import Derived.Test.YtjelnknmjhceiaaAutB
namespace Go.Proofs.Ytjelnknmjhceiaa.Au
set_option linter.unusedSimpArgs false
set_option linter.unusedVariables false
set_option maxRecDepth 20000
open Go
open Go.IntKind (wrap)
structure Pt where
  t : Nm
  nc : Bool
def ptV (p : Pt) : List Value := [.string (bs p.t), .bool p.nc]
def PtOk (h : Heap) (q : Option Addr) (L : List Pt) : Prop := ∀ i (hi : i < L.length), ∃ ad, q = some ad ∧ Cells h (ad.add (i * 2)) (ptV L[i])
theorem PtOk.fr0 {h h' : Heap} {q : Option Addr} {L : List Pt} (f : Fr (fun _ => False) h h') (S : PtOk h q L) : PtOk h' q L := fun i hi => by
  obtain ⟨ad, h1, h2⟩ := S i hi; exact ⟨ad, h1, h2.fr0 f⟩
theorem PtOk.get {h : Heap} {q : Option Addr} {L : List Pt} (S : PtOk h q L) {n : Int} (i : Nat) (hn : n = i) (hi : i < L.length) {K : Addr → Prop} (hk : ∀ ad, Cells h (ad.add (i * 2)) [.string (bs L[i].t), .bool L[i].nc] → K ad) : idxA n L.length (nn q fun a => K a) := by
  obtain ⟨ad, rfl, c⟩ := S i hi
  exact idxA_mk i hn hi (nn_mk (hk ad c))
def endL (s : Nm) (k n : Nat) : Nm := (s.drop (n - k)).take k
/-- A pattern occurs with the end n. -/
def occB (p : Pt) (s : Nm) (n : Nat) : Bool :=
  decide (p.t ≠ []) && (decide (p.t.length ≤ n) && (if p.nc = true then decide (lowL (endL s p.t.length n) = lowL p.t) else decide (endL s p.t.length n = p.t)))
abbrev Hit := Nat × Nat
def hitV (x : Hit) : List Value := [.int .i64 x.1, .int .i64 x.2]
theorem hitV_len (x : Hit) : (hitV x).length = 2 := rfl
theorem el_hit : ElemT Try.prog T_sl_api_Hit T_api_Hit Try.t86 (.agg #[.int .i64 0, .int .i64 0]) :=
  ⟨Try.underlying56, by kernel_rfl, by kernel_rfl, by kernel_rfl, by decide +kernel⟩
theorem appHit [Gh] {h : Heap} {p : Option Addr} {cap : Nat} {L : List Hit} (R : Row 2 hitV h p cap L) {e : Hit} {b : Addr} {T : TypeId} (ob : Own h b (hitV e) T) (hl : L.length ≤ 2 ^ 29) {K : Value → Heap → Prop}
    (hk : ∀ p' cap' h', Row 2 hitV h' p' cap' (L ++ [e]) → Fr (InA p) h h' → (∀ b, InA p' b → InA p b ∨ h.size ≤ b) → K (.slice p' (L ++ [e]).length cap') h') :
    bltV Try.prog .append #[T_sl_api_Hit, T_sl_api_Hit] T_sl_api_Hit #[false, false] #[.slice p L.length cap, .slice (some b) 1 1] h K :=
  R.app el_hit Try.underlying56 (by intro k e; cases e) (by kernel_rfl) (by decide +kernel) hitV_len (fun _ => rfl) ob 1 hl hk
def hA (L : List Pt) (s : Nm) (n i : Nat) : List Hit := (List.range i).flatMap fun j => if occB (L.getD j ⟨[], false⟩) s n = true then [(j, n)] else []
theorem hA_step (L : List Pt) (s : Nm) (n i : Nat) : hA L s n (i + 1) = hA L s n i ++ (if occB (L.getD i ⟨[], false⟩) s n = true then [(i, n)] else []) := by
  unfold hA
  rw [List.range_succ, List.flatMap_append, List.flatMap_cons, List.flatMap_nil, List.append_nil]
theorem hA_succ (L : List Pt) (s : Nm) (n i : Nat) (hi : i < L.length) : hA L s n (i + 1) = hA L s n i ++ (if occB L[i] s n = true then [(i, n)] else []) := by
  have : L.getD i ⟨[], false⟩ = L[i] := by rw [List.getD_eq_getElem?_getD, List.getElem?_eq_getElem hi]; rfl
  rw [hA_step, this]
theorem hA_len (L : List Pt) (s : Nm) (n : Nat) : ∀ i, (hA L s n i).length ≤ i
  | 0 => Nat.le_refl _
  | i + 1 => by
    have ih := hA_len L s n i
    rw [hA_step, List.length_append]
    split
    · rw [List.length_singleton]; omega
    · rw [List.length_nil]; omega
def hAll (L : List Pt) (s : Nm) (fm k : Nat) : List Hit := (List.range k).flatMap fun m => hA L s (fm + 1 + m) L.length
theorem hAll_succ (L : List Pt) (s : Nm) (fm k : Nat) : hAll L s fm (k + 1) = hAll L s fm k ++ hA L s (fm + 1 + k) L.length := by
  unfold hAll
  rw [List.range_succ, List.flatMap_append]; simp
theorem hAll_len (L : List Pt) (s : Nm) (fm : Nat) : ∀ k, (hAll L s fm k).length ≤ k * L.length
  | 0 => by simp [hAll]
  | k + 1 => by
    have ih := hAll_len L s fm k
    have h2 := hA_len L s (fm + 1 + k) L.length
    rw [hAll_succ, List.length_append, Nat.succ_mul]; omega
end Go.Proofs.Ytjelnknmjhceiaa.Au
