/-
  The 256 transitions of a state, read at once.
-/
import Derived.Test.YthnheldoklgceaaDoorAutI
namespace Go.Proofs.YthnheldoklgceaaDoor
set_option linter.unusedSimpArgs false
set_option linter.unusedVariables false
set_option maxRecDepth 20000
open Go
theorem ldN_u16 {h : Heap} {a : Addr} (f : Nat → Nat) : ∀ (n i : Nat) {K : List Value → Prop}, (∀ j, j < n → hcell h (a.add (i + j)) = some (.int .u16 (f (i + j)))) → K ((List.range' i n).map fun c => .int .u16 (f c)) → ldN h a (List.replicate n (.int .u16)) i K
  | 0, i, K, _, hk => hk
  | n + 1, i, K, hc, hk => by
    rw [List.replicate_succ]
    unfold ldN ld1
    refine ⟨_, hc 0 (by omega), ?_⟩
    refine ldN_u16 f n (i + 1) (fun j hj => by have := hc (j + 1) (by omega); rw [show i + 1 + j = i + (j + 1) by omega]; exact this) ?_
    rw [List.range'_succ, List.map_cons] at hk
    exact hk
theorem kinds70 : kinds Tryd.prog 20 55 = List.replicate 256 (.int .u16) := by kernel_rfl
theorem ldN_st {h : Heap} {ad : Addr} {s : St} (c : Cells h ad (stV s)) {K : List Value → Prop} (hk : K (nxV s.nx)) : ldN h ad (kinds Tryd.prog 20 55) 0 K := by
  rw [kinds70]
  refine ldN_u16 s.nx 256 0 (fun j hj => ?_) ?_
  · rw [Nat.zero_add]; exact c.at (stV_nx s hj)
  · unfold nxV at hk; rw [List.range_eq_range'] at hk; exact hk
theorem nxV_at (f : Nat → Nat) {c : Nat} (hc : c < 256) : (nxV f).toArray[c]? = some (.int .u16 (f c)) := by
  rw [List.getElem?_toArray]
  have h : c < (nxV f).length := by rw [nxV_len]; exact hc
  rw [List.getElem?_eq_getElem h, nxV_get]
end Go.Proofs.YthnheldoklgceaaDoor
