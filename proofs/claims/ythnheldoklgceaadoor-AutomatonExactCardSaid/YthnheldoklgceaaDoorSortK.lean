/-
  The library's sort, by the kit's contract, in words of heaps.
-/
import Derived.Test.YthnheldoklgceaaDoorRow
import Derived.Shelf.Sort.Plain
import Derived.Shelf.Slices.In.SortNone
namespace Go.Proofs.YthnheldoklgceaaDoor
set_option linter.unusedSimpArgs false
set_option linter.unusedVariables false
set_option maxRecDepth 20000
open Go
section
variable {α : Type} [Inhabited α] {enc : α → Value} {P : Program}
theorem sort_bridge [Gh] {f : FuncId} {ad : Addr} {cap : Nat} {xs ys : List α} {h : Heap} (hc : ∀ args w, (callFunc f args).run P w = .ok (.enter f args) w) (hl : ys.length = xs.length)
    (R : Row 1 (fun x => [enc x]) h (some ad) cap xs)
    (hs : ∀ w : World, w.heap = h → Go.Sort.Holds enc w ad.block 0 xs.toArray → ad.block < w.heap.size → Calls P f #[.slice (some ⟨ad.block, 0, none⟩) xs.length cap] w fun e w' =>
      e = .returned (.tuple #[]) ∧ ∃ n os, w' = Go.Sort.grow (Go.Sort.putRow enc (Go.Sort.ahead w n) ad.block 0 ys.toArray) os)
    {K : Value → Heap → Prop} (hk : ∀ h', Fr (InA (some ad)) h h' → Row 1 (fun x => [enc x]) h' (some ad) cap ys → K (.tuple #[]) h') : CallT P f #[.slice (some ad) xs.length cap] h K := by
  obtain ⟨⟨h1, h2, ds, t, fr, hfr, hg, hcap, hlen, hcs⟩, hle⟩ := R
  have hfl : ∀ zs : List α, zs.flatMap (fun x => [enc x]) = zs.map enc := fun zs => by induction zs <;> simp_all
  rw [hfl] at hlen hcs
  obtain ⟨b, o, s⟩ := ad
  simp only at h1 h2 hg hs
  subst h1 h2
  rw [List.length_map] at hlen
  have hblk : b < h.size := lt_of_get hg
  intro w hw hsm
  have hrun := hc #[.slice (some ⟨b, 0, none⟩) xs.length cap] w
  rw [hrun]
  simp only
  refine (hs w hw ?_ (by rw [hw]; exact hblk)).mono ?_
  · intro j hj
    have hj' : j < xs.length := by simpa using hj
    rw [Nat.zero_add]
    constructor
    · show hcell w.heap ⟨b, j, none⟩ = _
      rw [hw, hcell_blk hg, hcs j (by simpa using hj')]
      simp [hj']
    · show hfrozen w.heap ⟨b, j, none⟩ = _
      rw [hw]
      exact hfrozen_ok hg hfr (by omega)
  · rintro e w' ⟨rfl, n, os, rfl⟩
    refine ⟨_, rfl, ?_, ⟨hsm.1, hsm.2.1, hsm.2.2⟩⟩
    have hheap : (Go.Sort.grow (Go.Sort.putRow enc (Go.Sort.ahead w n) b 0 ys.toArray) os).heap = (h.modify b (Go.Sort.onCells (Go.Sort.putCells enc 0 ys.toArray))) ++ os := by
      rw [← hw]; rfl
    rw [hheap]
    have hat : ((h.modify b (Go.Sort.onCells (Go.Sort.putCells enc 0 ys.toArray))) ++ os)[b]? = some (.cells (Go.Sort.putCells enc 0 ys.toArray ds) t fr) := by
      rw [Array.getElem?_append_left (by simpa using hblk), Array.getElem?_modify, if_pos rfl, hg]; rfl
    have hsz : (Go.Sort.putCells enc 0 ys.toArray ds).size = ds.size := by simp [Go.Sort.putCells]
    refine hk _ ⟨by simp, fun c hcl hn => ?_⟩ ⟨⟨rfl, rfl, _, t, fr, by rw [hsz]; exact hfr, hat, by rw [hsz]; exact hcap, ?_, ?_⟩, by rw [hl]; exact hle⟩
    · rw [Array.getElem?_append_left (by simpa using hcl), Array.getElem?_modify, if_neg (fun e => hn ⟨_, rfl, e⟩)]
    · rw [hfl, hsz, List.length_map, hl]; exact hlen
    · rw [hfl]
      intro i hi
      rw [List.length_map] at hi
      unfold Go.Sort.putCells
      rw [Array.getElem?_mapIdx, Array.getElem?_eq_getElem (by omega)]
      simp [hi]
theorem none_bridge [Gh] {f : FuncId} {p : Option Addr} {cap : Nat} {h : Heap} (hc : ∀ args w, (callFunc f args).run P w = .ok (.enter f args) w)
    (hs : ∀ w : World, Calls P f #[.slice p 0 cap] w fun e w' => e = .returned (.tuple #[]) ∧ w' = w)
    {K : Value → Heap → Prop} (hk : K (.tuple #[]) h) : CallT P f #[.slice p 0 cap] h K := by
  intro w hw hsm
  rw [hc]
  simp only
  refine (hs w).mono ?_
  rintro e w' ⟨rfl, rfl⟩
  exact ⟨_, rfl, by rw [hw]; exact hk, hsm⟩
end
end Go.Proofs.YthnheldoklgceaaDoor
