/-
  What a row lays of package-level variables: a cell of a laid table of numbers.
-/
import Derived.Test.YtjhcockaojlfiaaDoorArgs
import Derived.ChangeVars
import Derived.Lay
namespace Go.Proofs.YtjhcockaojlfiaaDoor
set_option linter.unusedSimpArgs false
set_option linter.unusedVariables false
set_option maxRecDepth 20000
open Go
section
variable {P : Program} {w : World}
theorem laidVars_of : ∀ {l : List (String × DataW Unit)} {ps : List MemPlace}, DataW.LaidVars P w l ps → ∀ {n : String} {d : DataW Unit}, (n, d) ∈ l →
    ∃ g t cs fuel p, P.globalNamed n = some g ∧ (P.globals[g]?).map (·.type) = some t ∧ w.var? P n = some cs ∧ DataW.trod (fun _ => ()) P w 0 (fun _ => true) false fuel t cs.toList = some (d, p)
  | [], _, _, _, _, hm => absurd hm (List.not_mem_nil)
  | (_, _) :: _, _, ⟨g, t, cs, fuel, p, _, h1, h2, h3, h4, hs, _⟩, _, _, hm => by
    rcases List.mem_cons.1 hm with e | hm
    · cases e; exact ⟨g, t, cs, fuel, p, h1, h2, h3, h4⟩
    · exact laidVars_of hs hm
/-- A cell of a table that a row lays. -/
theorem laid_cell {l : List (String × DataW Unit)} (h : laidMet P l w) {n : String} {ds : List (DataW Unit)} (hm : (n, .agg ds) ∈ l) {g : Nat} {t e : TypeId} {N : Nat} {k : IntKind} (hg : P.globalNamed n = some g) (ht : (P.globals[g]?).map (·.type) = some t)
    (hu : P.underlying t = some (.array N e)) (he : P.underlying e = some (.int k)) (hc : P.cellsOf e = 1) {i : Nat} (hi : i < N) {v : Int} (hd : ds[i]? = some (.lit (.int k v))) : hcell w.heap ⟨g, i, none⟩ = some (.int k v) := by
  obtain ⟨ps, hl, _⟩ := h
  obtain ⟨g', t', cs, fuel, p, h1, h2, h3, h4⟩ := laidVars_of hl hm
  obtain rfl := Option.some.inj (hg.symm.trans h1)
  obtain rfl := Option.some.inj (ht.symm.trans h2)
  obtain ⟨xs, m, _, hx, _, _, hf⟩ := DataW.trod_array hu h4
  have hx := congrArg Prod.fst hx
  simp only [DataW.agg.injEq] at hx
  have hf := hf i hi
  rw [hc, Nat.mul_one] at hf
  rw [hx, List.getElem?_map] at hd
  cases hxi : xs[i]? with
  | none => rw [hxi] at hd; cases hd
  | some y =>
    rw [hxi] at hd hf
    obtain ⟨n', e1, e2, _⟩ := DataW.trod_int he hf
    have hd := Option.some.inj hd
    rw [e2] at hd
    simp only [DataW.lit.injEq, Lit.int.injEq, true_and] at hd
    subst hd
    have hc2 : cs[i]? = some (.int k n') := by
      have := congrArg (fun l => l[0]?) e1
      simp only [List.getElem?_take, List.getElem?_drop, Nat.add_zero, List.getElem?_cons_zero, Nat.zero_lt_one, if_true] at this
      simpa using this
    have := World.var?_cell hg h3 i
    exact this.trans hc2
end
end Go.Proofs.YtjhcockaojlfiaaDoor
