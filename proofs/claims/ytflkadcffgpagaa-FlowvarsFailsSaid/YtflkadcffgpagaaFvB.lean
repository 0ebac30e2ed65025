/-
  Sets of names as ascending lists; what the calls do to them.
-/
import Derived.Test.YtflkadcffgpagaaFvA
import Derived.Test.YtflkadcffgpagaaSortK
namespace Go.Proofs.Ytflkadcffgpagaa
set_option linter.unusedSimpArgs false
set_option linter.unusedVariables false
set_option maxRecDepth 20000
open Go
abbrev Nm := List UInt8
def Asc (l : List Nm) : Prop := l.Pairwise (· < ·)
def insL (s : Nm) : List Nm → List Nm
  | [] => [s]
  | x :: xs => if s < x then s :: x :: xs else x :: insL s xs
def withL (l : List Nm) (s : Nm) : List Nm := if s ∈ l then l else insL s l
def withoutL (l : List Nm) (s : Nm) : List Nm := l.filter fun x => decide (x ≠ s)
theorem lt_of_nlt {a b : Nm} (h : ¬ a < b) (hne : a ≠ b) : b < a := by
  exact Classical.byContradiction fun hba => hne (List.le_antisymm hba h)
theorem mem_ins {s x : Nm} : ∀ {l : List Nm}, x ∈ insL s l ↔ x = s ∨ x ∈ l
  | [] => by simp [insL]
  | y :: l => by
    unfold insL
    split
    · simp
    · rw [List.mem_cons, mem_ins, List.mem_cons]
      constructor <;> (intro h; rcases h with h | h | h <;> simp [h])
theorem ins_asc {s : Nm} : ∀ {l : List Nm}, Asc l → s ∉ l → Asc (insL s l)
  | [], _, _ => by simp [insL, Asc]
  | y :: l, h, hn => by
    unfold Asc at h ⊢
    rw [List.pairwise_cons] at h
    unfold insL
    split
    · rename_i hlt
      refine List.pairwise_cons.2 ⟨fun z hz => ?_, List.pairwise_cons.2 h⟩
      rcases List.mem_cons.1 hz with rfl | hz
      · exact hlt
      · exact List.lt_trans hlt (h.1 z hz)
    · rename_i hlt
      have hne : s ≠ y := fun e => hn (by simp [e])
      refine List.pairwise_cons.2 ⟨fun z hz => ?_, ins_asc h.2 fun hm => hn (by simp [hm])⟩
      rcases mem_ins.1 hz with rfl | hz
      · exact lt_of_nlt hlt hne
      · exact h.1 z hz
theorem ins_len {s : Nm} : ∀ {l : List Nm}, (insL s l).length = l.length + 1
  | [] => rfl
  | y :: l => by unfold insL; split <;> simp [ins_len (l := l)]
theorem with_asc {l : List Nm} (h : Asc l) (s : Nm) : Asc (withL l s) := by
  unfold withL; split
  · exact h
  · rename_i hn; exact ins_asc h hn
theorem without_asc {l : List Nm} (h : Asc l) (s : Nm) : Asc (withoutL l s) := h.sublist List.filter_sublist
theorem asc_nodup {l : List Nm} (h : Asc l) : l.Nodup := List.Pairwise.imp (fun hlt e => by subst e; exact List.lt_irrefl _ hlt) h
/-- Lists that ascend and hold the same are the same. -/
theorem asc_eq {l m : List Nm} (hl : Asc l) (hm : Asc m) (p : l.Perm m) : l = m := by
  refine List.Perm.eq_of_pairwise (le := fun a b => a ≤ b) (fun a b _ _ h1 h2 => List.le_antisymm h1 h2) ?_ ?_ p
  · exact List.Pairwise.imp (fun h => List.le_of_lt h) hl
  · exact List.Pairwise.imp (fun h => List.le_of_lt h) hm
theorem sort_asc {ks l : List Nm} (p : ks.Perm l) (h : Asc l) : ks.mergeSort (fun x y => decide (x ≤ y)) = l := by
  have tr : ∀ a b c : Nm, decide (a ≤ b) = true → decide (b ≤ c) = true → decide (a ≤ c) = true := fun a b c h1 h2 => by simp only [decide_eq_true_eq] at *; exact List.le_trans h1 h2
  have to : ∀ a b : Nm, (decide (a ≤ b) || decide (b ≤ a)) = true := fun a b => by simp only [Bool.or_eq_true, decide_eq_true_eq]; exact List.le_total a b
  refine List.Perm.eq_of_pairwise (le := fun a b => a ≤ b) (fun a b _ _ h1 h2 => List.le_antisymm h1 h2) ?_ (List.Pairwise.imp (fun h => List.le_of_lt h) h) ((List.mergeSort_perm ks _).trans p)
  exact (List.pairwise_mergeSort tr to ks).imp fun h => of_decide_eq_true h
/-- What Do makes of the names of a direction: an error, or the new names. -/
def doL : List Nm → List S_api_FlowOp → Int × List Nm
  | l, [] => (0, l)
  | l, o :: os => if o.Op < 1 ∨ o.Op > 4 then (4, l) else if isNameB o.Name = false then (5, l) else if o.Op = 2 then doL (withoutL l o.Name) os else
    if o.Op = 1 then (if o.Name ∉ l ∧ l.length ≥ 32 then (11, l) else doL (withL l o.Name) os) else doL l os
theorem doL_cons (l : List Nm) (o : S_api_FlowOp) (os : List S_api_FlowOp) : doL l (o :: os) = if o.Op < 1 ∨ o.Op > 4 then (4, l) else if isNameB o.Name = false then (5, l) else if o.Op = 2 then doL (withoutL l o.Name) os else
    if o.Op = 1 then (if o.Name ∉ l ∧ l.length ≥ 32 then (11, l) else doL (withL l o.Name) os) else doL l os := rfl
def holdsB (l : List Nm) (ops : List S_api_FlowOp) : Bool := ops.all fun o => !(decide (o.Op = 3) && !decide (o.Name ∈ l)) && !(decide (o.Op = 4) && decide (o.Name ∈ l))
theorem doL_asc : ∀ (ops : List S_api_FlowOp) {l : List Nm}, Asc l → Asc (doL l ops).2
  | [], l, h => h
  | o :: os, l, h => by
    unfold doL
    split
    · exact h
    split
    · exact h
    split
    · exact doL_asc os (without_asc h _)
    split
    · split
      · exact h
      · exact doL_asc os (with_asc h _)
    · exact doL_asc os h
theorem without_len (l : List Nm) (s : Nm) : (withoutL l s).length ≤ l.length := List.length_filter_le ..
theorem doL_len : ∀ (ops : List S_api_FlowOp) {l : List Nm}, l.length ≤ 32 → (doL l ops).2.length ≤ 32
  | [], l, h => h
  | o :: os, l, h => by
    unfold doL
    split
    · exact h
    split
    · exact h
    split
    · exact doL_len os (Nat.le_trans (without_len _ _) h)
    split
    · split
      · exact h
      · rename_i hn
        refine doL_len os ?_
        unfold withL; split
        · exact h
        · rename_i hm
          rw [ins_len]
          have : ¬ l.length ≥ 32 := fun hl => hn ⟨hm, hl⟩
          omega
    · exact doL_len os h
end Go.Proofs.Ytflkadcffgpagaa
