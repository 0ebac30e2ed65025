/-
  The examples of the chapter; numbers that the statements let in; ContentPlaces and ContentTests.
-/
import Derived.Test.YtkmommchanjobaaContH
namespace Go.Proofs.Ytkmommchanjobaa
set_option linter.unusedSimpArgs false
set_option linter.unusedVariables false
open Go
/-- A slice of contents that stands at a block's beginning. -/
theorem rdC_blk {h : Heap} {b : Nat} {cs : List Cn} {t : TypeId} {S : Nat → Prop} (hb : h[b]? = some (.cells (cs.flatMap cnV).toArray t (0, 0))) (hS : ¬ S b) : RdC S h (some ⟨b, 0, none⟩) cs := by
  intro i hi
  refine ⟨_, rfl, hS, ?_⟩
  rw [add_mk, Nat.zero_add]
  have key : ∀ (cs : List Cn) (i : Nat) (hi : i < cs.length) (k : Nat) (hk : k < 7), (cs.flatMap cnV)[i * 7 + k]? = (cnV cs[i])[k]? := by
    intro cs
    induction cs with
    | nil => intro i hi; simp at hi
    | cons c cs ih =>
      intro i hi k hk
      have hl : (cnV c).length = 7 := rfl
      cases i with
      | zero => rw [List.flatMap_cons, List.getElem?_append_left (by rw [hl]; omega)]; simp
      | succ i =>
        rw [List.flatMap_cons, List.getElem?_append_right (by rw [hl]; omega), hl]
        have := ih i (by simpa using hi) k hk
        rw [show (i + 1) * 7 + k - 7 = i * 7 + k by omega, this]; simp
  have kk := key cs i hi
  constructor <;> (try rw [add_mk]) <;> rw [hcell_blk hb, List.getElem?_toArray]
  · have := kk 0 (by omega); rw [Nat.add_zero] at this; rw [this]; rfl
  · rw [kk 1 (by omega)]; rfl
  · rw [kk 2 (by omega)]; rfl
  · rw [kk 3 (by omega)]; rfl
  · rw [kk 4 (by omega)]; rfl
  · rw [kk 5 (by omega)]; rfl
  · rw [kk 6 (by omega)]; rfl
theorem rdT_nil {S : Nat → Prop} {h : Heap} {r : Option Addr} : RdT S h r [] := fun i hi => by simp at hi
theorem rdC_nil {S : Nat → Prop} {h : Heap} {r : Option Addr} : RdC S h r [] := fun i hi => by simp at hi
def exA : List Cn := [⟨[97, 98], false, false, false, 0, 0, false⟩, ⟨[99, 100], false, false, true, 1, 2, false⟩]
def exB : List Cn := [⟨[97], false, true, false, 0, 0, false⟩, ⟨[98], false, false, false, 0, 0, false⟩]
theorem awake_c [Gh] {h : Heap} {Q : Value → Heap → Prop} (hk : ∀ h', Fr (fun _ => False) h h' → Q (.bool true) h') : CallT Try.prog fn_law44_awake #[] h Q := by
  refine law44_awake_s ?_
  simp only [law44_awake_b5, law44_awake_b4, law44_awake_b3, law44_awake_b2, law44_awake_b1, law44_awake_v]
  simp only [alV]
  have f1 := Fr.push (fun _ => False) h (.cells (exA.flatMap cnV).toArray 23 (0, 0))
  have r1 : RdC (fun _ => False) (h.push (.cells (exA.flatMap cnV).toArray 23 (0, 0))) (some ⟨h.size, 0, none⟩) exA := rdC_blk get_push_self id
  have ok1 : ∀ c ∈ exA, OkC c := by intro c hc; simp [exA] at hc; rcases hc with rfl | rfl <;> (unfold OkC; decide)
  have ok2 : ∀ c ∈ exB, OkC c := by intro c hc; simp [exB] at hc; rcases hc with rfl | rfl <;> (unfold OkC; decide)
  refine Match_c (cs := exA) (ts := []) (d := [120, 97, 98, 99, 100, 97, 98, 45, 99, 100]) (La := some ⟨h.size, 0, none⟩) (Ta := none) (by decide) (by decide) (by decide) ok1 (by simp) 1000 (by decide) r1 rdT_nil fun h2 f2 => ⟨true, 10, 8, 0, ?_, ?_⟩
  · have e : solve [120, 97, 98, 99, 100, 97, 98, 45, 99, 100] [] exA 0 (stepsL 1000) = (some 10, 992, false) := by decide
    rw [e]; rfl
  have f3 := Fr.push (fun _ => False) h2 (.cells (exB.flatMap cnV).toArray 23 (0, 0))
  have r2 : RdC (fun _ => False) (h2.push (.cells (exB.flatMap cnV).toArray 23 (0, 0))) (some ⟨h2.size, 0, none⟩) exB := rdC_blk get_push_self id
  refine Match_c (cs := exB) (ts := []) (d := [98, 98]) (La := some ⟨h2.size, 0, none⟩) (Ta := none) (by decide) (by decide) (by decide) ok2 (by simp) 1000 (by decide) r2 rdT_nil fun h4 f4 => ⟨true, 1, 3, 0, ?_, ?_⟩
  · have e : solve [98, 98] [] exB 0 (stepsL 1000) = (some 1, 997, false) := by decide
    rw [e]; rfl
  simp only [if_true, beq_self_eq_true]
  refine Test_c ⟨3, 2, 256, 0, false, false, false⟩ [1, 1] 0 (by unfold OkT; decide) (by decide) (by decide) fun h5 f5 => ⟨_, rfl, ?_⟩
  have : testL ⟨3, 2, 256, 0, false, false, false⟩ [1, 1] 0 = true := by decide
  rw [this]
  exact hk _ ((((f1.trans f2).trans f3).trans f4).trans f5)
end Go.Proofs.Ytkmommchanjobaa
