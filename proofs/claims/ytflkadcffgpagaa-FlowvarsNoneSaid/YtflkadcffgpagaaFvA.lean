/-
  Names.
-/
import Derived.Test.YtflkadcffgpagaaHs
import Derived.Test.YtflkadcffgpagaaMapT
import Derived.Test.YtflkadcffgpagaaTy
import Derived.Test.YtflkadcffgpagaaG1
namespace Go.Proofs.Ytflkadcffgpagaa
set_option linter.unusedSimpArgs false
set_option linter.unusedVariables false
set_option maxRecDepth 20000
open Go
open Go.IntKind (wrap)
def letterB (c : Int) : Bool := decide (97 ≤ c ∧ c ≤ 122 ∨ 65 ≤ c ∧ c ≤ 90)
def digitB (c : Int) : Bool := decide (48 ≤ c ∧ c ≤ 57)
def inB (c : Int) : Bool := letterB c || digitB c || decide (c = 95)
def byteI (b : UInt8) : Int := b.toNat
def isNameB (l : List UInt8) : Bool := decide (l ≠ []) && decide (l.length ≤ 32) && letterB (byteI (l.getD 0 0)) && l.all fun b => inB (byteI b)
theorem byteI_le (b : UInt8) : 0 ≤ byteI b ∧ byteI b ≤ 255 := by unfold byteI; have := b.toNat_lt; omega
theorem wr32 {x : Int} (h1 : 0 ≤ x) (h2 : x ≤ 255) : IntKind.wrap .i32 x = x := by
  unfold IntKind.wrap IntKind.bits IntKind.signed
  simp only [Bool.true_and, decide_eq_true_eq, ge_iff_le]
  split <;> omega
theorem rLetter_c [Gh] (c : Int) {h : Heap} {Q : Value → Heap → Prop} (hk : Q (.bool (letterB c)) h) : CallT Try.prog fn_ref04_Letter #[.int .u8 c] h Q := by
  apply ref04_Letter_s
  unfold ref04_Letter_v
  unfold letterB at hk
  repeat' (first | refine ifD (fun e => ?_) fun e => ?_)
  all_goals (refine Qeq hk ?_; congr 1; rw [Bool.eq_iff_iff]; simp only [decide_eq_true_eq, Bool.false_eq_true, iff_false, iff_true]; omega)
theorem rDigit_c [Gh] (c : Int) {h : Heap} {Q : Value → Heap → Prop} (hk : Q (.bool (digitB c)) h) : CallT Try.prog fn_ref04_Digit #[.int .u8 c] h Q := by
  apply ref04_Digit_s
  unfold ref04_Digit_v
  unfold digitB at hk
  repeat' (first | refine ifD (fun e => ?_) fun e => ?_)
  all_goals (refine Qeq hk ?_; congr 1; rw [Bool.eq_iff_iff]; simp only [decide_eq_true_eq, Bool.false_eq_true, iff_false, iff_true]; omega)
theorem rIn_c [Gh] (c : Int) {h : Heap} {Q : Value → Heap → Prop} (hk : Q (.bool (inB c)) h) : CallT Try.prog fn_ref04_inName #[.int .u8 c] h Q := by
  apply ref04_inName_s
  unfold ref04_inName_v
  unfold inB at hk
  refine rLetter_c c ⟨_, rfl, ifB (fun e => ?_) fun e => rDigit_c c ⟨_, rfl, ifB (fun e2 => ?_) fun e2 => ?_⟩⟩
  · rw [e] at hk; exact hk
  · rw [e, e2] at hk; exact hk
  · rw [e, e2] at hk; exact hk
/-- A letter is of the class 2, a digit of the class 3. -/
theorem class_c [Gh] (c : Int) (h0 : 0 ≤ c) (h1 : c ≤ 255) {h : Heap} {Q : Value → Heap → Prop} (hk : ∀ k : Int, (k = 2 ↔ letterB c = true) → (k = 3 ↔ digitB c = true) → Q (.int .i64 k) h) : CallT Try.prog fn_lexer_class #[.int .u8 c] h Q := by
  apply lexer_class_s
  unfold lexer_class_v
  rw [wr32 h0 h1]
  unfold letterB digitB at hk
  simp only [decide_eq_true_eq] at hk
  have b1 : ¬ (97 ≤ c ∧ c ≤ 122 ∨ 65 ≤ c ∧ c ≤ 90) → lexer_class_b1 c Q h := fun hn => by
    unfold lexer_class_b1
    repeat' (first | refine ifD (fun e => ?_) fun e => ?_ | refine ifE (fun e => ?_) fun e => ?_)
    all_goals (refine hk _ ?_ ?_ <;> (constructor <;> intro h <;> omega))
  repeat' (first | refine ifD (fun e => ?_) fun e => ?_ | refine ifE (fun e => ?_) fun e => ?_ | refine b1 (by omega))
  all_goals (refine hk _ ?_ ?_ <;> (constructor <;> intro h <;> omega))
theorem in_c [Gh] (c : Int) (h0 : 0 ≤ c) (h1 : c ≤ 255) {h : Heap} {Q : Value → Heap → Prop} (hk : Q (.bool (inB c)) h) : CallT Try.prog fn_lexer_inName #[.int .u8 c] h Q := by
  apply lexer_inName_s
  unfold lexer_inName_v
  unfold inB at hk
  refine ifE (fun e => ?_) fun e => ?_
  · rw [decide_eq_true e, Bool.or_true] at hk; exact hk
  rw [decide_eq_false e, Bool.or_false] at hk
  refine class_c c h0 h1 fun k k2 k3 => ⟨_, rfl, ifE (fun e2 => ?_) fun e2 => class_c c h0 h1 fun m m2 m3 => ⟨_, rfl, ?_⟩⟩
  · rw [k2.1 e2] at hk; exact hk
  · have hl : letterB c = false := by
      cases hl : letterB c with
      | false => rfl
      | true => exact absurd (k2.2 hl) e2
    rw [hl, Bool.false_or] at hk
    refine Qeq hk ?_
    congr 1
    rw [Bool.eq_iff_iff, beq_iff_eq]; exact m3.symm
theorem isName_cons {x : UInt8} {l : List UInt8} : isNameB (x :: l) = (decide ((x :: l).length ≤ 32) && letterB (byteI x) && (x :: l).all fun b => inB (byteI b)) := by
  unfold isNameB; simp
theorem rIsName_c [Gh] (l : List UInt8) {h : Heap} {Q : Value → Heap → Prop} (hk : Q (.bool (isNameB l)) h) : CallT Try.prog fn_ref04_IsName #[.string (bs l)] h Q := by
  apply ref04_IsName_s
  unfold ref04_IsName_v
  refine ifS0 (fun e => ?_) fun e => ?_
  · subst e; exact hk
  cases l with
  | nil => exact absurd rfl e
  | cons x l =>
    rw [isName_cons] at hk
    rw [bs_size]
    refine ifD (fun e1 => ?_) fun e1 => ?_
    · rw [decide_eq_false (by omega)] at hk; exact hk
    rw [decide_eq_true (by omega), Bool.true_and] at hk
    refine idxS_bs _ _ _ (by omega) (by simp) ?_
    refine rLetter_c (byteI x) ⟨_, rfl, ifN (fun e2 => ?_) fun e2 => ?_⟩
    · rw [e2] at hk; exact hk
    rw [e2, Bool.true_and] at hk
    generalize x :: l = l at *
    refine LoopV.mk (fun s h' => ∃ i : Nat, s = (i : Int) ∧ i ≤ l.length ∧ h' = h ∧ (l.take i).all (fun b => inB (byteI b)) = true) (fun s _ => l.length - s.toNat) ⟨0, rfl, by omega, rfl, by simp⟩ ?_
    rintro - h1 ⟨i, rfl, hi, hh, ha⟩
    subst h1
    unfold ref04_IsName_l1
    rw [bs_size]
    refine ifD (fun e3 => ?_) fun e3 => ?_
    · have hlt : i < l.length := by omega
      have htk : l.take (i + 1) = l.take i ++ [l[i]] := by rw [List.take_append_getElem]
      refine idxS_bs _ _ _ (by omega) (by omega) ?_
      have hg : l.getD (i : Int).toNat 0 = l[i] := by rw [Int.toNat_natCast, List.getD_eq_getElem?_getD, List.getElem?_eq_getElem hlt]; rfl
      rw [hg]
      refine rIn_c (byteI l[i]) ⟨_, rfl, ifN (fun e4 => ?_) fun e4 => ?_⟩
      · have : l.all (fun b => inB (byteI b)) = false := by
          rw [List.all_eq_false]; exact ⟨l[i], List.getElem_mem hlt, by rw [e4]; simp⟩
        rw [this] at hk; exact hk
      · rw [wr (by omega) (by omega)]
        exact ⟨⟨i + 1, rfl, hlt, rfl, by rw [htk, List.all_append, ha]; simp [e4]⟩, by omega⟩
    · rw [List.take_of_length_le (by omega)] at ha
      rw [ha] at hk; exact hk
theorem while_c [Gh] (l : List UInt8) (hl : l.length ≤ 1000) {h : Heap} {Q : Value → Heap → Prop} (hk : ∀ n : Nat, n ≤ l.length → (n = l.length ↔ l.all (fun b => inB (byteI b)) = true) → Q (.int .i64 n) h) : CallT Try.prog fn_lexer_while #[.string (bs l), .int .i64 0, .func (.func 33) #[] #[]] h Q := by
  apply lexer_while_s
  unfold lexer_while_v
  refine LoopV.mk (fun s h' => ∃ i : Nat, s = (i : Int) ∧ i ≤ l.length ∧ h' = h ∧ (l.take i).all (fun b => inB (byteI b)) = true) (fun s _ => l.length - s.toNat) ⟨0, rfl, by omega, rfl, by simp⟩ ?_
  rintro - h1 ⟨i, rfl, hi, hh, ha⟩
  subst h1
  unfold lexer_while_l1
  rw [bs_size]
  refine ifD (fun e3 => ?_) fun e3 => ?_
  · have hlt : i < l.length := by omega
    have htk : l.take (i + 1) = l.take i ++ [l[i]] := by rw [List.take_append_getElem]
    refine idxS_bs _ _ _ (by omega) (by omega) ?_
    have hg : l.getD (i : Int).toNat 0 = l[i] := by rw [Int.toNat_natCast, List.getD_eq_getElem?_getD, List.getElem?_eq_getElem hlt]; rfl
    rw [hg]
    have hb := byteI_le l[i]
    refine in_c (byteI l[i]) hb.1 hb.2 ⟨_, rfl, ifB (fun e4 => ?_) fun e4 => ?_⟩
    · rw [wr (by omega) (by omega)]
      exact ⟨⟨i + 1, rfl, hlt, rfl, by rw [htk, List.all_append, ha]; simp [e4]⟩, by omega⟩
    · refine hk i (by omega) ⟨fun h => by omega, fun h => ?_⟩
      rw [List.all_eq_true] at h
      have := h _ (List.getElem_mem hlt)
      rw [e4] at this; cases this
  · have : i = l.length := by omega
    subst this
    rw [List.take_length] at ha
    exact hk _ (Nat.le_refl _) ⟨fun _ => ha, fun _ => rfl⟩
theorem isName_c [Gh] (l : List UInt8) {h : Heap} {Q : Value → Heap → Prop} (hk : Q (.bool (isNameB l)) h) : CallT Try.prog fn_lexer_IsName #[.string (bs l)] h Q := by
  apply lexer_IsName_s
  unfold lexer_IsName_v
  refine ifSn (m := []) (fun hne => ?_) fun e => by subst e; exact hk
  cases l with
  | nil => exact absurd rfl hne
  | cons x l =>
    rw [isName_cons] at hk
    rw [bs_size]
    refine ifD (fun e1 => ?_) fun e1 => ?_
    · rw [decide_eq_true (by omega), Bool.true_and] at hk
      refine idxS_bs _ _ _ (by omega) (by simp) ?_
      have hb := byteI_le x
      refine class_c (byteI x) hb.1 hb.2 fun k k2 k3 => ⟨_, rfl, ifE (fun e2 => ?_) fun e2 => ?_⟩
      · rw [k2.1 e2, Bool.true_and] at hk
        refine while_c (x :: l) (by omega) fun n hn hall => ⟨_, rfl, ?_⟩
        refine Qeq hk ?_
        congr 1
        rw [Bool.eq_iff_iff, beq_iff_eq, ← hall]; omega
      · have hl : letterB (byteI x) = false := by
          cases hl : letterB (byteI x) with
          | false => rfl
          | true => exact absurd (k2.2 hl) e2
        rw [hl, Bool.false_and] at hk; exact hk
    · rw [decide_eq_false (by omega)] at hk; exact hk
end Go.Proofs.Ytflkadcffgpagaa
