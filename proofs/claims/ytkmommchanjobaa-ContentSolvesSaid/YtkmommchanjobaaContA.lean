/-
  Contents: where one stands; letters in small form.
-/
import Derived.Test.YtkmommchanjobaaG2
import Derived.Test.YtkmommchanjobaaBridge
namespace Go.Proofs.Ytkmommchanjobaa
set_option linter.unusedSimpArgs false
set_option linter.unusedVariables false
open Go
theorem ldS_mk {h : Heap} {a : Addr} {s : ByteArray} {K : ByteArray → Prop} (hc : hcell h a = some (.string s)) (hk : K s) : ldS h a K := ⟨s, hc, hk⟩
theorem ldI_mk {h : Heap} {a : Addr} {k : IntKind} {n : Int} {K : Int → Prop} (hc : hcell h a = some (.int k n)) (hk : K n) : ldI h a k K := ⟨n, hc, hk⟩
theorem ldB_mk {h : Heap} {a : Addr} {n : Bool} {K : Bool → Prop} (hc : hcell h a = some (.bool n)) (hk : K n) : ldB h a K := ⟨n, hc, hk⟩
/-- A content. -/
structure Cn where
  pat : List UInt8
  nocase : Bool
  neg : Bool
  rel : Bool
  off : Int
  dep : Int
  fast : Bool
def cnV (c : Cn) : List Value := [.string (bs c.pat), .bool c.nocase, .bool c.neg, .bool c.rel, .int .i64 c.off, .int .i64 c.dep, .bool c.fast]
def smallL (c : UInt8) : UInt8 := if 65 ≤ c.toNat ∧ c.toNat ≤ 90 then c + 32 else c
theorem small_num (c : UInt8) (h1 : 65 ≤ c.toNat) (h2 : c.toNat ≤ 90) : ((smallL c).toNat : Int) = c.toNat + 32 := by
  unfold smallL; rw [if_pos ⟨h1, h2⟩, UInt8.toNat_add]
  have : (32 : UInt8).toNat = 32 := rfl
  rw [this]; omega
theorem wr8 {x : Int} (h1 : 0 ≤ x) (h2 : x ≤ 255) : IntKind.wrap .u8 x = x := by
  unfold IntKind.wrap IntKind.bits IntKind.signed
  simp
  omega
theorem small_c [Gh] (c : UInt8) {h : Heap} {Q : Value → Heap → Prop} (hk : Q (.int .u8 (smallL c).toNat) h) : CallT Try.prog fn_content_small #[.int .u8 c.toNat] h Q := by
  refine content_small_s _ ?_
  simp only [content_small_b3, content_small_b4, content_small_b2, content_small_b1, content_small_v]
  by_cases h1 : 65 ≤ c.toNat
  · rw [if_pos (by rw [decide_eq_true_eq]; omega)]
    by_cases h2 : c.toNat ≤ 90
    · rw [if_pos (by rw [decide_eq_true_eq]; omega), wr8 (x := (c.toNat : Int) + 97) (by omega) (by omega), wr8 (by omega) (by omega)]
      have := small_num c h1 h2
      rw [show ((c.toNat : Int) + 97 - 65) = ((smallL c).toNat : Int) by omega]; exact hk
    · rw [if_neg (by rw [decide_eq_true_eq]; omega)]
      have : smallL c = c := if_neg (by omega)
      rw [this] at hk; exact hk
  · rw [if_neg (by rw [decide_eq_true_eq]; omega)]
    have : smallL c = c := if_neg (by omega)
    rw [this] at hk; exact hk
theorem rsmall_c [Gh] (c : UInt8) {h : Heap} {Q : Value → Heap → Prop} (hk : Q (.int .u8 (smallL c).toNat) h) : CallT Try.prog fn_ref44_small #[.int .u8 c.toNat] h Q := by
  refine ref44_small_s _ ?_
  simp only [ref44_small_b3, ref44_small_b4, ref44_small_b2, ref44_small_b1, ref44_small_v]
  by_cases h1 : 65 ≤ c.toNat
  · rw [if_pos (by rw [decide_eq_true_eq]; omega)]
    by_cases h2 : c.toNat ≤ 90
    · rw [if_pos (by rw [decide_eq_true_eq]; omega), wr8 (by omega) (by omega)]
      have := small_num c h1 h2
      rw [show ((c.toNat : Int) + 32) = ((smallL c).toNat : Int) by omega]; exact hk
    · rw [if_neg (by rw [decide_eq_true_eq]; omega)]
      have : smallL c = c := if_neg (by omega)
      rw [this] at hk; exact hk
  · rw [if_neg (by rw [decide_eq_true_eq]; omega)]
    have : smallL c = c := if_neg (by omega)
    rw [this] at hk; exact hk
def eqN (nc : Bool) (x y : UInt8) : Bool := if nc then smallL x == smallL y else x == y
/-- A content stands at a place. -/
def AtP (c : Cn) (d : List UInt8) (at_ : Int) : Prop := 0 ≤ at_ ∧ at_ + c.pat.length ≤ d.length ∧ ∀ i, i < c.pat.length → eqN c.nocase (d.getD (at_.toNat + i) 0) (c.pat.getD i 0) = true
instance (c : Cn) (d : List UInt8) (at_ : Int) : Decidable (AtP c d at_) := by unfold AtP; exact inferInstance
theorem u8_ne {x y : UInt8} : (((x.toNat : Int)) != ((y.toNat : Int))) = !(x == y) := by
  rw [Bool.eq_iff_iff]
  simp only [bne_iff_ne, ne_eq, Bool.not_eq_true', beq_eq_false_iff_ne]
  constructor
  · intro h e; exact h (by rw [e])
  · intro h e; exact h (UInt8.toNat_inj.1 (by omega))
theorem u8_if {x y : UInt8} : (((x.toNat : Int)) != ((y.toNat : Int))) = true ↔ x ≠ y := by
  rw [u8_ne]; simp
theorem getD_ext {l m : List UInt8} (hl : l.length = m.length) (h : ∀ i, i < l.length → l.getD i 0 = m.getD i 0) : l = m := by
  apply List.ext_getElem hl
  intro i h1 h2
  have := h i h1
  rw [List.getD_eq_getElem?_getD, List.getD_eq_getElem?_getD, List.getElem?_eq_getElem h1, List.getElem?_eq_getElem h2] at this
  exact this
theorem getD_part (d : List UInt8) (a n i : Nat) (hi : i < n) : ((d.drop a).take n).getD i 0 = d.getD (a + i) 0 := by
  rw [List.getD_eq_getElem?_getD, List.getD_eq_getElem?_getD, List.getElem?_take_of_lt hi, List.getElem?_drop]
theorem atP_false {c : Cn} {d : List UInt8} {at_ : Int} (h : ¬ (0 ≤ at_ ∧ at_ + c.pat.length ≤ d.length)) : decide (AtP c d at_) = false := by
  rw [decide_eq_false_iff_not]; rintro ⟨h1, h2, _⟩; exact h ⟨h1, h2⟩
theorem eqN_false {x y : UInt8} : eqN false x y = (x == y) := rfl
theorem eqN_true {x y : UInt8} : eqN true x y = (smallL x == smallL y) := rfl
theorem At_c [Gh] (c : Cn) (d : List UInt8) (at_ : Int) (hc : c.pat.length < 2 ^ 40) (hd : d.length < 2 ^ 40) {h : Heap} {Q : Value → Heap → Prop}
    (hk : ∀ h', Fr (fun _ => False) h h' → Q (.bool (decide (AtP c d at_))) h') :
    CallT Try.prog fn_content_At #[.agg (cnV c).toArray, .string (bs d), .int .i64 at_] h Q := by
  obtain ⟨pat, nc, neg, rel, off, dep, fast⟩ := c
  have hk := hk _ (Fr.push _ h (.cells #[Value.string (bs pat), Value.bool nc, Value.bool neg, Value.bool rel, Value.int .i64 off, Value.int .i64 dep, Value.bool fast] 23 (0, 0)))
  refine content_At_s (bs pat) nc neg rel off dep fast (bs d) at_ ?_
  simp only [content_At_b3, content_At_b6, content_At_b16, content_At_b8, content_At_b7, content_At_b5, content_At_b4, content_At_b2, content_At_b1, content_At_v]
  simp only [alV]
  have g0 : hcell (h.push (.cells #[Value.string (bs pat), Value.bool nc, Value.bool neg, Value.bool rel, Value.int .i64 off, Value.int .i64 dep, Value.bool fast] 23 (0, 0))) ⟨h.size, 0, none⟩ = some (.string (bs pat)) := by rw [hcell_blk get_push_self]; rfl
  have g1 : hcell (h.push (.cells #[Value.string (bs pat), Value.bool nc, Value.bool neg, Value.bool rel, Value.int .i64 off, Value.int .i64 dep, Value.bool fast] 23 (0, 0))) (Addr.add ⟨h.size, 0, none⟩ 1) = some (.bool nc) := by rw [add_mk, hcell_blk get_push_self]; rfl
  generalize h.push (.cells #[Value.string (bs pat), Value.bool nc, Value.bool neg, Value.bool rel, Value.int .i64 off, Value.int .i64 dep, Value.bool fast] 23 (0, 0)) = hq at *
  generalize Addr.mk h.size 0 none = b at *
  simp only at hc
  by_cases h1 : at_ < 0
  · rw [if_pos (by rw [decide_eq_true_eq]; exact h1)]
    rw [atP_false (by simp only; omega)] at hk; exact hk
  rw [if_neg (by rw [decide_eq_true_eq]; exact h1)]
  by_cases h2 : at_ > d.length
  · rw [if_pos (by rw [bs_size, decide_eq_true_eq]; omega)]
    rw [atP_false (by simp only; omega)] at hk; exact hk
  rw [if_neg (by rw [bs_size, decide_eq_true_eq]; omega)]
  refine ldS_mk g0 ?_
  rw [bs_size, bs_size, wr (by omega) (by omega)]
  by_cases h3 : (d.length : Int) - at_ < pat.length
  · rw [if_pos (by rw [decide_eq_true_eq]; omega)]
    rw [atP_false (by simp only; omega)] at hk; exact hk
  rw [if_neg (by rw [decide_eq_true_eq]; omega)]
  refine ldS_mk g0 ?_
  rw [bs_size, wr (by omega) (by omega)]
  refine ⟨by omega, by omega, by rw [bs_size]; omega, ?_⟩
  have e1 : (at_ + (pat.length : Int)).toNat - at_.toNat = pat.length := by omega
  rw [bs_extract, e1]
  have hpl : ((d.drop at_.toNat).take pat.length).length = pat.length := by rw [List.length_take, List.length_drop]; omega
  refine ldB_mk g1 ?_
  cases nc with
  | false =>
    rw [if_pos (by rfl)]
    refine ldS_mk g0 ?_
    rw [bs_toList, bs_toList]
    have e : decide (AtP ⟨pat, false, neg, rel, off, dep, fast⟩ d at_) = ((d.drop at_.toNat).take pat.length == pat) := by
      rw [Bool.eq_iff_iff, decide_eq_true_eq, beq_iff_eq]
      constructor
      · rintro ⟨_, _, hh⟩
        refine getD_ext hpl fun i hi => ?_
        rw [hpl] at hi
        rw [getD_part _ _ _ _ hi]
        have := hh i hi
        rw [eqN_false, beq_iff_eq] at this; exact this
      · intro hh
        refine ⟨by omega, by simp only; omega, fun i hi => ?_⟩
        simp only at hi ⊢
        rw [eqN_false, beq_iff_eq, ← getD_part _ _ _ _ hi, hh]
    rw [e] at hk; exact hk
  | true =>
    rw [if_neg (by simp)]
    rw [bs_size, hpl]
    refine LoopV.mk (fun s h' => h' = hq ∧ ∃ k : Nat, s = k ∧ k ≤ pat.length ∧ ∀ i, i < k → eqN true (d.getD (at_.toNat + i) 0) (pat.getD i 0) = true) (fun s _ => pat.length - s.toNat) ⟨rfl, 0, rfl, by omega, fun i hi => by omega⟩ ?_
    rintro s h' ⟨rfl, k, rfl, hkl, hpre⟩
    simp only [content_At_b14, content_At_b15, content_At_b13, content_At_b12, content_At_b11, content_At_b10, content_At_l9]
    by_cases hk' : k < pat.length
    · rw [if_pos (by rw [decide_eq_true_eq]; omega)]
      refine idxS_bs _ _ _ (by omega) (by rw [hpl]; omega) ?_
      refine ldS_mk g0 (idxS_bs _ _ _ (by omega) (by omega) ?_)
      rw [Int.toNat_natCast, getD_part _ _ _ _ hk']
      refine small_c _ ⟨_, rfl, ⟨_, g0, rfl⟩, ?_⟩
      refine small_c _ ⟨_, rfl, ?_⟩
      by_cases he : eqN true (d.getD (at_.toNat + k) 0) (pat.getD k 0) = true
      · rw [if_neg (by rw [u8_if, Classical.not_not]; rw [eqN_true, beq_iff_eq] at he; exact he), wr (by omega) (by omega)]
        refine ⟨⟨rfl, k + 1, by omega, by omega, fun i hi => ?_⟩, by omega⟩
        by_cases hik : i = k
        · rw [hik]; exact he
        · exact hpre i (by omega)
      · rw [if_pos (by rw [u8_if]; rw [eqN_true, beq_iff_eq] at he; exact he)]
        have : decide (AtP ⟨pat, true, neg, rel, off, dep, fast⟩ d at_) = false := by
          rw [decide_eq_false_iff_not]; rintro ⟨_, _, hh⟩; exact he (hh k hk')
        rw [this] at hk; exact hk
    · rw [if_neg (by rw [decide_eq_true_eq]; omega)]
      have : decide (AtP ⟨pat, true, neg, rel, off, dep, fast⟩ d at_) = true := by
        rw [decide_eq_true_eq]
        exact ⟨by omega, by simp only; omega, fun i hi => hpre i (by simp only at hi; omega)⟩
      rw [this] at hk; exact hk
theorem rAt_c [Gh] (c : Cn) (d : List UInt8) (at_ : Int) (hc : c.pat.length < 2 ^ 40) (hd : d.length < 2 ^ 40) {h : Heap} {Q : Value → Heap → Prop}
    (hk : ∀ h', Fr (fun _ => False) h h' → Q (.bool (decide (AtP c d at_))) h') :
    CallT Try.prog fn_ref44_At #[.agg (cnV c).toArray, .string (bs d), .int .i64 at_] h Q := by
  obtain ⟨pat, nc, neg, rel, off, dep, fast⟩ := c
  have hk := hk _ (Fr.push _ h (.cells #[Value.string (bs pat), Value.bool nc, Value.bool neg, Value.bool rel, Value.int .i64 off, Value.int .i64 dep, Value.bool fast] 23 (0, 0)))
  refine ref44_At_s (bs pat) nc neg rel off dep fast (bs d) at_ ?_
  simp only [ref44_At_b3, ref44_At_b13, ref44_At_b5, ref44_At_b4, ref44_At_b2, ref44_At_b1, ref44_At_v]
  simp only [alV]
  have g0 : hcell (h.push (.cells #[Value.string (bs pat), Value.bool nc, Value.bool neg, Value.bool rel, Value.int .i64 off, Value.int .i64 dep, Value.bool fast] 23 (0, 0))) ⟨h.size, 0, none⟩ = some (.string (bs pat)) := by rw [hcell_blk get_push_self]; rfl
  have g1 : hcell (h.push (.cells #[Value.string (bs pat), Value.bool nc, Value.bool neg, Value.bool rel, Value.int .i64 off, Value.int .i64 dep, Value.bool fast] 23 (0, 0))) (Addr.add ⟨h.size, 0, none⟩ 1) = some (.bool nc) := by rw [add_mk, hcell_blk get_push_self]; rfl
  generalize h.push (.cells #[Value.string (bs pat), Value.bool nc, Value.bool neg, Value.bool rel, Value.int .i64 off, Value.int .i64 dep, Value.bool fast] 23 (0, 0)) = hq at *
  generalize Addr.mk h.size 0 none = b at *
  simp only at hc
  by_cases h1 : at_ < 0
  · rw [if_pos (by rw [decide_eq_true_eq]; exact h1)]
    rw [atP_false (by simp only; omega)] at hk; exact hk
  rw [if_neg (by rw [decide_eq_true_eq]; exact h1)]
  by_cases h2 : at_ > d.length
  · rw [if_pos (by rw [bs_size, decide_eq_true_eq]; omega)]
    rw [atP_false (by simp only; omega)] at hk; exact hk
  rw [if_neg (by rw [bs_size, decide_eq_true_eq]; omega)]
  refine ldS_mk g0 ?_
  rw [bs_size, bs_size, wr (by omega) (by omega)]
  by_cases h3 : (pat.length : Int) > (d.length : Int) - at_
  · rw [if_pos (by rw [decide_eq_true_eq]; omega)]
    rw [atP_false (by simp only; omega)] at hk; exact hk
  rw [if_neg (by rw [decide_eq_true_eq]; omega)]
  refine LoopV.mk (fun s h' => h' = hq ∧ ∃ k : Nat, s = k ∧ k ≤ pat.length ∧ ∀ i, i < k → eqN nc (d.getD (at_.toNat + i) 0) (pat.getD i 0) = true) (fun s _ => pat.length - s.toNat) ⟨rfl, 0, rfl, by omega, fun i hi => by omega⟩ ?_
  rintro s h' ⟨rfl, k, rfl, hkl, hpre⟩
  simp only [ref44_At_b11, ref44_At_b12, ref44_At_b10, ref44_At_b9, ref44_At_b8, ref44_At_b7, ref44_At_l6]
  refine ldS_mk g0 ?_
  by_cases hk' : k < pat.length
  · rw [if_pos (by rw [bs_size, decide_eq_true_eq]; omega)]
    refine ldS_mk g0 (idxS_bs _ _ _ (by omega) (by omega) ?_)
    rw [wr (by omega) (by omega)]
    refine idxS_bs _ _ _ (by omega) (by omega) ?_
    have e2 : (at_ + (k : Int)).toNat = at_.toNat + k := by omega
    rw [Int.toNat_natCast, e2]
    have yes : eqN nc (d.getD (at_.toNat + k) 0) (pat.getD k 0) = true → (True ∧ ∃ k2 : Nat, IntKind.wrap .i64 ((k : Int) + 1) = k2 ∧ k2 ≤ pat.length ∧ ∀ i, i < k2 → eqN nc (d.getD (at_.toNat + i) 0) (pat.getD i 0) = true) ∧ pat.length - (IntKind.wrap .i64 ((k : Int) + 1)).toNat < pat.length - k := fun he => by
      rw [wr (by omega) (by omega)]
      refine ⟨⟨trivial, k + 1, by omega, by omega, fun i hi => ?_⟩, by omega⟩
      by_cases hik : i = k
      · rw [hik]; exact he
      · exact hpre i (by omega)
    have no : ¬ eqN nc (d.getD (at_.toNat + k) 0) (pat.getD k 0) = true → decide (AtP ⟨pat, nc, neg, rel, off, dep, fast⟩ d at_) = false := fun he => by
      rw [decide_eq_false_iff_not]; rintro ⟨_, _, hh⟩; exact he (hh k hk')
    by_cases hxy : pat.getD k 0 = d.getD (at_.toNat + k) 0
    · rw [if_neg (by rw [u8_if, Classical.not_not]; exact hxy)]
      exact yes (by rw [hxy]; unfold eqN; split <;> simp)
    · rw [if_pos (by rw [u8_if]; exact hxy)]
      refine ldB_mk g1 ?_
      cases nc with
      | false =>
        rw [if_pos (by rfl)]
        rw [no (by rw [eqN_false, beq_iff_eq]; exact fun e => hxy e.symm)] at hk; exact hk
      | true =>
        rw [if_neg (by simp)]
        refine rsmall_c _ ⟨_, rfl, ?_⟩
        refine rsmall_c _ ⟨_, rfl, ?_⟩
        by_cases he : smallL (pat.getD k 0) = smallL (d.getD (at_.toNat + k) 0)
        · rw [if_neg (by rw [u8_if, Classical.not_not]; exact he)]
          have := yes (by rw [eqN_true, he]; simp)
          exact ⟨⟨rfl, this.1.2⟩, this.2⟩
        · rw [if_pos (by rw [u8_if]; exact he)]
          rw [no (by rw [eqN_true, beq_iff_eq]; exact fun e => he e.symm)] at hk; exact hk
  · rw [if_neg (by rw [bs_size, decide_eq_true_eq]; omega)]
    have : decide (AtP ⟨pat, nc, neg, rel, off, dep, fast⟩ d at_) = true := by
      rw [decide_eq_true_eq]
      exact ⟨by omega, by simp only; omega, fun i hi => hpre i (by simp only at hi; omega)⟩
    rw [this] at hk; exact hk
end Go.Proofs.Ytkmommchanjobaa
