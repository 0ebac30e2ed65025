/-
  Byte tests.
-/
import Derived.Test.YtkmommchanjobaaContB
namespace Go.Proofs.Ytkmommchanjobaa
set_option linter.unusedSimpArgs false
set_option linter.unusedVariables false
open Go
/-- A byte test. -/
structure Ts where
  op : Int
  size : Int
  val : Int
  off : Int
  rel : Bool
  little : Bool
  neg : Bool
def tsV (t : Ts) : List Value := [.int .i64 t.op, .int .i64 t.size, .int .i64 t.val, .int .i64 t.off, .bool t.rel, .bool t.little, .bool t.neg]
def atT (t : Ts) (cur : Int) : Int := if t.rel then t.off + cur else t.off
def numL (d : List UInt8) (a n : Nat) (little : Bool) : Nat → Nat
  | 0 => 0
  | i + 1 => numL d a n little i * 256 + (d.getD (a + (if little then n - 1 - i else i)) 0).toNat
theorem numL_lt (d : List UInt8) (a n : Nat) (little : Bool) : ∀ i, numL d a n little i < 256 ^ i
  | 0 => by simp [numL]
  | i + 1 => by
    have := numL_lt d a n little i
    have h2 := (d.getD (a + (if little then n - 1 - i else i)) 0).toNat_lt
    rw [numL, Nat.pow_succ]; omega
def bitsL (n v : Int) : Bool := (IntKind.wrap .i64 (BitVec.toNat (BitVec.ofInt (IntKind.bits .i64) n &&& BitVec.ofInt (IntKind.bits .i64) v) : Int)) != (0 : Int)
def opL (t : Ts) (n : Int) : Bool :=
  if t.op = 1 then !(decide (n < t.val) == t.neg)
  else if t.op = 2 then !((n == t.val) == t.neg)
  else if t.op = 3 then !(decide (n > t.val) == t.neg)
  else if t.op = 4 then !(bitsL n t.val == t.neg)
  else false
def FitT (t : Ts) (d : List UInt8) (cur : Int) : Prop := (t.size = 1 ∨ t.size = 2 ∨ t.size = 4) ∧ 0 ≤ atT t cur ∧ atT t cur + t.size ≤ d.length
instance (t : Ts) (d : List UInt8) (cur : Int) : Decidable (FitT t d cur) := by unfold FitT; exact inferInstance
def testL (t : Ts) (d : List UInt8) (cur : Int) : Bool := if FitT t d cur then opL t (numL d (atT t cur).toNat t.size.toNat t.little t.size.toNat : Nat) else false
theorem shl_or (n b : Nat) (hn : n < 2 ^ 24) (hb : b < 256) :
    IntKind.wrap .i64 (BitVec.toNat (BitVec.ofInt (IntKind.bits .i64) (IntKind.wrap .i64 ((n : Int) * 2 ^ (min (Int.toNat (8 : Int)) (IntKind.bits .i64)))) ||| BitVec.ofInt (IntKind.bits .i64) (IntKind.wrap .i64 (b : Int))) : Int) = ((n * 256 + b : Nat) : Int) := by
  have e1 : (2 : Int) ^ (min (Int.toNat (8 : Int)) (IntKind.bits .i64)) = 256 := rfl
  have e2 : (n : Int) * 256 = ((n * 256 : Nat) : Int) := by omega
  rw [e1, e2, wr (x := ((n * 256 : Nat) : Int)) (by omega) (by omega), wr (x := ((b : Nat) : Int)) (by omega) (by omega), BitVec.ofInt_natCast, BitVec.ofInt_natCast, BitVec.toNat_or, BitVec.toNat_ofNat, BitVec.toNat_ofNat]
  have e3 : n * 256 % 2 ^ (IntKind.bits .i64) = n * 256 := Nat.mod_eq_of_lt (by show _ < 2 ^ 64; omega)
  have e4 : b % 2 ^ (IntKind.bits .i64) = b := Nat.mod_eq_of_lt (by show _ < 2 ^ 64; omega)
  have e5 : (n * 256) ||| b = n * 256 + b := by
    have := Nat.two_pow_add_eq_or_of_lt (i := 8) (b := b) hb n
    rw [show 2 ^ 8 * n = n * 256 by omega] at this
    exact this.symm
  rw [e3, e4, e5, wr (by omega) (by omega)]
/-- Numbers of a test that nothing overflows with. -/
def OkT (t : Ts) : Prop := -1073741824 ≤ t.off ∧ t.off ≤ 1073741824
theorem fit_false {t : Ts} {d : List UInt8} {cur : Int} (h : ¬ FitT t d cur) : testL t d cur = false := if_neg h
theorem Test_c [Gh] (t : Ts) (d : List UInt8) (cur : Int) (ht : OkT t) (hcur : 0 ≤ cur ∧ cur ≤ 2147483648) (hd : d.length < 2 ^ 31) {h : Heap} {Q : Value → Heap → Prop}
    (hk : ∀ h', Fr (fun _ => False) h h' → Q (.bool (testL t d cur)) h') :
    CallT Try.prog fn_content_Test #[.agg (tsV t).toArray, .string (bs d), .int .i64 cur] h Q := by
  have eat : atT t cur = if t.rel then t.off + cur else t.off := rfl
  have hat : -1073741824 ≤ atT t cur ∧ atT t cur ≤ 3221225472 := by
    obtain ⟨h1, h2⟩ := ht
    rw [eat]; split <;> omega
  have ef : ∀ {p : Prop}, (p ↔ FitT t d cur) → ¬ p → testL t d cur = false := fun h hn => fit_false (fun hf => hn (h.2 hf))
  have efit : FitT t d cur ↔ ((t.size = 1 ∨ t.size = 2 ∨ t.size = 4) ∧ 0 ≤ atT t cur ∧ atT t cur + t.size ≤ d.length) := Iff.rfl
  have etrue : FitT t d cur → testL t d cur = opL t (numL d (atT t cur).toNat t.size.toNat t.little t.size.toNat : Nat) := fun h => if_pos h
  generalize testL t d cur = res at *
  generalize atT t cur = at_ at *
  obtain ⟨op, size, val, off, rel, little, neg⟩ := t
  unfold OkT at ht
  simp only at ht eat efit etrue
  have hk := hk _ (Fr.push _ h (.cells #[Value.int .i64 op, Value.int .i64 size, Value.int .i64 val, Value.int .i64 off, Value.bool rel, Value.bool little, Value.bool neg] 34 (0, 0)))
  refine content_Test_s op size val off rel little neg (bs d) cur ?_
  simp only [content_Test_v, content_Test_b1, content_Test_b2, content_Test_b3, content_Test_b4]
  simp only [alV]
  have g0 : hcell (h.push (.cells #[Value.int .i64 op, Value.int .i64 size, Value.int .i64 val, Value.int .i64 off, Value.bool rel, Value.bool little, Value.bool neg] 34 (0, 0))) ⟨h.size, 0, none⟩ = some (.int .i64 op) := by rw [hcell_blk get_push_self]; rfl
  have g1 : hcell (h.push (.cells #[Value.int .i64 op, Value.int .i64 size, Value.int .i64 val, Value.int .i64 off, Value.bool rel, Value.bool little, Value.bool neg] 34 (0, 0))) (Addr.add ⟨h.size, 0, none⟩ 1) = some (.int .i64 size) := by rw [add_mk, hcell_blk get_push_self]; rfl
  have g2 : hcell (h.push (.cells #[Value.int .i64 op, Value.int .i64 size, Value.int .i64 val, Value.int .i64 off, Value.bool rel, Value.bool little, Value.bool neg] 34 (0, 0))) (Addr.add ⟨h.size, 0, none⟩ 2) = some (.int .i64 val) := by rw [add_mk, hcell_blk get_push_self]; rfl
  have g3 : hcell (h.push (.cells #[Value.int .i64 op, Value.int .i64 size, Value.int .i64 val, Value.int .i64 off, Value.bool rel, Value.bool little, Value.bool neg] 34 (0, 0))) (Addr.add ⟨h.size, 0, none⟩ 3) = some (.int .i64 off) := by rw [add_mk, hcell_blk get_push_self]; rfl
  have g4 : hcell (h.push (.cells #[Value.int .i64 op, Value.int .i64 size, Value.int .i64 val, Value.int .i64 off, Value.bool rel, Value.bool little, Value.bool neg] 34 (0, 0))) (Addr.add ⟨h.size, 0, none⟩ 4) = some (.bool rel) := by rw [add_mk, hcell_blk get_push_self]; rfl
  have g5 : hcell (h.push (.cells #[Value.int .i64 op, Value.int .i64 size, Value.int .i64 val, Value.int .i64 off, Value.bool rel, Value.bool little, Value.bool neg] 34 (0, 0))) (Addr.add ⟨h.size, 0, none⟩ 5) = some (.bool little) := by rw [add_mk, hcell_blk get_push_self]; rfl
  have g6 : hcell (h.push (.cells #[Value.int .i64 op, Value.int .i64 size, Value.int .i64 val, Value.int .i64 off, Value.bool rel, Value.bool little, Value.bool neg] 34 (0, 0))) (Addr.add ⟨h.size, 0, none⟩ 6) = some (.bool neg) := by rw [add_mk, hcell_blk get_push_self]; rfl
  generalize h.push (.cells #[Value.int .i64 op, Value.int .i64 size, Value.int .i64 val, Value.int .i64 off, Value.bool rel, Value.bool little, Value.bool neg] 34 (0, 0)) = hq at *
  generalize Addr.mk h.size 0 none = b at *
  have bad : ¬ ((size = 1 ∨ size = 2 ∨ size = 4) ∧ 0 ≤ at_ ∧ at_ + size ≤ d.length) → Q (.bool false) hq := fun hn => by
    rw [ef efit.symm hn] at hk; exact hk
  have body : (size = 1 ∨ size = 2 ∨ size = 4) → 0 ≤ at_ → at_ + size ≤ d.length → content_Test_b8 (bs d) b at_ Q hq := by
    intro hs h0 h1
    rw [etrue (efit.2 ⟨hs, h0, h1⟩)] at hk
    obtain ⟨n, rfl⟩ : ∃ n : Nat, size = n := ⟨size.toNat, by omega⟩
    obtain ⟨a, rfl⟩ : ∃ a : Nat, at_ = a := ⟨at_.toNat, by omega⟩
    simp only [content_Test_b8, content_Test_b9]
    refine ldI_mk g1 ?_
    rw [Int.toNat_natCast, Int.toNat_natCast] at hk
    refine LoopV.mk (fun s h' => h' = hq ∧ ∃ k : Nat, s.2 = k ∧ k ≤ n ∧ s.1 = (numL d a n little k : Nat)) (fun s _ => n - s.2.toNat) ⟨rfl, 0, rfl, by omega, rfl⟩ ?_
    rintro ⟨m, s⟩ h' ⟨rfl, k, hs2, hkn, hm⟩
    simp only at hs2 hm
    subst hs2 hm
    simp only [content_Test_l10, content_Test_b11, content_Test_b12, content_Test_b13, content_Test_b14, content_Test_b15, content_Test_b16, content_Test_b17, content_Test_b18]
    by_cases hk' : k < n
    · rw [if_pos (by rw [decide_eq_true_eq]; omega)]
      refine ldB_mk g5 ?_
      have hb := numL_lt d a n little k
      have hb2 : numL d a n little k < 2 ^ 24 := by
        have : 256 ^ k ≤ 256 ^ 3 := Nat.pow_le_pow_right (by omega) (by omega)
        omega
      have step : ∀ j : Nat, j = (if little then n - 1 - k else k) → idxS (bs d) (IntKind.wrap .i64 ((a : Int) + (j : Int))) fun t70 => ((True ∧ ∃ k2 : Nat, IntKind.wrap .i64 ((k : Int) + 1) = k2 ∧ k2 ≤ n ∧ IntKind.wrap .i64 (BitVec.toNat (BitVec.ofInt (IntKind.bits .i64) (IntKind.wrap .i64 ((numL d a n little k : Int) * 2 ^ (min (Int.toNat (8 : Int)) (IntKind.bits .i64)))) ||| BitVec.ofInt (IntKind.bits .i64) (IntKind.wrap .i64 t70)) : Int) = (numL d a n little k2 : Nat)) ∧ n - (IntKind.wrap .i64 ((k : Int) + 1)).toNat < n - (k : Int).toNat) := by
        intro j hj
        have hjn : j < n := by rw [hj]; split <;> omega
        rw [wr (by omega) (by omega)]
        refine idxS_bs _ _ _ (by omega) (by omega) ?_
        have e : ((a : Int) + (j : Int)).toNat = a + j := by omega
        rw [e, shl_or _ _ hb2 (UInt8.toNat_lt _), wr (by omega) (by omega)]
        refine ⟨⟨trivial, k + 1, by omega, by omega, ?_⟩, by omega⟩
        rw [numL, hj]
      cases little with
      | true =>
        rw [if_pos rfl]
        refine ldI_mk g1 ⟨by omega, ?_⟩
        have := step (n - 1 - k) (by simp)
        rw [wr (x := (n : Int) - 1) (by omega) (by omega), wr (x := (n : Int) - 1 - k) (by omega) (by omega)]
        rw [show ((n - 1 - k : Nat) : Int) = (n : Int) - 1 - k by omega] at this
        exact this
      | false =>
        rw [if_neg (by simp)]
        exact ⟨by omega, step k (by simp)⟩
    · rw [if_neg (by rw [decide_eq_true_eq]; omega)]
      have e : k = n := by omega
      subst e
      simp only [content_Test_b19, content_Test_b20, content_Test_b21, content_Test_b22, content_Test_b23, content_Test_b24, content_Test_b25, content_Test_b26, content_Test_b27, content_Test_b28, content_Test_b29, content_Test_b30]
      refine ldI_mk g0 ?_
      unfold opL at hk
      simp only at hk
      by_cases o1 : op = 1
      · rw [if_pos (by simpa using o1)]
        rw [if_pos o1] at hk
        exact ldI_mk g2 (ldB_mk g6 hk)
      rw [if_neg (by simpa using o1)]; rw [if_neg o1] at hk
      by_cases o2 : op = 2
      · rw [if_pos (by simpa using o2)]
        rw [if_pos o2] at hk
        exact ldI_mk g2 (ldB_mk g6 hk)
      rw [if_neg (by simpa using o2)]; rw [if_neg o2] at hk
      by_cases o3 : op = 3
      · rw [if_pos (by simpa using o3)]
        rw [if_pos o3] at hk
        exact ldI_mk g2 (ldB_mk g6 hk)
      rw [if_neg (by simpa using o3)]; rw [if_neg o3] at hk
      by_cases o4 : op = 4
      · rw [if_pos (by simpa using o4)]
        rw [if_pos o4] at hk
        exact ldI_mk g2 (ldB_mk g6 hk)
      rw [if_neg (by simpa using o4)]; rw [if_neg o4] at hk
      exact hk
  have R : (size = 1 ∨ size = 2 ∨ size = 4) → (if (decide (at_ < (0 : Int))) = true then (content_Test_b7 Q hq) else (if (decide (at_ > (((bs d).size : Nat) : Int))) = true then (content_Test_b7 Q hq) else (ldI hq (Addr.add b 1) .i64 fun t48 => if (decide ((IntKind.wrap .i64 ((((bs d).size : Nat) : Int) - at_)) < t48)) = true then (content_Test_b7 Q hq) else (content_Test_b8 (bs d) b at_ Q hq)))) := by
    intro hs
    simp only [content_Test_b7]
    by_cases h0 : at_ < 0
    · rw [if_pos (by rw [decide_eq_true_eq]; exact h0)]; exact bad (by omega)
    rw [if_neg (by rw [decide_eq_true_eq]; exact h0)]
    by_cases h1 : at_ > d.length
    · rw [if_pos (by rw [bs_size, decide_eq_true_eq]; exact h1)]; exact bad (by omega)
    rw [if_neg (by rw [bs_size, decide_eq_true_eq]; exact h1)]
    refine ldI_mk g1 ?_
    rw [bs_size, wr (by omega) (by omega)]
    by_cases h2 : (d.length : Int) - at_ < size
    · rw [if_pos (by rw [decide_eq_true_eq]; exact h2)]; exact bad (by omega)
    rw [if_neg (by rw [decide_eq_true_eq]; exact h2)]
    exact body hs (by omega) (by omega)
  have mid : content_Test_b6 (bs d) b at_ Q hq := by
    simp only [content_Test_b6]
    refine ldI_mk g1 ?_
    by_cases s1 : size = 1
    · rw [if_neg (by simpa using s1)]; exact R (.inl s1)
    rw [if_pos (by simpa using s1)]
    refine ldI_mk g1 ?_
    by_cases s2 : size = 2
    · rw [if_neg (by simpa using s2)]; exact R (.inr (.inl s2))
    rw [if_pos (by simpa using s2)]
    refine ldI_mk g1 ?_
    by_cases s4 : size = 4
    · rw [if_neg (by simpa using s4)]; exact R (.inr (.inr s4))
    rw [if_pos (by simpa using s4)]
    exact bad (by omega)
  refine ldI_mk g3 (ldB_mk g4 ?_)
  simp only [content_Test_b5]
  cases rel with
  | true =>
    rw [if_pos rfl, wr (by omega) (by omega)]
    rw [if_pos rfl] at eat; rw [← eat]; exact mid
  | false =>
    rw [if_neg (by simp)]
    rw [if_neg (by simp)] at eat; rw [← eat]; exact mid
end Go.Proofs.Ytkmommchanjobaa
