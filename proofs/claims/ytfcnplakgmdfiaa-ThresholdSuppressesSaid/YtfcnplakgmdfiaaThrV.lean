/-
  Prefixes: what both sides compute.
-/
import Derived.Test.YtfcnplakgmdfiaaThrI
import Derived.Test.YtfcnplakgmdfiaaRow
import Derived.Test.YtfcnplakgmdfiaaLoop
namespace Go.Proofs.Ytfcnplakgmdfiaa
set_option linter.unusedSimpArgs false
set_option linter.unusedVariables false
set_option maxRecDepth 20000
open Go
open Go.IntKind (wrap)
def E (n : Int) : Nat := min 64 n.toNat
def M (n : Int) : Nat := 2 ^ E n - 1
theorem E_le (n : Int) : E n ≤ 64 := Nat.min_le_left ..
theorem pow_pos2 (k : Nat) : 0 < 2 ^ k := Nat.pow_pos (by decide)
theorem pow_le64 {k : Nat} (h : k ≤ 64) : 2 ^ k ≤ 18446744073709551616 := Nat.pow_le_pow_right (n := 2) (by decide) h
theorem M_lt (n : Int) : M n < 18446744073709551616 := by have := pow_le64 (E_le n); have := pow_pos2 (E n); unfold M; omega
theorem M_add (n : Int) : M n + 1 = 2 ^ E n := by have := pow_pos2 (E n); unfold M; omega
theorem low_val (k : Nat) (h : k < 64) : wrap .u64 ((wrap .u64 (1 * 2 ^ (min (Int.toNat (k : Int)) (IntKind.bits .u64)))) - 1) = ((M k : Nat) : Int) := by
  have e1 : min (Int.toNat (k : Int)) (IntKind.bits .u64) = k := by have : IntKind.bits .u64 = 64 := rfl; omega
  have e2 : (1 * 2 ^ k : Int) = ((2 ^ k : Nat) : Int) := by rw [Int.one_mul]; exact (Int.natCast_pow 2 k).symm
  have h1 : 2 ^ k ≤ 9223372036854775808 := Nat.pow_le_pow_right (n := 2) (by decide) (show k ≤ 63 by omega)
  have h2 := pow_pos2 k
  rw [e1, e2, wru64 (x := ((2 ^ k : Nat) : Int)) (by omega) (by omega), wru64 (by omega) (by omega)]
  unfold M E
  rw [show min 64 (Int.toNat (k : Int)) = k by omega]; omega
theorem M_big {n : Int} (h : 64 ≤ n) : M n = 18446744073709551615 := by unfold M E; rw [show min 64 n.toNat = 64 by omega]
theorem M_neg {n : Int} (h : n ≤ 0) : M n = 0 := by unfold M E; rw [show min 64 n.toNat = 0 by omega]
theorem low_c [Gh] (n : Int) {h : Heap} {Q : Value → Heap → Prop} (hk : Q (.int .u64 (M n)) h) : CallT Try.prog fn_address_low #[.int .i64 n] h Q := by
  apply address_low_s
  unfold address_low_v
  refine ifD (fun e => ?_) fun e => ifD (fun e2 => ?_) fun e2 => ⟨by omega, ?_⟩
  · rw [M_big e] at hk; exact hk
  · rw [M_neg e2] at hk; exact hk
  · obtain ⟨k, rfl⟩ : ∃ k : Nat, n = k := ⟨n.toNat, by omega⟩
    rw [low_val k (by omega)]; exact hk
theorem rlow_c [Gh] (n : Int) (h0 : 0 ≤ n) (hn : n ≤ 200) {h : Heap} {Q : Value → Heap → Prop} (hk : Q (.int .u64 (M n)) h) : CallT Try.prog fn_ref07_low #[.int .i64 n] h Q := by
  apply ref07_low_s
  unfold ref07_low_v
  refine ifD (fun e => ?_) fun e => ?_
  · rw [M_big e] at hk; exact hk
  · obtain ⟨k, rfl⟩ : ∃ k : Nat, n = k := ⟨n.toNat, by omega⟩
    rw [wru64 (by omega) (by omega)]
    refine ⟨by omega, ?_⟩
    rw [low_val k (by omega)]; exact hk
def sz (v6 : Bool) : Int := if v6 = true then 128 else 32
theorem sz_rng (v6 : Bool) : sz v6 = 128 ∨ sz v6 = 32 := by
  unfold sz; split
  · exact .inl rfl
  · exact .inr rfl
theorem size_c [Gh] (v6 : Bool) (x y : Int) {h : Heap} {Q : Value → Heap → Prop} (hk : ∀ h', Fr (fun _ => False) h h' → Q (.int .i64 (sz v6)) h') : CallT Try.prog fn_address_size #[.agg #[.bool v6, .int .u64 x, .int .u64 y]] h Q := by
  apply address_size_s
  unfold address_size_v
  refine al_mk (vs := [.bool v6, .int .u64 x, .int .u64 y]) fun t h1 f1 e1 o => ?_
  have hk := hk h1 f1
  refine ldB_mk (o.cells.at0 rfl) (ifB (fun e => ?_) fun e => ?_)
  · rw [e] at hk; exact hk
  · rw [e] at hk; exact hk
theorem rSize_c [Gh] (v6 : Bool) (x y : Int) {h : Heap} {Q : Value → Heap → Prop} (hk : ∀ h', Fr (fun _ => False) h h' → Q (.int .i64 (sz v6)) h') : CallT Try.prog fn_ref07_Size #[.agg #[.bool v6, .int .u64 x, .int .u64 y]] h Q := by
  apply ref07_Size_s
  unfold ref07_Size_v
  refine al_mk (vs := [.bool v6, .int .u64 x, .int .u64 y]) fun t h1 f1 e1 o => ?_
  have hk := hk h1 f1
  refine ldB_mk (o.cells.at0 rfl) (ifB (fun e => ?_) fun e => ?_)
  · rw [e] at hk; exact hk
  · rw [e] at hk; exact hk
theorem mask_c [Gh] (v6 : Bool) (x y b : Int) (h0 : 0 ≤ b ∧ b ≤ 128) {h : Heap} {Q : Value → Heap → Prop} (hk : ∀ h', Fr (fun _ => False) h h' → Q (.tuple #[.int .u64 (M (sz v6 - b - 64)), .int .u64 (M (sz v6 - b))]) h') :
    CallT Try.prog fn_address_mask #[.agg #[.bool v6, .int .u64 x, .int .u64 y], .int .i64 b] h Q := by
  apply address_mask_s
  unfold address_mask_v
  refine al_mk (vs := [.bool v6, .int .u64 x, .int .u64 y]) fun t h1 f1 e1 o => ?_
  have c := o.cells
  have hs := sz_rng v6
  refine (ldB_mk (c.at0 rfl) (ldI_mk (c.at rfl) (ldI_mk (c.at rfl) ?_)))
  refine size_c v6 x y fun h2 f2 => ⟨_, rfl, ?_⟩
  rw [wr (x := sz v6 - b) (by omega) (by omega), wr (by omega) (by omega)]
  exact low_c _ ⟨_, rfl, low_c _ ⟨_, rfl, hk h2 (f1.trans f2)⟩⟩
theorem rMask_c [Gh] (k : Int) (h0 : 0 ≤ k ∧ k ≤ 128) {h : Heap} {Q : Value → Heap → Prop} (hk : Q (.tuple #[.int .u64 (M (k - 64)), .int .u64 (M k)]) h) :
    CallT Try.prog fn_ref07_Mask #[.int .i64 k] h Q := by
  apply ref07_Mask_s
  unfold ref07_Mask_v
  refine ifD (fun e => ?_) fun e => ?_
  · rw [M_neg (n := k - 64) (by omega)] at hk
    exact rlow_c _ (by omega) (by omega) ⟨_, rfl, hk⟩
  · rw [wr (by omega) (by omega)]
    refine rlow_c _ (by omega) (by omega) ⟨_, rfl, rlow_c _ (by omega) (by omega) ⟨_, rfl, ?_⟩⟩
    rw [M_big (n := k) (by omega)] at hk
    rw [M_big (n := 64) (by omega)]; exact hk
/-! ### Words -/
theorem bv (x : Nat) (h : x < 18446744073709551616) : (BitVec.ofInt (IntKind.bits .u64) (x : Int)).toNat = x := by
  have e : IntKind.bits .u64 = 64 := rfl
  rw [e, BitVec.ofInt_natCast, BitVec.toNat_ofNat]; exact Nat.mod_eq_of_lt h
theorem andW (x : Nat) (h : x < 18446744073709551616) (n : Int) : wrap .u64 (BitVec.toNat (BitVec.ofInt (IntKind.bits .u64) (x : Int) &&& BitVec.ofInt (IntKind.bits .u64) ((M n : Nat) : Int)) : Int) = ((x % 2 ^ E n : Nat) : Int) := by
  rw [BitVec.toNat_and, bv x h, bv _ (M_lt n)]
  have e : x &&& M n = x % 2 ^ E n := by unfold M; exact Nat.and_two_pow_sub_one_eq_mod x (E n)
  have := Nat.mod_le x (2 ^ E n)
  rw [e]
  exact wru64 (by omega) (by omega)
theorem notW (x : Nat) (h : x < 18446744073709551616) (n : Int) : wrap .u64 (BitVec.toNat (BitVec.ofInt (IntKind.bits .u64) (x : Int) &&& ~~~BitVec.ofInt (IntKind.bits .u64) ((M n : Nat) : Int)) : Int) = ((2 ^ E n * (x / 2 ^ E n) : Nat) : Int) := by
  have e64 : IntKind.bits .u64 = 64 := rfl
  rw [BitVec.toNat_and, BitVec.toNat_not, bv x h, bv _ (M_lt n), e64]
  have hE := E_le n
  have hp := pow_pos2 (E n)
  have e : x &&& (2 ^ 64 - 1 - M n) = 2 ^ E n * (x / 2 ^ E n) := by
    apply Nat.eq_of_testBit_eq
    intro i
    rw [Nat.testBit_and, show 2 ^ 64 - 1 - M n = 2 ^ 64 - (M n + 1) by omega, Nat.testBit_two_pow_sub_succ (M_lt n), Nat.testBit_two_pow_mul, Nat.testBit_div_two_pow]
    unfold M
    rw [Nat.testBit_two_pow_sub_one]
    by_cases hi : i < E n
    · simp [hi, Nat.not_le.2 hi]
    · have hi' : E n ≤ i := by omega
      have e3 : i - E n + E n = i := by omega
      by_cases h64 : i < 64
      · simp [hi, hi', h64, e3]
      · have : x.testBit i = false := Nat.testBit_lt_two_pow (Nat.lt_of_lt_of_le h (Nat.pow_le_pow_right (n := 2) (by decide) (show 64 ≤ i by omega)))
        simp [hi, hi', h64, e3, this]
  have hle : 2 ^ E n * (x / 2 ^ E n) ≤ x := Nat.mul_div_le x _
  rw [e]
  exact wru64 (by omega) (by omega)
theorem orW (x : Nat) (h : x < 18446744073709551616) (n : Int) (hm : x % 2 ^ E n = 0) : wrap .u64 (BitVec.toNat (BitVec.ofInt (IntKind.bits .u64) (x : Int) ||| BitVec.ofInt (IntKind.bits .u64) ((M n : Nat) : Int)) : Int) = ((x + M n : Nat) : Int) ∧ x + M n < 18446744073709551616 := by
  rw [BitVec.toNat_or, bv x h, bv _ (M_lt n)]
  have hMl : M n < 2 ^ E n := by have := M_add n; omega
  obtain ⟨q, rfl⟩ := Nat.dvd_of_mod_eq_zero hm
  have e : 2 ^ E n * q ||| M n = 2 ^ E n * q + M n := (Nat.two_pow_add_eq_or_of_lt hMl q).symm
  have hE := E_le n
  have hb : 2 ^ E n * q + M n < 18446744073709551616 := by
    have e2 : 2 ^ E n * 2 ^ (64 - E n) = 18446744073709551616 := by rw [← Nat.pow_add, show E n + (64 - E n) = 64 by omega]
    have hq : q < 2 ^ (64 - E n) := by
      rcases Nat.lt_or_ge q (2 ^ (64 - E n)) with hq | hq
      · exact hq
      · have := Nat.mul_le_mul_left (2 ^ E n) hq; omega
    have : 2 ^ E n * (q + 1) ≤ 2 ^ E n * 2 ^ (64 - E n) := Nat.mul_le_mul_left _ hq
    rw [Nat.mul_succ] at this; omega
  rw [e]
  exact ⟨wru64 (by omega) (by omega), hb⟩
theorem mul_div_eq (a b k : Nat) : (2 ^ k * (a / 2 ^ k) = 2 ^ k * (b / 2 ^ k)) ↔ a / 2 ^ k = b / 2 ^ k :=
  ⟨fun h => Nat.eq_of_mul_eq_mul_left (pow_pos2 k) h, fun h => by rw [h]⟩
/-- A range of a power's length. -/
theorem within (a p : Nat) (n : Int) (hm : p % 2 ^ E n = 0) : a / 2 ^ E n = p / 2 ^ E n ↔ p ≤ a ∧ a ≤ p + M n := by
  have hp := pow_pos2 (E n)
  have hM := M_add n
  obtain ⟨q, rfl⟩ := Nat.dvd_of_mod_eq_zero hm
  rw [Nat.mul_div_cancel_left _ hp]
  constructor
  · intro h
    have h1 := Nat.div_add_mod a (2 ^ E n)
    have h2 := Nat.mod_lt a hp
    rw [h] at h1; omega
  · rintro ⟨h1, h2⟩
    have : a = a - 2 ^ E n * q + 2 ^ E n * q := by omega
    rw [this, Nat.add_mul_div_left _ _ hp, Nat.div_eq_of_lt (by omega), Nat.zero_add]
end Go.Proofs.Ytfcnplakgmdfiaa
