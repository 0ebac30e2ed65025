/-
  Strings as lists of bytes; numbers that fit.
-/
import Derived.Test.YtjelnknmjhceiaaMemConv
import Derived.Laws.Strings
namespace Go.Proofs.Ytjelnknmjhceiaa
set_option linter.unusedSimpArgs false
set_option linter.unusedVariables false
set_option maxRecDepth 20000
open Go
def bs (l : List UInt8) : ByteArray := ⟨l.toArray⟩
theorem bs_surj (s : ByteArray) : ∃ l, s = bs l := ⟨s.data.toList, by simp [bs]⟩
theorem mk_bs (l : List UInt8) : ByteArray.mk (List.toArray l) = bs l := rfl
theorem bs_toList (l : List UInt8) : (bs l).toList = l := ByteArray.toList_mk l
theorem bs_data (l : List UInt8) : (bs l).data.toList = l := by simp [bs]
theorem bs_size (l : List UInt8) : (bs l).size = l.length := by simp [bs, ByteArray.size]
theorem bs_append (l m : List UInt8) : bs l ++ bs m = bs (l ++ m) := by
  ext1; simp [bs]
theorem bs_extract (l : List UInt8) (a b : Nat) : (bs l).extract a b = bs ((l.drop a).take (b - a)) := by
  ext1; simp [bs]
theorem bs_take (l : List UInt8) (b : Nat) : (bs l).extract 0 b = bs (l.take b) := by rw [bs_extract]; simp
theorem bs_drop (l : List UInt8) (a : Nat) : (bs l).extract a l.length = bs (l.drop a) := by
  rw [bs_extract, List.take_of_length_le (by simp)]
theorem bs_bAt (l : List UInt8) (n : Int) : bAt (bs l) n = ((l.getD n.toNat 0).toNat : Int) := by
  simp [bAt, bs]
theorem bs_inj {l m : List UInt8} : bs l = bs m ↔ l = m := by
  constructor
  · intro h; have := congrArg ByteArray.toList h; rwa [bs_toList, bs_toList] at this
  · rintro rfl; rfl
theorem bs_beq (l m : List UInt8) : (bs l == bs m) = (l == m) := by
  have e : (bs l == bs m) = (l.toArray == m.toArray) := rfl
  rw [e, Bool.eq_iff_iff, beq_iff_eq, beq_iff_eq]; simp
theorem wr {x : Int} (h1 : -9223372036854775808 ≤ x) (h2 : x ≤ 9223372036854775807) : IntKind.wrap .i64 x = x := by
  unfold IntKind.wrap IntKind.bits IntKind.signed
  simp only [Bool.true_and, decide_eq_true_eq, ge_iff_le]
  split <;> omega
theorem imax : IntKind.max .i64 = 9223372036854775807 := by rfl
theorem idxS_bs (l : List UInt8) (n : Int) (K : Int → Prop) (h0 : 0 ≤ n) (h1 : n < l.length) (hk : K ((l.getD n.toNat 0).toNat : Int)) : idxS (bs l) n K := by
  refine ⟨h0, by rw [bs_size]; exact h1, ?_⟩
  rw [bs_bAt]; exact hk
end Go.Proofs.Ytjelnknmjhceiaa
