/-
  Hexadecimal digits: the library's FormatInt and the reference's hex.
-/
import Derived.Test.YtjhcockaojlfiaaDoorChunkD
namespace Go.Proofs.YtjhcockaojlfiaaDoor
set_option linter.unusedSimpArgs false
set_option linter.unusedVariables false
set_option maxRecDepth 20000
open Go
open Go.IntKind (wrap)
def dig (k : Nat) : UInt8 := [48, 49, 50, 51, 52, 53, 54, 55, 56, 57, 97, 98, 99, 100, 101, 102].getD k 0
def hexL (n : Nat) : List UInt8 := if n < 16 then [dig n] else hexL (n / 16) ++ [dig (n % 16)]
termination_by n
theorem hexL_lt {n : Nat} (h : n < 16) : hexL n = [dig n] := by rw [hexL, if_pos h]
theorem hexL_ge {n : Nat} (h : ¬ n < 16) : hexL n = hexL (n / 16) ++ [dig (n % 16)] := by rw [hexL, if_neg h]
def TZ (h : Heap) : Prop := hcell h ⟨2, 15, none⟩ = some (.int .u8 4)
theorem TZ.fr {S : Nat → Prop} {h h' : Heap} (t : TZ h) (f : Fr S h h') (hn : ¬ S 2) : TZ h' := f.hcell t hn
theorem TZ.lt {h : Heap} (t : TZ h) : 2 < h.size := hcell_lt t
theorem tz64_c [Gh] {h : Heap} (t : TZ h) {Q : Value → Heap → Prop} (hk : Q (.int .i64 4) h) : CallT Tryd.prog fn_math_bits_TrailingZeros64 #[.int .u64 16] h Q := by
  apply math_bits_TrailingZeros64_s
  unfold math_bits_TrailingZeros64_v
  rw [if_neg (by decide)]
  have e : (Int.fdiv (wrap .u64 ((wrap .u64 (BitVec.toNat (BitVec.ofInt (IntKind.bits .u64) 16 &&& BitVec.ofInt (IntKind.bits .u64) (wrap .u64 (0 - 16))) : Int)) * 285870213051353865)) (2 ^ (min (Int.toNat 58) (IntKind.bits .u64)))) = 15 := by decide +kernel
  rw [e]
  exact ⟨by decide, idxA_mk 15 rfl (by decide) (ldI_mk t hk)⟩
theorem tz_c [Gh] {h : Heap} (t : TZ h) {Q : Value → Heap → Prop} (hk : Q (.int .i64 4) h) : CallT Tryd.prog fn_math_bits_TrailingZeros #[.int .u64 16] h Q := by
  apply math_bits_TrailingZeros_s
  unfold math_bits_TrailingZeros_v
  exact tz64_c t ⟨_, rfl, hk⟩
theorem pow2_c [Gh] {h : Heap} {Q : Value → Heap → Prop} (hk : Q (.bool true) h) : CallT Tryd.prog fn_internal_strconv_isPowerOfTwo #[.int .i64 16] h Q := by
  apply internal_strconv_isPowerOfTwo_s
  unfold internal_strconv_isPowerOfTwo_v
  have e : ((wrap .i64 (BitVec.toNat (BitVec.ofInt (IntKind.bits .i64) 16 &&& BitVec.ofInt (IntKind.bits .i64) (wrap .i64 (16 - 1))) : Int)) == 0) = true := by decide +kernel
  rw [e]; exact hk
theorem wru {x : Int} (h1 : 0 ≤ x) (h2 : x ≤ 18446744073709551615) : wrap .u64 x = x := by
  unfold IntKind.wrap IntKind.bits IntKind.signed
  simp only [Bool.false_and, ge_iff_le]
  rw [if_neg (by simp)]
  omega
theorem and15 (u : Nat) (hu : u ≤ 2 ^ 40) : wrap .u64 (BitVec.toNat (BitVec.ofInt (IntKind.bits .u64) u &&& BitVec.ofInt (IntKind.bits .u64) 15) : Int) = ((u % 16 : Nat) : Int) := by
  have e : IntKind.bits .u64 = 64 := rfl
  have e2 : (15 : Int) = ((15 : Nat) : Int) := rfl
  rw [e, e2, BitVec.ofInt_natCast, BitVec.ofInt_natCast, BitVec.toNat_and, BitVec.toNat_ofNat, BitVec.toNat_ofNat, Nat.mod_eq_of_lt (a := u) (by omega), Nat.mod_eq_of_lt (a := 15) (by omega)]
  rw [show (15 : Nat) = 2 ^ 4 - 1 by rfl, Nat.and_two_pow_sub_one_eq_mod, wru (by omega) (by omega)]
theorem shr4 (u : Nat) : Int.fdiv u (2 ^ (min (Int.toNat 4) (IntKind.bits .u64))) = ((u / 16 : Nat) : Int) := by
  rw [show (2 : Int) ^ (min (Int.toNat 4) (IntKind.bits .u64)) = ((16 : Nat) : Int) by decide, Int.fdiv_eq_ediv_of_nonneg _ (by omega)]; omega
def digs36 : List UInt8 := [48, 49, 50, 51, 52, 53, 54, 55, 56, 57, 97, 98, 99, 100, 101, 102, 103, 104, 105, 106, 107, 108, 109, 110, 111, 112, 113, 114, 115, 116, 117, 118, 119, 120, 121, 122]
theorem digs36_dig : ∀ k : Fin 16, digs36.getD k.val 0 = dig k.val := by decide
theorem idx36 {k : Nat} (hk : k < 16) {n : Int} (hn : n = k) {K : Int → Prop} (h : K ((dig k).toNat : Int)) : idxS (⟨#[48, 49, 50, 51, 52, 53, 54, 55, 56, 57, 97, 98, 99, 100, 101, 102, 103, 104, 105, 106, 107, 108, 109, 110, 111, 112, 113, 114, 115, 116, 117, 118, 119, 120, 121, 122]⟩ : ByteArray) n K := by
  subst hn
  refine idxS_bs digs36 _ _ (by omega) (by show (k : Int) < ((36 : Nat) : Int); omega) ?_
  rw [Int.toNat_natCast, digs36_dig ⟨k, hk⟩]; exact h
theorem setdrop {α : Type} (l : List α) (k : Nat) (v : α) (h : k < l.length) : (l.set k v).drop k = v :: l.drop (k + 1) := by
  rw [List.drop_eq_getElem_cons (by simpa using h), List.drop_set_of_lt (by omega)]
  simp
theorem formatBits_c [Gh] (n : Nat) (hn : n < 2 ^ 24) {h : Heap} (t : TZ h) {Q : Value → Heap → Prop} (hk : ∀ h', Fr (fun _ => False) h h' → Q (.tuple #[.slice none 0 0, .string (bs (hexL n))]) h') :
    CallT Tryd.prog fn_internal_strconv_formatBits #[.slice none 0 0, .int .u64 n, .int .i64 16, .bool false, .bool false] h Q := by
  apply internal_strconv_formatBits_s
  unfold internal_strconv_formatBits_v
  rw [if_neg (by decide), if_neg (by decide), if_neg (by decide)]
  unfold internal_strconv_formatBits_b1
  refine al_mk (vs := List.replicate 65 (.int .u8 0)) fun a h1 f1 e1 o1 => ?_
  rw [if_neg (by decide)]
  unfold internal_strconv_formatBits_b2
  refine pow2_c ⟨_, rfl, ?_⟩
  rw [if_pos rfl]
  have ew : wrap .u64 (16 : Int) = 16 := by decide
  have ew4 : wrap .u64 (4 : Int) = 4 := by decide
  have ew15 : wrap .u64 ((16 : Int) - 1) = 15 := by decide
  rw [ew]
  have t1 := t.fr f1 id
  refine tz_c t1 ⟨_, rfl, ?_⟩
  rw [ew4, ew15]
  have tl := t.lt
  refine LoopV.mk (fun s h' => ∃ (u k : Nat) (done : List UInt8) (vs : List Value), s = ((u : Int), (k : Int)) ∧ u < 16 ^ (k - 59) ∧ 59 < k ∧ k ≤ 65 ∧ Fr (fun b => b = a.block) h1 h' ∧ Own h' a vs T_65_uint8 ∧ vs.length = 65 ∧ vs.drop k = bytesV done ∧ hexL u ++ done = hexL n) (fun s _ => s.1.toNat)
    ⟨n, 65, [], _, rfl, by omega, by omega, by omega, Fr.refl _ _, o1, by simp, rfl, by simp⟩ ?_
  rintro - h2 ⟨u, k, dn, vs, rfl, hu, hk1, hk2, f2, o2, hl, hd, hx⟩
  have hu' : u < 2 ^ 24 := by
    have : (16 : Nat) ^ (k - 59) ≤ 16 ^ 6 := Nat.pow_le_pow_right (by omega) (by omega)
    omega
  obtain ⟨k, rfl⟩ : ∃ j, k = j + 1 := ⟨k - 1, by omega⟩
  have ei : wrap .i64 (((k + 1 : Nat) : Int) - 1) = (k : Int) := by rw [wr (by omega) (by omega)]; omega
  unfold internal_strconv_formatBits_l3
  simp only
  rw [ei, Int.toNat_natCast, Nat.mul_one]
  refine ifD (fun hb => ?_) fun hb => ?_
  · refine idx36 (k := u % 16) (by omega) (and15 u (by omega)) ?_
    refine idxA_mk k rfl (by omega) ?_
    refine st1_own o2 k (by omega) rfl fun h3 f3 s3 o3 => ?_
    rw [shr4]
    have hk60 : 60 ≤ k := by
      rcases Nat.lt_or_ge k 60 with h | h
      · have : k = 59 := by omega
        subst this
        simp at hu; omega
      · exact h
    refine ⟨by decide, ⟨u / 16, k, dig (u % 16) :: dn, _, rfl, ?_, by omega, by omega, f2.trans f3, o3, by simpa using hl, ?_, ?_⟩, ?_⟩
    · have e : k + 1 - 59 = (k - 59) + 1 := by omega
      rw [e, Nat.pow_succ] at hu
      omega
    · rw [setdrop _ _ _ (by omega), hd]; rfl
    · rw [← hx, hexL_ge (n := u) (by omega)]; simp
    · simp only [Int.toNat_natCast]; omega
  · unfold internal_strconv_formatBits_b4
    refine idx36 (k := u) (by omega) rfl ?_
    rw [ei, Int.toNat_natCast, Nat.mul_one]
    refine idxA_mk k rfl (by omega) ?_
    refine st1_own o2 k (by omega) rfl fun h3 f3 s3 o3 => ?_
    unfold internal_strconv_formatBits_b7
    rw [if_neg (by decide)]
    unfold internal_strconv_formatBits_b8
    rw [if_neg (by decide)]
    refine ⟨by omega, by omega, ?_⟩
    rw [Int.toNat_natCast, if_neg (by omega), Nat.mul_one]
    have hd3 : (vs.set k (.int .u8 ((dig u).toNat : Int))).drop k = bytesV (hexL n) := by
      rw [setdrop _ _ _ (by omega), hd, ← hx, hexL_lt (n := u) (by omega)]; rfl
    have hlen : (hexL n).length = 65 - k := by
      have := congrArg List.length hd3
      rw [bytesV_len, List.length_drop, List.length_set, hl] at this
      exact this.symm
    refine conv_bytes Tryd.underlying35 Tryd.underlying9 Tryd.underlying5 (l := hexL n) hlen (fun ad had => ?_) (fun had => by simp at had) ⟨_, rfl, ?_⟩
    · simp only [Option.map_some, Option.some.injEq] at had
      subst had
      intro j hj
      have e : (a.add k).add j = a.add (k + j) := by rw [o3.mk_eq, add_mk, add_mk, add_mk, Nat.add_assoc]
      rw [e]
      refine o3.cells.at ?_
      rw [← List.getElem?_drop, hd3, List.getElem?_eq_getElem hj]
    · exact hk h3 (f1.tr (f2.trans f3) fun x hx hi => by omega)
theorem FormatInt_c [Gh] (n : Nat) (hn : n < 2 ^ 24) {h : Heap} (t : TZ h) {Q : Value → Heap → Prop} (hk : ∀ h', Fr (fun _ => False) h h' → Q (.string (bs (hexL n))) h') :
    CallT Tryd.prog fn_strconv_FormatInt #[.int .i64 n, .int .i64 16] h Q := by
  apply strconv_FormatInt_s
  unfold strconv_FormatInt_v
  apply internal_strconv_FormatInt_s
  unfold internal_strconv_FormatInt_v
  rw [if_neg (by decide), wru (by omega) (by omega), decide_eq_false (by omega)]
  exact formatBits_c n hn t fun h' f => ⟨_, _, _, _, rfl, _, rfl, hk h' f⟩
def digs16 : List UInt8 := [48, 49, 50, 51, 52, 53, 54, 55, 56, 57, 97, 98, 99, 100, 101, 102]
theorem cut16 {k : Nat} (hk : k < 16) {n m : Int} (hn : n = k) (hm : m = (k + 1 : Nat)) {K : ByteArray → Prop} (h : K (bs [dig k])) : sliceStr (⟨#[48, 49, 50, 51, 52, 53, 54, 55, 56, 57, 97, 98, 99, 100, 101, 102]⟩ : ByteArray) (some n) (some m) K := by
  subst hn hm
  refine ⟨by omega, by omega, by show ((k + 1 : Nat) : Int) ≤ ((16 : Nat) : Int); omega, ?_⟩
  have e : (⟨#[48, 49, 50, 51, 52, 53, 54, 55, 56, 57, 97, 98, 99, 100, 101, 102]⟩ : ByteArray) = bs digs16 := rfl
  have e2 : ∀ k : Fin 16, (digs16.drop k.val).take 1 = [dig k.val] := by decide
  rw [Int.toNat_natCast, Int.toNat_natCast, e, bs_extract, show k + 1 - k = 1 by omega, e2 ⟨k, hk⟩]
  exact h
theorem rhex_c [Gh] (n : Nat) (hn : n < 2 ^ 24) {h : Heap} {Q : Value → Heap → Prop} (hk : Q (.string (bs (hexL n))) h) : CallT Tryd.prog fn_ref27_hex #[.int .i64 n] h Q := by
  apply ref27_hex_s
  unfold ref27_hex_v
  rw [bnil]
  refine LoopV.mk (fun s h' => h' = h ∧ ∃ (u : Nat) (dn : List UInt8), s = ((u : Int), bs dn) ∧ u ≤ n ∧ dn.length + u ≤ n ∧ hexL u ++ dn = hexL n) (fun s _ => s.1.toNat) ⟨rfl, n, [], rfl, Nat.le_refl _, by simp, by simp⟩ ?_
  rintro - _ ⟨rfl, u, dn, rfl, hu, hl, hx⟩
  unfold ref27_hex_l1
  simp only
  refine ifD (fun hb => ?_) fun hb => ?_
  · have em : Int.tmod (u : Int) 16 = ((u % 16 : Nat) : Int) := by rw [Int.tmod_eq_emod_of_nonneg (by omega)]; omega
    have ed : Int.tdiv (u : Int) 16 = ((u / 16 : Nat) : Int) := by rw [Int.tdiv_eq_ediv_of_nonneg (by omega)]; omega
    rw [em, ed, wr (x := ((u % 16 : Nat) : Int) + 1) (by omega) (by omega), wr (x := ((u / 16 : Nat) : Int)) (by omega) (by omega)]
    refine ⟨by decide, by decide, cut16 (k := u % 16) (by omega) rfl (by omega) ⟨?_, by decide, ⟨trivial, u / 16, dig (u % 16) :: dn, ?_, by omega, by simp only [List.length_cons]; omega, ?_⟩, ?_⟩⟩
    · rw [bs_size, bs_size, imax]; simp only [List.length_cons, List.length_nil]; omega
    · rw [bs_append]; rfl
    · rw [← hx, hexL_ge (n := u) (by omega)]; simp
    · simp only [Int.toNat_natCast]; omega
  · unfold ref27_hex_b2
    rw [wr (x := (u : Int) + 1) (by omega) (by omega)]
    refine cut16 (k := u) (by omega) rfl (by omega) ⟨?_, ?_⟩
    · rw [bs_size, bs_size, imax]; simp only [List.length_cons, List.length_nil]; omega
    · rw [bs_append, ← hexL_lt (n := u) (by omega), hx]; exact hk
end Go.Proofs.YtjhcockaojlfiaaDoor
