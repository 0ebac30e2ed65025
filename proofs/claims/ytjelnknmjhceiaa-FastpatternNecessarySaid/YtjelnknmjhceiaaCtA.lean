/-
  Package content: a content at a place, its bounds, a test.
-/
import Derived.Test.YtjelnknmjhceiaaAutD
import Derived.Test.YtjelnknmjhceiaaTy
namespace Go.Proofs.Ytjelnknmjhceiaa.Au
set_option linter.unusedSimpArgs false
set_option linter.unusedVariables false
set_option maxRecDepth 20000
open Go
open Go.IntKind (wrap)
abbrev Cn := S_api_Content
abbrev Ts := S_api_Test
def partL (d : Nm) (p k : Nat) : Nm := (d.drop p).take k
/-- A content stands at a place. -/
def atB (c : Cn) (d : Nm) (p : Int) : Bool :=
  decide (0 ≤ p ∧ p + c.Pattern.length ≤ d.length) && (if c.Nocase = true then decide (lowL (partL d p.toNat c.Pattern.length) = lowL c.Pattern) else decide (partL d p.toNat c.Pattern.length = c.Pattern))
theorem csmall_c [Gh] (c : Int) (h0 : 0 ≤ c) (h1 : c ≤ 255) {h : Heap} {Q : Value → Heap → Prop} (hk : Q (.int .u8 (smallI c)) h) : CallT Try.prog fn_content_small #[.int .u8 c] h Q := by
  apply content_small_s
  unfold content_small_v
  unfold smallI at hk
  refine ifD (fun e => ifD (fun e2 => ?_) fun e2 => ?_) fun e => ?_
  · rw [if_pos ⟨e, e2⟩] at hk
    rw [wrb (x := c + 97) (by omega) (by omega), wrb (by omega) (by omega)]
    have : c + 97 - 65 = c + 32 := by omega
    rw [this]; exact hk
  · rw [if_neg (by omega)] at hk; exact hk
  · rw [if_neg (by omega)] at hk; exact hk
theorem low_ne {a b : Nm} (i : Nat) (ha : i < a.length) (hb : i < b.length) (h : byteI (lowB a[i]) ≠ byteI (lowB b[i])) : lowL a ≠ lowL b := fun e => by
  have h1 : (lowL a)[i]? = (lowL b)[i]? := by rw [e]
  unfold lowL at h1
  rw [List.getElem?_map, List.getElem?_map, List.getElem?_eq_getElem ha, List.getElem?_eq_getElem hb] at h1
  exact h (congrArg byteI (Option.some.inj h1))
theorem At_c [Gh] (c : Cn) (d : Nm) (p : Int) (hc : c.Pattern.length ≤ 2 ^ 40) (hd : d.length ≤ 2 ^ 40) {h : Heap} {Q : Value → Heap → Prop} (hk : ∀ h', Fr (fun _ => False) h h' → Q (.bool (atB c d p)) h') :
    CallT Try.prog fn_content_At #[.agg c.vals.toArray, .string (bs d), .int .i64 p] h Q := by
  apply content_At_s
  unfold content_At_v
  refine al_mk (vs := c.vals) fun t3 h1 f1 e1 o1 => ?_
  have cc : Cells h1 t3 c.vals := o1.cells
  have hk := hk h1 f1
  unfold atB at hk
  have no : ¬ (0 ≤ p ∧ p + c.Pattern.length ≤ d.length) → Q (.bool false) h1 := fun hn => by
    rw [decide_eq_false hn, Bool.false_and] at hk; exact hk
  rw [bs_size]
  refine ifD (fun e => no (by omega)) fun e => ifD (fun e2 => no (by omega)) fun e2 => ?_
  refine ldS_mk (cc.at0 rfl) ?_
  rw [bs_size, wr (by omega) (by omega)]
  refine ifD (fun e3 => no (by omega)) fun e3 => ?_
  · have hfit : p + c.Pattern.length ≤ d.length := by omega
    rw [decide_eq_true ⟨by omega, hfit⟩, Bool.true_and] at hk
    refine ldS_mk (cc.at0 rfl) ?_
    rw [bs_size, wr (by omega) (by omega)]
    obtain ⟨q, rfl⟩ : ∃ q : Nat, p = q := ⟨p.toNat, by omega⟩
    refine slS d q (q + c.Pattern.length) rfl (by omega) (by omega) (by omega) ?_
    rw [Nat.add_sub_cancel_left]
    rw [Int.toNat_natCast] at hk
    have hpl : (partL d q c.Pattern.length).length = c.Pattern.length := by unfold partL; rw [List.length_take, List.length_drop]; omega
    rw [show (d.drop q).take c.Pattern.length = partL d q c.Pattern.length from rfl]
    generalize partL d q c.Pattern.length = part at *
    refine ldB_mk (cc.at (j := 1) rfl) (ifN (fun e3 => ?_) fun e3 => ?_)
    · rw [if_neg (by rw [e3]; decide)] at hk
      refine ldS_mk (cc.at0 rfl) (Qeq hk ?_)
      rw [bs_toList, bs_toList]
      congr 1
      rw [Bool.eq_iff_iff, decide_eq_true_iff, beq_iff_eq]
    · rw [if_pos e3] at hk
      rw [bs_size]
      refine LoopV.go (fun n st h' => ∃ i : Nat, st = (i : Int) ∧ i ≤ part.length ∧ n = part.length - i ∧ h' = h1 ∧ (lowL part).take i = (lowL c.Pattern).take i) part.length ⟨0, rfl, by omega, rfl, rfl, rfl⟩ ?_
      rintro n - h2 ⟨i, rfl, hi, rfl, rfl, he⟩ Kn hK
      unfold content_At_l1
      refine ifD (fun e4 => ?_) fun e4 => ?_
      · have hil : i < part.length := by omega
        refine ixS part i rfl hil (ldS_mk (cc.at0 rfl) (ixS c.Pattern i rfl (by omega) ?_))
        have b1 := byteI_le part[i]
        have b2 := byteI_le c.Pattern[i]
        refine csmall_c _ b1.1 b1.2 ⟨_, rfl, ldS_mk (cc.at0 rfl) rfl, csmall_c _ b2.1 b2.2 ⟨_, rfl, ?_⟩⟩
        rw [← byteI_low, ← byteI_low]
        refine ifNe (fun e5 => ?_) fun e5 => ?_
        · rw [decide_eq_false (low_ne i hil (by omega) e5)] at hk; exact hk
        · rw [wr (by omega) (by omega)]
          refine hK (part.length - (i + 1)) _ _ (by omega) ⟨i + 1, rfl, hil, rfl, rfl, ?_⟩
          have hb := byteI_inj e5
          rw [lowL_take, lowL_take] at he ⊢
          rw [show part.take (i + 1) = part.take i ++ [part[i]] by rw [List.take_append_getElem], show c.Pattern.take (i + 1) = c.Pattern.take i ++ [c.Pattern[i]'(by omega)] by rw [List.take_append_getElem]]
          unfold lowL at he ⊢
          rw [List.map_append, List.map_append, he]
          simp only [List.map_cons, List.map_nil]
          rw [hb]
      · have : i = part.length := by omega
        subst this
        rw [List.take_of_length_le (by rw [lowL_len]; exact Nat.le_refl _), List.take_of_length_le (by rw [lowL_len]; omega)] at he
        rw [decide_eq_true he] at hk; exact hk
/-! ### Bounds -/
/-- Numbers that nothing overflows with. -/
structure OkC (c : Cn) : Prop where
  p : c.Pattern.length ≤ 2 ^ 20
  o1 : -1073741824 ≤ c.Offset
  o2 : c.Offset ≤ 1073741824
  d1 : 0 ≤ c.Depth
  d2 : c.Depth ≤ 1073741824
def loL (c : Cn) (cur : Int) : Int := if c.Relative = true then c.Offset + cur else c.Offset
def hiL (c : Cn) (size cur : Int) : Int := if c.Depth = 0 then size else if size < loL c cur + c.Depth then size else loL c cur + c.Depth
def topL (c : Cn) (cur : Int) : Int := if 0 > loL c cur then 0 else loL c cur
def boundsL (c : Cn) (size cur : Int) : Int × Int := if hiL c size cur - c.Pattern.length < topL c cur then (0, -1) else (topL c cur, hiL c size cur - c.Pattern.length)
theorem Bounds_c [Gh] (c : Cn) (size cur : Int) (ok : OkC c) (hs : 0 ≤ size ∧ size ≤ 2147483648) (hcur : 0 ≤ cur ∧ cur ≤ 2147483648) {h : Heap} {Q : Value → Heap → Prop}
    (hk : ∀ h', Fr (fun _ => False) h h' → Q (.tuple #[.int .i64 (boundsL c size cur).1, .int .i64 (boundsL c size cur).2]) h') :
    CallT Try.prog fn_content_Bounds #[.agg c.vals.toArray, .int .i64 size, .int .i64 cur] h Q := by
  apply content_Bounds_s
  unfold content_Bounds_v
  refine al_mk (vs := c.vals) fun t3 h1 f1 e1 o1 => ?_
  have cc : Cells h1 t3 c.vals := o1.cells
  have hk := hk h1 f1
  have k1 := ok.o1
  have k2 := ok.o2
  have k3 := ok.d1
  have k4 := ok.d2
  have k5 := ok.p
  have hlo : -1073741824 ≤ loL c cur ∧ loL c cur ≤ 3221225472 := by unfold loL; split <;> omega
  have b2 : ∀ hi, -1073741824 ≤ hi → hi ≤ 2147483648 → hi = hiL c size cur → content_Bounds_b2 t3 (loL c cur) hi Q h1 := fun hi h2 h3 he => by
    unfold content_Bounds_b2
    unfold boundsL topL at hk
    rw [← he] at hk
    refine ldS_mk (cc.at0 rfl) ?_
    rw [bs_size, wr (x := hi - ((c.Pattern.length : Nat) : Int)) (by omega) (by omega)]
    refine ifD (fun e => ?_) fun e => ?_
    · rw [if_pos e] at hk; exact hk
    · rw [if_neg e] at hk
      refine ldS_mk (cc.at0 rfl) ?_
      rw [bs_size, wr (x := hi - ((c.Pattern.length : Nat) : Int)) (by omega) (by omega)]
      exact hk
  have b1 : content_Bounds_b1 size t3 (loL c cur) Q h1 := by
    unfold content_Bounds_b1
    refine ldI_mk (cc.at (j := 5) rfl) (ifNe (fun e => ldI_mk (cc.at (j := 5) rfl) ?_) fun e => ?_)
    · rw [wr (by omega) (by omega)]
      refine b2 _ ?_ ?_ ?_
      · split <;> omega
      · split <;> omega
      · unfold hiL; rw [if_neg e]
    · exact b2 _ (by omega) (by omega) (by unfold hiL; rw [if_pos e])
  refine ldI_mk (cc.at (j := 4) rfl) (ldB_mk (cc.at (j := 3) rfl) (ifB (fun e => ?_) fun e => ?_))
  · rw [wr (by omega) (by omega)]
    have : loL c cur = c.Offset + cur := by unfold loL; rw [if_pos e]
    rw [← this]; exact b1
  · have : loL c cur = c.Offset := by unfold loL; rw [if_neg (by rw [e]; decide)]
    rw [← this]; exact b1
/-! ### Tests -/
def atT (t : Ts) (cur : Int) : Int := if t.Relative = true then t.Offset + cur else t.Offset
def numL (d : Nm) (a n : Nat) (little : Bool) : Nat → Nat
  | 0 => 0
  | i + 1 => numL d a n little i * 256 + (d.getD (a + (if little = true then n - 1 - i else i)) 0).toNat
theorem numL_lt (d : Nm) (a n : Nat) (little : Bool) : ∀ i, numL d a n little i < 256 ^ i
  | 0 => by simp [numL]
  | i + 1 => by
    have := numL_lt d a n little i
    have h2 := (d.getD (a + (if little = true then n - 1 - i else i)) 0).toNat_lt
    rw [numL, Nat.pow_succ]; omega
def bitsL (n v : Int) : Bool := (wrap .i64 (BitVec.toNat (BitVec.ofInt (IntKind.bits .i64) n &&& BitVec.ofInt (IntKind.bits .i64) v) : Int)) != (0 : Int)
def opL (t : Ts) (n : Int) : Bool :=
  if t.Op = 1 then !(decide (n < t.Value) == t.Not)
  else if t.Op = 2 then !((n == t.Value) == t.Not)
  else if t.Op = 3 then !(decide (n > t.Value) == t.Not)
  else if t.Op = 4 then !(bitsL n t.Value == t.Not)
  else false
def FitT (t : Ts) (d : Nm) (cur : Int) : Prop := (t.Size = 1 ∨ t.Size = 2 ∨ t.Size = 4) ∧ 0 ≤ atT t cur ∧ atT t cur + t.Size ≤ d.length
instance (t : Ts) (d : Nm) (cur : Int) : Decidable (FitT t d cur) := by unfold FitT; exact inferInstance
def testL (t : Ts) (d : Nm) (cur : Int) : Bool := if FitT t d cur then opL t (numL d (atT t cur).toNat t.Size.toNat t.Little t.Size.toNat : Nat) else false
theorem shl_or (n b : Nat) (hn : n < 2 ^ 24) (hb : b < 256) :
    wrap .i64 (BitVec.toNat (BitVec.ofInt (IntKind.bits .i64) (wrap .i64 ((n : Int) * 2 ^ (min (Int.toNat (8 : Int)) (IntKind.bits .i64)))) ||| BitVec.ofInt (IntKind.bits .i64) (wrap .i64 (b : Int))) : Int) = ((n * 256 + b : Nat) : Int) := by
  have e1 : (2 : Int) ^ (min (Int.toNat (8 : Int)) (IntKind.bits .i64)) = 256 := rfl
  have e2 : (n : Int) * 256 = ((n * 256 : Nat) : Int) := by omega
  rw [e1, e2, wr (x := ((n * 256 : Nat) : Int)) (by omega) (by omega), wr (x := ((b : Nat) : Int)) (by omega) (by omega), BitVec.ofInt_natCast, BitVec.ofInt_natCast, BitVec.toNat_or, BitVec.toNat_ofNat, BitVec.toNat_ofNat]
  have e3 : n * 256 % 2 ^ (IntKind.bits .i64) = n * 256 := Nat.mod_eq_of_lt (by show _ < 2 ^ 64; omega)
  have e4 : b % 2 ^ (IntKind.bits .i64) = b := Nat.mod_eq_of_lt (by show _ < 2 ^ 64; omega)
  have e5 : (n * 256) ||| b = n * 256 + b := by
    have := Nat.two_pow_add_eq_or_of_lt (i := 8) (b := b) hb n
    rw [show 2 ^ 8 * n = n * 256 by omega] at this
    exact this.symm
  rw [e3, e4, e5, wr (by omega) (by omega)]
structure OkT (t : Ts) : Prop where
  o1 : -1073741824 ≤ t.Offset
  o2 : t.Offset ≤ 1073741824
theorem getD_at {d : Nm} {i : Nat} (h : i < d.length) : d.getD i 0 = d[i] := by rw [List.getD_eq_getElem?_getD, List.getElem?_eq_getElem h]; rfl
theorem Test_c [Gh] (t : Ts) (d : Nm) (cur : Int) (ok : OkT t) (hcur : 0 ≤ cur ∧ cur ≤ 2147483648) (hd : d.length ≤ 2 ^ 30) {h : Heap} {Q : Value → Heap → Prop}
    (hk : ∀ h', Fr (fun _ => False) h h' → Q (.bool (testL t d cur)) h') :
    CallT Try.prog fn_content_Test #[.agg t.vals.toArray, .string (bs d), .int .i64 cur] h Q := by
  apply content_Test_s
  unfold content_Test_v
  refine al_mk (vs := t.vals) fun t3 h1 f1 e1 o1 => ?_
  have cc : Cells h1 t3 t.vals := o1.cells
  have hk := hk h1 f1
  have k1 := ok.o1
  have k2 := ok.o2
  have hat : -1073741824 ≤ atT t cur ∧ atT t cur ≤ 3221225472 := by unfold atT; split <;> omega
  have no : ¬ FitT t d cur → Q (.bool false) h1 := fun hn => by
    unfold testL at hk
    rw [if_neg hn] at hk; exact hk
  have rest : (t.Size = 1 ∨ t.Size = 2 ∨ t.Size = 4) → (if decide (atT t cur < 0) = true then Q (.bool false) h1 else if decide (atT t cur > ((d.length : Nat) : Int)) = true then Q (.bool false) h1 else
      ldI h1 (Addr.add t3 1) .i64 fun t48 => if (decide ((wrap .i64 (((d.length : Nat) : Int) - atT t cur)) < t48)) = true then (Q (.bool false) h1) else (ldI h1 (Addr.add t3 1) .i64 fun t52 => LoopV (fun (s : Int × Int) h Kn => content_Test_l2 (bs d) t3 (atT t cur) t52 Q s.1 s.2 h Kn) (0, 0) h1)) := fun hsz => by
    refine ifD (fun e => no fun hf => by have := hf.2.1; omega) fun e => ifD (fun e2 => no fun hf => by have := hf.2.2; rcases hsz with h | h | h <;> omega) fun e2 => ?_
    refine ldI_mk (cc.at (j := 1) rfl) ?_
    rw [wr (by omega) (by omega)]
    refine ifD (fun e3 => no fun hf => by have := hf.2.2; omega) fun e3 => ?_
    refine ldI_mk (cc.at (j := 1) rfl) ?_
    have hf : FitT t d cur := ⟨hsz, by omega, by omega⟩
    unfold testL at hk
    rw [if_pos hf] at hk
    obtain ⟨a, ha⟩ : ∃ a : Nat, atT t cur = a := ⟨(atT t cur).toNat, by omega⟩
    obtain ⟨n, hn⟩ : ∃ n : Nat, t.Size = n := ⟨t.Size.toNat, by omega⟩
    rw [ha, hn] at hk e3 ⊢
    rw [hn] at hsz
    have hfit : a + n ≤ d.length := by omega
    have hn4 : n ≤ 4 := by omega
    rw [Int.toNat_natCast, Int.toNat_natCast] at hk
    refine LoopV.go (fun m st h' => ∃ i : Nat, st.2 = (i : Int) ∧ st.1 = ((numL d a n t.Little i : Nat) : Int) ∧ i ≤ n ∧ m = n - i ∧ h' = h1) n ⟨0, rfl, rfl, by omega, rfl, rfl⟩ ?_
    rintro m ⟨x, y⟩ h2 ⟨i, e4, e5, hi, rfl, rfl⟩ Kn hK
    dsimp only at e4 e5
    subst e4 e5
    dsimp only
    unfold content_Test_l2
    have hlt := numL_lt d a n t.Little i
    refine ifD (fun e6 => ?_) fun e6 => ?_
    · have hil : i < n := by omega
      have hp : 256 ^ i ≤ 256 ^ 3 := Nat.pow_le_pow_right (by omega) (by omega)
      have b3 : ∀ k : Nat, k < n → k = (if t.Little = true then n - 1 - i else i) → content_Test_b3 (bs d) t3 (a : Int) ((numL d a n t.Little i : Nat) : Int) (k : Int) (n : Int) (i : Int) Q Kn h2 := fun k hk1 hk2 => by
        unfold content_Test_b3
        rw [wr (x := (a : Int) + (k : Int)) (by omega) (by omega)]
        refine ⟨by decide, ixS d (a + k) (by omega) (by omega) ?_⟩
        have hb := (d[a + k]'(by omega)).toNat_lt
        unfold byteI
        rw [shl_or _ _ (by omega) hb, wr (by omega) (by omega)]
        refine hK (n - (i + 1)) _ _ (by omega) ⟨i + 1, rfl, ?_, hil, rfl, rfl⟩
        show _ = ((numL d a n t.Little i * 256 + (d.getD (a + (if t.Little = true then n - 1 - i else i)) 0).toNat : Nat) : Int)
        rw [← hk2, getD_at (by omega)]
      refine ldB_mk (cc.at (j := 5) rfl) (ifB (fun e7 => ?_) fun e7 => ?_)
      · refine ldI_mk (n := (n : Int)) (by rw [← hn]; exact cc.at (j := 1) rfl) ?_
        rw [wr (x := (n : Int) - 1) (by omega) (by omega), wr (by omega) (by omega), show (n : Int) - 1 - (i : Int) = ((n - 1 - i : Nat) : Int) by omega]
        exact b3 _ (by omega) (by rw [if_pos e7])
      · exact b3 _ hil (by rw [if_neg (by rw [e7]; decide)])
    · have : i = n := by omega
      subst this
      unfold content_Test_b4
      unfold opL at hk
      have b5 : ∀ ok : Bool, Q (.bool (!(ok == t.Not))) h2 → content_Test_b5 t3 ok Q h2 := fun ok hq => by
        unfold content_Test_b5
        exact ldB_mk (cc.at (j := 6) rfl) hq
      refine ldI_mk (cc.at0 rfl) (ifE (fun e7 => ?_) fun e7 => ?_)
      · rw [if_pos e7] at hk
        exact ldI_mk (cc.at (j := 2) rfl) (b5 _ hk)
      rw [if_neg e7] at hk
      refine ifE (fun e7 => ?_) fun e7 => ?_
      · rw [if_pos e7] at hk
        exact ldI_mk (cc.at (j := 2) rfl) (b5 _ hk)
      rw [if_neg e7] at hk
      refine ifE (fun e7 => ?_) fun e7 => ?_
      · rw [if_pos e7] at hk
        exact ldI_mk (cc.at (j := 2) rfl) (b5 _ hk)
      rw [if_neg e7] at hk
      refine ifE (fun e7 => ?_) fun e7 => ?_
      · rw [if_pos e7] at hk
        exact ldI_mk (cc.at (j := 2) rfl) (b5 _ hk)
      rw [if_neg e7] at hk
      exact hk
  have b1 : content_Test_b1 (bs d) t3 (atT t cur) Q h1 := by
    unfold content_Test_b1
    rw [bs_size]
    refine ldI_mk (cc.at (j := 1) rfl) (ifNe (fun e => ldI_mk (cc.at (j := 1) rfl) (ifNe (fun e2 => ldI_mk (cc.at (j := 1) rfl) (ifNe (fun e3 => ?_) fun e3 => ?_)) fun e2 => ?_)) fun e => ?_)
    · exact no fun hf => by
        rcases hf.1 with h | h | h
        · exact e h
        · exact e2 h
        · exact e3 h
    · exact rest (.inr (.inr e3))
    · exact rest (.inr (.inl e2))
    · exact rest (.inl e)
  refine ldI_mk (cc.at (j := 3) rfl) (ldB_mk (cc.at (j := 4) rfl) (ifB (fun e => ?_) fun e => ?_))
  · rw [wr (by omega) (by omega)]
    have : atT t cur = t.Offset + cur := by unfold atT; rw [if_pos e]
    rw [← this]; exact b1
  · have : atT t cur = t.Offset := by unfold atT; rw [if_neg (by rw [e]; decide)]
    rw [← this]; exact b1
end Go.Proofs.Ytjelnknmjhceiaa.Au
