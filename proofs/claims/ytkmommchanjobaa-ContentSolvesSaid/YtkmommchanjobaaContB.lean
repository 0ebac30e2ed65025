/-
  Contents: the first and the last place of one; byte tests.
-/
import Derived.Test.YtkmommchanjobaaContA
namespace Go.Proofs.Ytkmommchanjobaa
set_option linter.unusedSimpArgs false
set_option linter.unusedVariables false
open Go
/-- Numbers of a content that nothing overflows with. -/
def OkC (c : Cn) : Prop := c.pat.length ≤ 20 ∧ -1073741824 ≤ c.off ∧ c.off ≤ 1073741824 ∧ 0 ≤ c.dep ∧ c.dep ≤ 1073741824
def loL (c : Cn) (cur : Int) : Int := if c.rel then c.off + cur else c.off
def hiL (c : Cn) (size cur : Int) : Int := if c.dep = 0 then size else if loL c cur + c.dep < size then loL c cur + c.dep else size
def topL (c : Cn) (cur : Int) : Int := if loL c cur < 0 then 0 else loL c cur
def boundsL (c : Cn) (size cur : Int) : Int × Int := if hiL c size cur - c.pat.length < topL c cur then (0, -1) else (topL c cur, hiL c size cur - c.pat.length)
def bndV (p : Int × Int) : Value := .tuple #[.int .i64 p.1, .int .i64 p.2]
theorem loL_bd {c : Cn} (hc : OkC c) {cur : Int} (h0 : 0 ≤ cur) (h1 : cur ≤ 2147483648) : -1073741824 ≤ loL c cur ∧ loL c cur ≤ 3221225472 := by
  obtain ⟨_, h2, h3, _⟩ := hc
  unfold loL; split <;> omega
theorem Bounds_c [Gh] (c : Cn) (size cur : Int) (hc : OkC c) (hs : 0 ≤ size ∧ size ≤ 2147483648) (hcur : 0 ≤ cur ∧ cur ≤ 2147483648) {h : Heap} {Q : Value → Heap → Prop}
    (hk : ∀ h', Fr (fun _ => False) h h' → Q (bndV (boundsL c size cur)) h') :
    CallT Try.prog fn_content_Bounds #[.agg (cnV c).toArray, .int .i64 size, .int .i64 cur] h Q := by
  have hlo := loL_bd hc hcur.1 hcur.2
  have elo : loL c cur = if c.rel then c.off + cur else c.off := rfl
  have ehi : hiL c size cur = if c.dep = 0 then size else if loL c cur + c.dep < size then loL c cur + c.dep else size := rfl
  have eb : boundsL c size cur = if hiL c size cur - c.pat.length < topL c cur then (0, -1) else (topL c cur, hiL c size cur - c.pat.length) := rfl
  have etop : topL c cur = if loL c cur < 0 then 0 else loL c cur := rfl
  obtain ⟨hc0, hc1, hc2, hc3, hc4⟩ := hc
  generalize loL c cur = lo at *
  generalize hiL c size cur = hi at *
  generalize topL c cur = top at *
  generalize boundsL c size cur = bb at *
  obtain ⟨pat, nc, neg, rel, off, dep, fast⟩ := c
  simp only at hc0 hc1 hc2 hc3 hc4 elo ehi eb
  have hk := hk _ (Fr.push _ h (.cells #[Value.string (bs pat), Value.bool nc, Value.bool neg, Value.bool rel, Value.int .i64 off, Value.int .i64 dep, Value.bool fast] 23 (0, 0)))
  refine content_Bounds_s (bs pat) nc neg rel off dep fast size cur ?_
  simp only [content_Bounds_b10, content_Bounds_b11, content_Bounds_b9, content_Bounds_b8, content_Bounds_b7, content_Bounds_b6, content_Bounds_b5, content_Bounds_b4, content_Bounds_b3, content_Bounds_b2, content_Bounds_b1, content_Bounds_v]
  simp only [alV]
  have g0 : hcell (h.push (.cells #[Value.string (bs pat), Value.bool nc, Value.bool neg, Value.bool rel, Value.int .i64 off, Value.int .i64 dep, Value.bool fast] 23 (0, 0))) ⟨h.size, 0, none⟩ = some (.string (bs pat)) := by rw [hcell_blk get_push_self]; rfl
  have g3 : hcell (h.push (.cells #[Value.string (bs pat), Value.bool nc, Value.bool neg, Value.bool rel, Value.int .i64 off, Value.int .i64 dep, Value.bool fast] 23 (0, 0))) (Addr.add ⟨h.size, 0, none⟩ 3) = some (.bool rel) := by rw [add_mk, hcell_blk get_push_self]; rfl
  have g4 : hcell (h.push (.cells #[Value.string (bs pat), Value.bool nc, Value.bool neg, Value.bool rel, Value.int .i64 off, Value.int .i64 dep, Value.bool fast] 23 (0, 0))) (Addr.add ⟨h.size, 0, none⟩ 4) = some (.int .i64 off) := by rw [add_mk, hcell_blk get_push_self]; rfl
  have g5 : hcell (h.push (.cells #[Value.string (bs pat), Value.bool nc, Value.bool neg, Value.bool rel, Value.int .i64 off, Value.int .i64 dep, Value.bool fast] 23 (0, 0))) (Addr.add ⟨h.size, 0, none⟩ 5) = some (.int .i64 dep) := by rw [add_mk, hcell_blk get_push_self]; rfl
  generalize h.push (.cells #[Value.string (bs pat), Value.bool nc, Value.bool neg, Value.bool rel, Value.int .i64 off, Value.int .i64 dep, Value.bool fast] 23 (0, 0)) = hq at *
  generalize Addr.mk h.size 0 none = b at *
  have fin : ∀ t : Int, t = top → ∀ u : Int, u = hi → ldS hq b fun t31 => if (decide ((IntKind.wrap .i64 (u - ((t31.size : Nat) : Int))) < t)) = true then (Q (Value.tuple #[Value.int .i64 (0 : Int), Value.int .i64 ((-1) : Int)]) hq) else (ldS hq b fun t39 => Q (Value.tuple #[Value.int .i64 t, Value.int .i64 (IntKind.wrap .i64 (u - ((t39.size : Nat) : Int)))]) hq) := by
    rintro t rfl u rfl
    have hu : -1073741824 ≤ u ∧ u ≤ 4294967296 := by rw [ehi]; split <;> (try split) <;> omega
    refine ldS_mk g0 ?_
    rw [bs_size, wr (by omega) (by omega)]
    by_cases hlt : u - (pat.length : Int) < t
    · rw [if_pos (by rw [decide_eq_true_eq]; exact hlt)]
      rw [eb, if_pos hlt] at hk; exact hk
    · rw [if_neg (by rw [decide_eq_true_eq]; exact hlt)]
      refine ldS_mk g0 ?_
      rw [bs_size, wr (by omega) (by omega)]
      rw [eb, if_neg hlt] at hk; exact hk
  have mid : ∀ l : Int, l = lo → ldI hq (Addr.add b 5) .i64 fun t19 => if (t19 != (0 : Int)) = true then (ldI hq (Addr.add b 5) .i64 fun t23 => ldS hq b fun t31 => if (decide ((IntKind.wrap .i64 ((if size < (IntKind.wrap .i64 (l + t23)) then size else (IntKind.wrap .i64 (l + t23))) - ((t31.size : Nat) : Int))) < (if (0 : Int) > l then (0 : Int) else l))) = true then (Q (Value.tuple #[Value.int .i64 (0 : Int), Value.int .i64 ((-1) : Int)]) hq) else (ldS hq b fun t39 => Q (Value.tuple #[Value.int .i64 (if (0 : Int) > l then (0 : Int) else l), Value.int .i64 (IntKind.wrap .i64 ((if size < (IntKind.wrap .i64 (l + t23)) then size else (IntKind.wrap .i64 (l + t23))) - ((t39.size : Nat) : Int)))]) hq)) else (ldS hq b fun t31 => if (decide ((IntKind.wrap .i64 (size - ((t31.size : Nat) : Int))) < (if (0 : Int) > l then (0 : Int) else l))) = true then (Q (Value.tuple #[Value.int .i64 (0 : Int), Value.int .i64 ((-1) : Int)]) hq) else (ldS hq b fun t39 => Q (Value.tuple #[Value.int .i64 (if (0 : Int) > l then (0 : Int) else l), Value.int .i64 (IntKind.wrap .i64 (size - ((t39.size : Nat) : Int)))]) hq)) := by
    rintro l rfl
    refine ldI_mk g5 ?_
    have et : (if (0 : Int) > l then (0 : Int) else l) = top := by rw [etop]
    by_cases h0 : dep = 0
    · rw [if_neg (by simpa using h0)]
      exact fin _ et _ (by rw [ehi, if_pos h0])
    · rw [if_pos (by simpa using h0)]
      refine ldI_mk g5 ?_
      refine fin _ et _ ?_
      rw [wr (by omega) (by omega), ehi, if_neg h0]
      split <;> split <;> omega
  refine ldI_mk g4 (ldB_mk g3 ?_)
  cases rel with
  | true =>
    rw [if_pos rfl]
    exact mid _ (by rw [wr (by omega) (by omega), elo, if_pos rfl])
  | false =>
    rw [if_neg (by simp)]
    exact mid _ (by rw [elo, if_neg (by simp)])
theorem rBounds_c [Gh] (c : Cn) (size cur : Int) (hc : OkC c) (hs : 0 ≤ size ∧ size ≤ 2147483648) (hcur : 0 ≤ cur ∧ cur ≤ 2147483648) {h : Heap} {Q : Value → Heap → Prop}
    (hk : ∀ h', Fr (fun _ => False) h h' → Q (bndV (boundsL c size cur)) h') :
    CallT Try.prog fn_ref44_Bounds #[.agg (cnV c).toArray, .int .i64 size, .int .i64 cur] h Q := by
  have hlo := loL_bd hc hcur.1 hcur.2
  have elo : loL c cur = if c.rel then c.off + cur else c.off := rfl
  have ehi : hiL c size cur = if c.dep = 0 then size else if loL c cur + c.dep < size then loL c cur + c.dep else size := rfl
  have eb : boundsL c size cur = if hiL c size cur - c.pat.length < topL c cur then (0, -1) else (topL c cur, hiL c size cur - c.pat.length) := rfl
  have etop : topL c cur = if loL c cur < 0 then 0 else loL c cur := rfl
  obtain ⟨hc0, hc1, hc2, hc3, hc4⟩ := hc
  generalize loL c cur = lo at *
  generalize hiL c size cur = hi at *
  generalize topL c cur = top at *
  generalize boundsL c size cur = bb at *
  obtain ⟨pat, nc, neg, rel, off, dep, fast⟩ := c
  simp only at hc0 hc1 hc2 hc3 hc4 elo ehi eb
  have hk := hk _ (Fr.push _ h (.cells #[Value.string (bs pat), Value.bool nc, Value.bool neg, Value.bool rel, Value.int .i64 off, Value.int .i64 dep, Value.bool fast] 23 (0, 0)))
  refine ref44_Bounds_s (bs pat) nc neg rel off dep fast size cur ?_
  simp only [ref44_Bounds_v, ref44_Bounds_b1, ref44_Bounds_b2, ref44_Bounds_b3, ref44_Bounds_b4, ref44_Bounds_b5, ref44_Bounds_b6, ref44_Bounds_b7, ref44_Bounds_b8]
  simp only [alV]
  have g0 : hcell (h.push (.cells #[Value.string (bs pat), Value.bool nc, Value.bool neg, Value.bool rel, Value.int .i64 off, Value.int .i64 dep, Value.bool fast] 23 (0, 0))) ⟨h.size, 0, none⟩ = some (.string (bs pat)) := by rw [hcell_blk get_push_self]; rfl
  have g3 : hcell (h.push (.cells #[Value.string (bs pat), Value.bool nc, Value.bool neg, Value.bool rel, Value.int .i64 off, Value.int .i64 dep, Value.bool fast] 23 (0, 0))) (Addr.add ⟨h.size, 0, none⟩ 3) = some (.bool rel) := by rw [add_mk, hcell_blk get_push_self]; rfl
  have g4 : hcell (h.push (.cells #[Value.string (bs pat), Value.bool nc, Value.bool neg, Value.bool rel, Value.int .i64 off, Value.int .i64 dep, Value.bool fast] 23 (0, 0))) (Addr.add ⟨h.size, 0, none⟩ 4) = some (.int .i64 off) := by rw [add_mk, hcell_blk get_push_self]; rfl
  have g5 : hcell (h.push (.cells #[Value.string (bs pat), Value.bool nc, Value.bool neg, Value.bool rel, Value.int .i64 off, Value.int .i64 dep, Value.bool fast] 23 (0, 0))) (Addr.add ⟨h.size, 0, none⟩ 5) = some (.int .i64 dep) := by rw [add_mk, hcell_blk get_push_self]; rfl
  generalize h.push (.cells #[Value.string (bs pat), Value.bool nc, Value.bool neg, Value.bool rel, Value.int .i64 off, Value.int .i64 dep, Value.bool fast] 23 (0, 0)) = hq at *
  generalize Addr.mk h.size 0 none = b at *
  have fin : ∀ l : Int, l = lo → ∀ u : Int, u = hi → ref44_Bounds_b9 b l u Q hq := by
    rintro l rfl u rfl
    have hu : -1073741824 ≤ u ∧ u ≤ 4294967296 := by rw [ehi]; split <;> (try split) <;> omega
    have go : ∀ t : Int, t = top → ref44_Bounds_b11 b t u Q hq := by
      rintro t rfl
      simp only [ref44_Bounds_b11, ref44_Bounds_b12, ref44_Bounds_b13, ref44_Bounds_b14]
      refine ldS_mk g0 ?_
      rw [bs_size, wr (by omega) (by omega)]
      by_cases hlt : u - (pat.length : Int) < t
      · rw [if_pos (by rw [decide_eq_true_eq]; exact hlt)]
        rw [eb, if_pos hlt] at hk; exact hk
      · rw [if_neg (by rw [decide_eq_true_eq]; exact hlt)]
        refine ldS_mk g0 ?_
        rw [bs_size, wr (by omega) (by omega)]
        rw [eb, if_neg hlt] at hk; exact hk
    simp only [ref44_Bounds_b9, ref44_Bounds_b10]
    by_cases hl : l < 0
    · rw [if_pos (by rw [decide_eq_true_eq]; exact hl)]
      exact go _ (by rw [etop, if_pos hl])
    · rw [if_neg (by rw [decide_eq_true_eq]; exact hl)]
      exact go _ (by rw [etop, if_neg hl])
  have mid : ∀ l : Int, l = lo → ldI hq (Addr.add b 5) .i64 fun t20 => if (t20 != (0 : Int)) = true then (ldI hq (Addr.add b 5) .i64 fun t25 => if (decide ((IntKind.wrap .i64 (l + t25)) < size)) = true then (ldI hq (Addr.add b 5) .i64 fun t32 => ref44_Bounds_b9 b l (IntKind.wrap .i64 (l + t32)) Q hq) else (ref44_Bounds_b9 b l size Q hq)) else (ref44_Bounds_b9 b l size Q hq) := by
    rintro l rfl
    refine ldI_mk g5 ?_
    by_cases h0 : dep = 0
    · rw [if_neg (by simpa using h0)]
      exact fin _ rfl _ (by rw [ehi, if_pos h0])
    · rw [if_pos (by simpa using h0)]
      refine ldI_mk g5 ?_
      rw [wr (by omega) (by omega)]
      by_cases hlt : l + dep < size
      · rw [if_pos (by rw [decide_eq_true_eq]; exact hlt)]
        refine ldI_mk g5 ?_
        exact fin _ rfl _ (by rw [wr (by omega) (by omega), ehi, if_neg h0, if_pos hlt])
      · rw [if_neg (by rw [decide_eq_true_eq]; exact hlt)]
        exact fin _ rfl _ (by rw [ehi, if_neg h0, if_neg hlt])
  refine ldI_mk g4 (ldB_mk g3 ?_)
  cases rel with
  | true =>
    rw [if_pos rfl]
    refine ldI_mk g4 ?_
    exact mid _ (by rw [wr (by omega) (by omega), elo, if_pos rfl]; omega)
  | false =>
    rw [if_neg (by simp)]
    exact mid _ (by rw [elo, if_neg (by simp)])
end Go.Proofs.Ytkmommchanjobaa
