/-
  The score of a pattern.
-/
import Derived.Test.YtjelnknmjhceiaaG2
import Derived.Test.YtjelnknmjhceiaaKit2
namespace Go.Proofs.Ytjelnknmjhceiaa
set_option linter.unusedSimpArgs false
set_option linter.unusedVariables false
set_option maxRecDepth 20000
open Go
def commonB (c : UInt8) : Bool := (decide (97 ≤ c.toNat) && decide (c.toNat ≤ 122)) || (decide (65 ≤ c.toNat) && decide (c.toNat ≤ 90)) || (decide (48 ≤ c.toNat) && decide (c.toNat ≤ 57)) || c.toNat == 32
theorem common_c [Gh] (c : UInt8) {h : Heap} {Q : Value → Heap → Prop} (hk : Q (.bool (commonB c)) h) : CallT Try.prog fn_fastpattern_common #[.int .u8 c.toNat] h Q := by
  refine fastpattern_common_s _ ?_
  simp only [fastpattern_common_v]
  unfold commonB at hk
  have e32 : ((c.toNat : Int) == 32) = (c.toNat == 32) := by rw [Bool.eq_iff_iff, beq_iff_eq, beq_iff_eq]; omega
  have d1 : decide ((c.toNat : Int) ≥ 97) = decide (97 ≤ c.toNat) := by rw [decide_eq_decide]; omega
  have d2 : decide ((c.toNat : Int) ≤ 122) = decide (c.toNat ≤ 122) := by rw [decide_eq_decide]; omega
  have d3 : decide ((c.toNat : Int) ≥ 65) = decide (65 ≤ c.toNat) := by rw [decide_eq_decide]; omega
  have d4 : decide ((c.toNat : Int) ≤ 90) = decide (c.toNat ≤ 90) := by rw [decide_eq_decide]; omega
  have d5 : decide ((c.toNat : Int) ≥ 48) = decide (48 ≤ c.toNat) := by rw [decide_eq_decide]; omega
  have d6 : decide ((c.toNat : Int) ≤ 57) = decide (c.toNat ≤ 57) := by rw [decide_eq_decide]; omega
  rw [d1, d2, d3, d4, d5, d6, e32]
  revert hk
  cases decide (97 ≤ c.toNat) <;> cases decide (c.toNat ≤ 122) <;> cases decide (65 ≤ c.toNat) <;> cases decide (c.toNat ≤ 90) <;> cases decide (48 ≤ c.toNat) <;> cases decide (c.toNat ≤ 57) <;> intro hk <;> simpa using hk
theorem rcommon_c [Gh] (c : UInt8) {h : Heap} {Q : Value → Heap → Prop} (hk : Q (.bool (commonB c)) h) : CallT Try.prog fn_ref46_common #[.int .u8 c.toNat] h Q := by
  refine ref46_common_s _ ?_
  simp only [ref46_common_v]
  unfold commonB at hk
  have e32 : ((c.toNat : Int) == 32) = (c.toNat == 32) := by rw [Bool.eq_iff_iff, beq_iff_eq, beq_iff_eq]; omega
  have d1 : decide ((c.toNat : Int) ≥ 97) = decide (97 ≤ c.toNat) := by rw [decide_eq_decide]; omega
  have d2 : decide ((c.toNat : Int) ≤ 122) = decide (c.toNat ≤ 122) := by rw [decide_eq_decide]; omega
  have d3 : decide ((c.toNat : Int) ≥ 65) = decide (65 ≤ c.toNat) := by rw [decide_eq_decide]; omega
  have d4 : decide ((c.toNat : Int) ≤ 90) = decide (c.toNat ≤ 90) := by rw [decide_eq_decide]; omega
  have d5 : decide ((c.toNat : Int) ≥ 48) = decide (48 ≤ c.toNat) := by rw [decide_eq_decide]; omega
  have d6 : decide ((c.toNat : Int) ≤ 57) = decide (c.toNat ≤ 57) := by rw [decide_eq_decide]; omega
  rw [d1, d2, d3, d4, d5, d6, e32]
  revert hk
  cases decide (97 ≤ c.toNat) <;> cases decide (c.toNat ≤ 122) <;> cases decide (65 ≤ c.toNat) <;> cases decide (c.toNat ≤ 90) <;> cases decide (48 ≤ c.toNat) <;> cases decide (c.toNat ≤ 57) <;> intro hk <;> simpa using hk
/-- The cells of what was seen. -/
def seenV (seen : List UInt8) : Array Value := ((List.range 256).map fun i => Value.bool (seen.contains (UInt8.ofNat i))).toArray
theorem seenV_size (seen : List UInt8) : (seenV seen).size = 256 := by simp [seenV]
theorem seenV_get (seen : List UInt8) (c : UInt8) : (seenV seen)[c.toNat]? = some (.bool (seen.contains c)) := by
  have hc := c.toNat_lt
  unfold seenV
  rw [List.getElem?_toArray, List.getElem?_map, List.getElem?_range (by omega)]
  simp
theorem seenV_set (seen : List UInt8) (c : UInt8) : (seenV seen).setIfInBounds c.toNat (.bool true) = seenV (c :: seen) := by
  have hc := c.toNat_lt
  apply Array.ext_getElem?
  intro i
  rw [Array.getElem?_setIfInBounds]
  unfold seenV
  rw [List.getElem?_toArray, List.getElem?_map, List.getElem?_toArray, List.getElem?_map]
  by_cases hi : i < 256
  · rw [List.getElem?_range hi]
    by_cases e : c.toNat = i
    · subst e; simp [hc]
    · rw [if_neg e]
      have : (UInt8.ofNat i == c) = false := by
        rw [beq_eq_false_iff_ne]
        intro h; apply e; rw [← h]; simp; omega
      simp only [Option.map_some, List.contains_cons, this, Bool.false_or]
  · rw [List.getElem?_eq_none (by simp; omega), if_neg (by omega)]; rfl
def scoreGo : List UInt8 → List UInt8 → Int → Int
  | [], _, n => n
  | c :: r, seen, n => scoreGo r (c :: seen) (n + (if seen.contains c then 0 else 16) - (if commonB c then 8 else 0))
def scoreL (s : List UInt8) : Int := if s = [] then 0 else if 1 > scoreGo s [] s.length then 1 else scoreGo s [] s.length
theorem scoreGo_le : ∀ (l seen : List UInt8) (n : Int), n - 8 * l.length ≤ scoreGo l seen n ∧ scoreGo l seen n ≤ n + 16 * l.length
  | [], _, n => by simp [scoreGo]
  | c :: r, seen, n => by
    have h1 : 0 ≤ (if seen.contains c then (0 : Int) else 16) ∧ (if seen.contains c then (0 : Int) else 16) ≤ 16 := by split <;> omega
    have h2 : 0 ≤ (if commonB c then (8 : Int) else 0) ∧ (if commonB c then (8 : Int) else 0) ≤ 8 := by split <;> omega
    have := scoreGo_le r (c :: seen) (n + (if seen.contains c then 0 else 16) - (if commonB c then 8 else 0))
    rw [scoreGo, List.length_cons]
    omega
theorem scoreL_bd (s : List UInt8) (hs : s.length < 2 ^ 40) : 0 ≤ scoreL s ∧ scoreL s < 2 ^ 50 := by
  have := scoreGo_le s [] s.length
  unfold scoreL
  split
  · omega
  · split <;> omega
/-- The cells of 'seen' at a slice's or an array's head. -/
theorem seen_at {h : Heap} {a : Addr} {T : TypeId} {seen : List UInt8} (o : Own h a (seenV seen).toList T) (c : UInt8) : hcell h (a.add ((c.toNat : Int).toNat * 1)) = some (.bool (seen.contains c)) := by
  rw [Int.toNat_natCast, Nat.mul_one]
  refine o.cells.at ?_
  have := seenV_get seen c
  simpa using this
theorem seenV_nil : (seenV []).toList = List.replicate 256 (Value.bool false) := by
  unfold seenV
  simp only [List.contains_nil]
  rw [List.map_const']; simp
theorem seen_set (seen : List UInt8) (c : UInt8) : (seenV seen).toList.set c.toNat (.bool true) = (seenV (c :: seen)).toList := by
  rw [← seenV_set]; simp
theorem scoreGo_drop (s seen : List UInt8) (n : Int) (k : Nat) (hk : k < s.length) : scoreGo (s.drop k) seen n = scoreGo (s.drop (k + 1)) (s.getD k 0 :: seen) (n + (if seen.contains (s.getD k 0) then 0 else 16) - (if commonB (s.getD k 0) then 8 else 0)) := by
  rw [List.drop_eq_getElem_cons hk, scoreGo]
  rw [List.getD_eq_getElem?_getD, List.getElem?_eq_getElem hk]; rfl
theorem scoreGo_seen (s : List UInt8) : ∀ (seen seen' : List UInt8) (n : Int), (∀ c, seen.contains c = seen'.contains c) → scoreGo s seen n = scoreGo s seen' n := by
  induction s with
  | nil => intro _ _ _ _; rfl
  | cons c r ih =>
    intro seen seen' n h
    rw [scoreGo, scoreGo, h c]
    exact ih _ _ _ (fun x => by simp only [List.contains_cons, h x])
theorem seenV_again {seen : List UInt8} {c : UInt8} (h : seen.contains c = true) : seenV (c :: seen) = seenV seen := by
  unfold seenV
  congr 1
  apply List.map_congr_left
  intro i _
  rw [List.contains_cons]
  by_cases e : UInt8.ofNat i = c
  · rw [e, h]; simp
  · have : (UInt8.ofNat i == c) = false := by simpa using e
    rw [this, Bool.false_or]
theorem Score_c [Gh] (s : List UInt8) (hs : s.length < 2 ^ 40) {h : Heap} {Q : Value → Heap → Prop} (hk : ∀ h', Fr (fun _ => False) h h' → Q (.int .i64 (scoreL s)) h') :
    CallT Try.prog fn_fastpattern_Score #[.string (bs s)] h Q := by
  refine fastpattern_Score_s _ ?_
  unfold fastpattern_Score_v
  refine ifS0 (fun e => ?_) (fun e => ?_)
  · subst e; exact hk _ (Fr.refl _ _)
  refine al_mk fun a h1 f1 ha o1 => ?_
  have o1 : Own h1 a (List.replicate 256 (Value.bool false)) T_256_bool := eqMp (by as_aux_lemma => kernel_rfl) o1
  rw [bs_size]
  rw [← seenV_nil] at o1
  refine LoopV.mk (fun st h' => ∃ (k : Nat) (seen : List UInt8), st.2 = k ∧ k ≤ s.length ∧ Fr (fun _ => False) h h' ∧ Own h' a (seenV seen).toList T_256_bool ∧ scoreGo (s.drop k) seen st.1 = scoreGo s [] s.length ∧ st.1 ≤ s.length + 16 * k ∧ (s.length : Int) - 8 * k ≤ st.1) (fun st _ => s.length - st.2.toNat)
    ⟨0, [], rfl, by omega, f1, o1, rfl, by simp, by simp⟩ ?_
  rintro ⟨n, i⟩ h2 ⟨k, seen, hi, hkl, f2, o2, hg, hn1, hn2⟩
  simp only at hi hg hn1 hn2
  subst hi
  unfold fastpattern_Score_l1
  refine ifD (fun hlt => ?_) (fun hge => ?_)
  · have hks : k < s.length := by omega
    have hc := (s.getD k 0).toNat_lt
    refine idxS_bs _ _ _ (by omega) (by omega) ?_
    rw [Int.toNat_natCast]
    refine ⟨by omega, by omega, ldB_mk (seen_at o2 _) ?_⟩
    have rest : ∀ (n' : Int) (h3 : Heap), Fr (fun _ => False) h h3 → Own h3 a (seenV (s.getD k 0 :: seen)).toList T_256_bool → n' = n + (if seen.contains (s.getD k 0) then 0 else 16) →
        fastpattern_Score_b2 (bs s) a n' k s.length k Q (fun s' h' => (∃ (k : Nat) (seen : List UInt8), s'.2 = k ∧ k ≤ s.length ∧ Fr (fun _ => False) h h' ∧ Own h' a (seenV seen).toList T_256_bool ∧ scoreGo (s.drop k) seen s'.1 = scoreGo s [] s.length ∧ s'.1 ≤ s.length + 16 * k ∧ (s.length : Int) - 8 * k ≤ s'.1) ∧ s.length - s'.2.toNat < s.length - ((k : Int)).toNat) h3 := by
      intro n' h3 f3 o3 en
      unfold fastpattern_Score_b2
      refine idxS_bs _ _ _ (by omega) (by omega) ?_
      rw [Int.toNat_natCast]
      refine common_c _ ⟨_, rfl, ?_⟩
      have hb : (if seen.contains (s.getD k 0) then (0 : Int) else 16) ≤ 16 ∧ 0 ≤ (if seen.contains (s.getD k 0) then (0 : Int) else 16) := by split <;> omega
      rw [scoreGo_drop s seen n k hks, ← en] at hg
      rw [wr (x := (k : Int) + 1) (by omega) (by omega)]
      refine ifB (fun hcm => ?_) (fun hcm => ?_)
      · rw [wr (by omega) (by omega)]
        rw [hcm, if_pos rfl] at hg
        exact ⟨⟨k + 1, _, by simp, by omega, f3, o3, hg, by simp only; omega, by simp only; omega⟩, by simp only; omega⟩
      · rw [hcm, if_neg (by simp), Int.sub_zero] at hg
        exact ⟨⟨k + 1, _, by simp, by omega, f3, o3, hg, by simp only; omega, by simp only; omega⟩, by simp only; omega⟩
    refine ifN (fun hs0 => ?_) (fun hs1 => ?_)
    · refine idxS_bs _ _ _ (by omega) (by omega) ?_
      rw [Int.toNat_natCast]
      refine ⟨by omega, by omega, ?_⟩
      rw [Int.toNat_natCast, Nat.mul_one]
      refine st1_own o2 _ (by rw [Array.length_toList, seenV_size]; omega) rfl fun h3 f3 _ o3 => ?_
      rw [seen_set] at o3
      rw [wr (by omega) (by omega)]
      have hab := ha
      refine rest _ h3 (f2.tr f3 (fun x hx e => ?_)) o3 (by rw [hs0]; simp)
      subst e; rw [ha] at hx; exact absurd hx (Nat.lt_irrefl _)
    · refine rest _ h2 f2 (by rw [seenV_again hs1]; exact o2) (by rw [hs1]; simp)
  · have : k = s.length := by omega
    subst this
    unfold fastpattern_Score_b3
    rw [List.drop_length] at hg
    have : scoreL s = (if (1 : Int) > n then (1 : Int) else n) := by
      unfold scoreL
      rw [if_neg e, ← hg]; rfl
    rw [← this]
    exact hk _ f2
end Go.Proofs.Ytjelnknmjhceiaa
