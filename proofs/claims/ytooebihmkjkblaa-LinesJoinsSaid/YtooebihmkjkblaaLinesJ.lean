/-
  The law LinesJoins.
-/
import Derived.Test.YtooebihmkjkblaaLinesI
namespace Go.Proofs.Ytooebihmkjkblaa
set_option linter.unusedSimpArgs false
set_option linter.unusedVariables false
open Go
/-- A slice of strings. -/
def RdS (h : Heap) (r : Option Addr) (ls : List (List UInt8)) : Prop := ∀ i (hi : i < ls.length), ∃ ad, r = some ad ∧ hcell h (ad.add (i * 1)) = some (.string (bs ls[i]))
theorem RdS.fr {h h' : Heap} {r : Option Addr} {ls : List (List UInt8)} (hr : RdS h r ls) (f : Fr (fun _ => False) h h') : RdS h' r ls := fun i hi => by
  obtain ⟨ad, h1, h2⟩ := hr i hi
  exact ⟨ad, h1, f.hcell h2⟩
def endL (r : Bool) : List UInt8 := if r then [13, 10] else [10]
def joinL (r : Bool) (ls : List (List UInt8)) : List UInt8 := ls.flatMap fun l => l ++ endL r
theorem joinL_snoc (r : Bool) (ls : List (List UInt8)) (l : List UInt8) : joinL r (ls ++ [l]) = joinL r ls ++ (l ++ endL r) := by simp [joinL]
def Plain (l : List UInt8) : Prop := l.length ≤ 200 ∧ ∀ c ∈ l, c ≠ 10 ∧ c ≠ 13
theorem bareL_plain {l : List UInt8} (h : Plain l) : bareL l = l := by
  unfold bareL; rw [if_neg]
  intro hl
  exact (h.2 13 (List.mem_of_getLast? hl)).2 rfl
theorem bareL_ret (l : List UInt8) : bareL (l ++ [13]) = l := by
  unfold bareL; rw [if_pos (by simp)]; simp
theorem lineL_plain {l : List UInt8} (h : Plain l) : lineL 200 l = (l, false) := by
  unfold lineL
  have h1 := h.1
  rw [List.take_of_length_le h1]
  congr 1
  simpa using h1
theorem feedL_join (r : Bool) : ∀ (ls : List (List UInt8)), (∀ l ∈ ls, Plain l) → feedL 200 [] (joinL r ls) = (ls.map fun l => (l, false), [])
  | [], _ => rfl
  | l :: ls, h => by
    have hp := h l (by simp)
    have ih := feedL_join r ls fun x hx => h x (by simp [hx])
    cases r
    · have e : joinL false (l :: ls) = l ++ 10 :: joinL false ls := by simp [joinL, endL]
      rw [e, feedL_some 200 _ l [] fun c hc => (hp.2 c hc).1, ih, List.nil_append, bareL_plain hp, lineL_plain hp]; rfl
    · have e : joinL true (l :: ls) = (l ++ [13]) ++ 10 :: joinL true ls := by simp [joinL, endL]
      rw [e, feedL_some 200 _ (l ++ [13]) [] fun c hc => ?_, ih, List.nil_append, bareL_ret, lineL_plain hp]; rfl
      rcases List.mem_append.1 hc with hc | hc
      · exact (hp.2 c hc).1
      · rw [List.mem_singleton.1 hc]; decide
theorem splitL_join (r : Bool) (ls : List (List UInt8)) (h : ∀ l ∈ ls, Plain l) : splitL 200 (joinL r ls) = ls.map fun l => (l, false) := by
  unfold splitL; rw [feedL_join r ls h]; simp [closeL]
theorem joinL_len (r : Bool) : ∀ (ls : List (List UInt8)), (∀ l ∈ ls, Plain l) → (joinL r ls).length ≤ ls.length * 202
  | [], _ => by simp [joinL]
  | l :: ls, h => by
    have hp := (h l (by simp)).1
    have ih := joinL_len r ls fun x hx => h x (by simp [hx])
    have he : (endL r).length ≤ 2 := by cases r <;> simp [endL]
    have e : joinL r (l :: ls) = l ++ endL r ++ joinL r ls := by simp [joinL]
    rw [e]; simp; omega
theorem LinesJoins_c [Gh] {h : Heap} (ls : List (List UInt8)) (ret : Bool) {la : Option Addr} {lc : Nat} (hR : RdS h la ls) {Q : Value → Heap → Prop}
    (hk : ∀ h', Fr (fun _ => False) h h' → Q (.bool true) h') :
    CallT Try.prog fn_law25_LinesJoins #[.slice la ls.length lc, .bool ret] h Q := by
  refine law25_LinesJoins_s _ _ _ _ ?_
  simp only [law25_LinesJoins_b3, law25_LinesJoins_b26, law25_LinesJoins_b6, law25_LinesJoins_b5, law25_LinesJoins_b4, law25_LinesJoins_b2, law25_LinesJoins_b1, law25_LinesJoins_v]
  have wake : ∀ h1, Fr (fun _ => False) h h1 → CallT Try.prog fn_law25_awake #[] h1 fun v h2 => ∃ t : Bool, v = Value.bool t ∧ Q (Value.bool t) h2 :=
    fun h1 f1 => awake_c fun h3 f3 => ⟨_, rfl, hk _ (f1.trans f3)⟩
  by_cases h1 : ls.length > 40
  · rw [if_pos (by rw [decide_eq_true_eq]; omega)]
    exact wake h (Fr.refl _ _)
  rw [if_neg (by rw [decide_eq_true_eq]; omega)]
  refine LoopV.mk (fun s h' => ∃ k : Nat, k ≤ ls.length ∧ s.1 = bs (joinL ret (ls.take k)) ∧ OwnC h' s.2.1 s.2.2.2.1 2 (linesV ((ls.take k).map fun l => (l, false))) ∧ s.2.2.1 = k ∧ k ≤ s.2.2.2.1 ∧ s.2.2.2.2 = k ∧
      (∀ l ∈ ls.take k, Plain l) ∧ Fr (fun _ => False) h h' ∧ ∀ x, InA s.2.1 x → h.size ≤ x) (fun s _ => ls.length - s.2.2.2.2.toNat)
    ⟨0, by omega, rfl, ⟨rfl, rfl⟩, rfl, by omega, rfl, by simp, Fr.refl _ _, fun x hx => (notInA hx).elim⟩ ?_
  rintro ⟨s, wa, wn, wc, i⟩ h2 ⟨k, hkn, hs, ho, hwn, hwc, hi, hpl, hf, hnew⟩
  simp only at hs ho hwn hwc hi hnew
  subst hs hwn hi
  simp only [law25_LinesJoins_b11, law25_LinesJoins_b25, law25_LinesJoins_b24, law25_LinesJoins_b23, law25_LinesJoins_b22, law25_LinesJoins_b21, law25_LinesJoins_b20, law25_LinesJoins_b13, law25_LinesJoins_b12, law25_LinesJoins_b10, law25_LinesJoins_b9, law25_LinesJoins_b8, law25_LinesJoins_l7]
  have hjl := joinL_len ret _ hpl
  rw [List.length_take] at hjl
  by_cases hk' : wn < ls.length
  · rw [if_pos (by rw [decide_eq_true_eq]; omega)]
    obtain ⟨ad, rfl, g1⟩ := (hR.fr hf) wn hk'
    refine ⟨by omega, by omega, ldS_mk (by rw [Int.toNat_natCast]; exact g1) ?_⟩
    by_cases hl : ls[wn].length > 200
    · rw [if_pos (by rw [bs_size, decide_eq_true_eq]; omega)]
      exact wake h2 hf
    rw [if_neg (by rw [bs_size, decide_eq_true_eq]; omega)]
    refine LoopV.mk (fun j h' => h' = h2 ∧ ∃ m : Nat, j = m ∧ m ≤ ls[wn].length ∧ ∀ c ∈ ls[wn].take m, c ≠ 10 ∧ c ≠ 13) (fun j _ => ls[wn].length - j.toNat) ⟨rfl, 0, rfl, by omega, by simp⟩ ?_
    rintro j h' ⟨rfl, m, rfl, hml, hmc⟩
    simp only [law25_LinesJoins_b18, law25_LinesJoins_b19, law25_LinesJoins_b17, law25_LinesJoins_b16, law25_LinesJoins_b15, law25_LinesJoins_l14, law25_LinesJoins_b20, law25_LinesJoins_b21, law25_LinesJoins_b22, law25_LinesJoins_b23, law25_LinesJoins_b24, law25_LinesJoins_b25]
    refine ⟨by omega, by omega, ldS_mk (by rw [Int.toNat_natCast]; exact g1) ?_⟩
    by_cases hm : m < ls[wn].length
    · rw [if_pos (by rw [bs_size, decide_eq_true_eq]; omega)]
      refine ⟨by omega, by omega, ldS_mk (by rw [Int.toNat_natCast]; exact g1) ?_⟩
      refine idxS_bs _ _ _ (by omega) (by omega) ?_
      have eg : ls[wn].getD (m : Int).toNat 0 = ls[wn][m] := by rw [Int.toNat_natCast, List.getD_eq_getElem?_getD, List.getElem?_eq_getElem hm, Option.getD_some]
      rw [eg]
      by_cases c10 : ls[wn][m] = 10
      · rw [if_pos (by rw [c10]; rfl)]
        exact wake h' hf
      rw [if_neg (by rw [beq_iff_eq]; intro hh; exact c10 (UInt8.toNat_inj.1 (by show _ = 10; omega)))]
      refine ⟨by omega, by omega, ldS_mk (by rw [Int.toNat_natCast]; exact g1) ?_⟩
      refine idxS_bs _ _ _ (by omega) (by omega) ?_
      rw [eg]
      by_cases c13 : ls[wn][m] = 13
      · rw [if_pos (by rw [c13]; rfl)]
        exact wake h' hf
      rw [if_neg (by rw [beq_iff_eq]; intro hh; exact c13 (UInt8.toNat_inj.1 (by show _ = 13; omega))), wr (by omega) (by omega)]
      refine ⟨⟨trivial, m + 1, by omega, by omega, fun c hc => ?_⟩, by omega⟩
      rw [List.take_succ_eq_append_getElem hm] at hc
      rcases List.mem_append.1 hc with hc | hc
      · exact hmc c hc
      · rw [List.mem_singleton.1 hc]; exact ⟨c10, c13⟩
    · rw [if_neg (by rw [bs_size, decide_eq_true_eq]; omega)]
      have hplain : Plain ls[wn] := ⟨by omega, fun c hc => hmc c (by rw [List.take_of_length_le (by omega)]; exact hc)⟩
      have hpl' : ∀ l ∈ ls.take (wn + 1), Plain l := fun l hl => by
        rw [List.take_succ_eq_append_getElem hk'] at hl
        rcases List.mem_append.1 hl with hl | hl
        · exact hpl l hl
        · rw [List.mem_singleton.1 hl]; exact hplain
      refine ⟨by omega, by omega, ldS_mk (by rw [Int.toNat_natCast]; exact g1) ?_⟩
      refine ⟨by rw [bs_size, bs_size, imax]; omega, ?_⟩
      rw [bs_append]
      have fin : ∀ t : ByteArray, t = bs (joinL ret (ls.take wn) ++ (ls[wn] ++ endL ret)) →
          idxA wn ls.length (nn (some ad) fun t66 => ldS h' (Addr.add t66 ((wn : Int).toNat * 1)) fun t67 => alV h' (.cells #[Value.string t67, Value.bool false] 38) fun t69 h4 => bltV Try.prog .append #[31, 31] 31 #[false, false] #[Value.slice wa wn wc, Value.slice (some t69) 1 1] h4 fun v h5 => ∃ t70a : Option Addr, ∃ t70n : Nat, ∃ t70c : Nat, v = Value.slice t70a t70n t70c ∧
            ((∃ k : Nat, k ≤ ls.length ∧ t = bs (joinL ret (ls.take k)) ∧ OwnC h5 t70a t70c 2 (linesV ((ls.take k).map fun l => (l, false))) ∧ t70n = k ∧ k ≤ t70c ∧ IntKind.wrap .i64 ((wn : Int) + 1) = k ∧
              (∀ l ∈ ls.take k, Plain l) ∧ Fr (fun _ => False) h h5 ∧ ∀ x, InA t70a x → h.size ≤ x) ∧ ls.length - (IntKind.wrap .i64 ((wn : Int) + 1)).toNat < ls.length - (wn : Int).toNat)) := by
        intro t ht
        refine ⟨by omega, by omega, ldS_mk (by rw [Int.toNat_natCast]; exact g1) ?_⟩
        have fp := Fr.push (fun _ => False) h' (.cells #[Value.string (bs ls[wn]), Value.bool false] 38 (0, 0))
        refine append_own t31 (xT := 31) (d := .slice 38) rfl (by simp) (m := 1) (xs := linesV [(ls[wn], false)]) (ho.fr fp fun _ _ => id) (by rw [linesV_len, List.length_map, List.length_take, Nat.min_eq_left (by omega)]; rfl) hwc (.sl _ _ _ _ rfl ?_) (linesV_cellV _) ?_ ?_
        · intro j hj
          rw [add_mk, hcell_blk get_push_self, Nat.zero_add]
          match j, hj with
          | 0, _ => rfl
          | 1, _ => rfl
        · show _ * 24 ≤ _
          omega
        · intro r4 c4 h4 hown4 hc4 f4 hn4
          have ft : ls.take (wn + 1) = ls.take wn ++ [ls[wn]] := List.take_succ_eq_append_getElem hk'
          refine ⟨_, _, _, rfl, ⟨wn + 1, by omega, ?_, ?_, rfl, hc4, wr (by omega) (by omega), hpl', ?_, ?_⟩, ?_⟩
          · rw [ht, ft, joinL_snoc]
          · rw [ft, List.map_append, linesV_append]; exact hown4
          · exact (hf.trans fp).tr f4 fun x hx hx2 => by have := hnew x hx2; omega
          · intro x hx
            rcases hn4 x hx with hx | hx
            · exact hnew x hx
            · have := (hf.trans fp).size; omega
          · rw [wr (by omega) (by omega)]; omega
      cases ret with
      | true =>
        rw [if_pos rfl]
        refine ⟨by rw [bs_size, List.length_append, imax]; show ((_ + 1 : Nat) : Int) ≤ _; omega, ?_⟩
        show _ ≤ _ ∧ _
        refine ⟨?_, ?_⟩
        · have : (bs (joinL true (ls.take wn) ++ ls[wn]) ++ (⟨#[13]⟩ : ByteArray)) = bs (joinL true (ls.take wn) ++ ls[wn] ++ [13]) := bs_append _ [13]
          rw [this, bs_size, List.length_append, List.length_append, imax]
          show ((_ + 1 : Nat) : Int) ≤ _
          simp only [List.length_cons, List.length_nil]
          omega
        · refine fin _ ?_
          have e1 : (bs (joinL true (ls.take wn) ++ ls[wn]) ++ (⟨#[13]⟩ : ByteArray)) = bs (joinL true (ls.take wn) ++ ls[wn] ++ [13]) := bs_append _ [13]
          rw [e1]
          exact (bs_append _ [10]).trans (by simp [endL])
      | false =>
        rw [if_neg (by simp)]
        refine ⟨by rw [bs_size, List.length_append, imax]; show ((_ + 1 : Nat) : Int) ≤ _; omega, ?_⟩
        refine fin _ ?_
        exact (bs_append _ [10]).trans (by simp [endL])
  · rw [if_neg (by rw [decide_eq_true_eq]; omega)]
    have e : ls.take wn = ls := List.take_of_length_le (by omega)
    rw [e] at ho hpl hjl ⊢
    refine Split_c 200 _ (by omega) fun h3 r3 c3 f3 ho3 hc3 hr3 => ⟨_, _, _, rfl, ?_⟩
    have em : (clampI 200).toNat = 200 := rfl
    rw [em] at ho3
    rw [em]
    have es := splitL_join ret ls hpl
    have hw : Rd h3 wa (ls.map fun l => (l, false)) := ho.rd.fr f3
    have hlen : wn = (ls.map fun l => (l, false)).length := by rw [List.length_map]; omega
    rw [hlen]
    refine Same_c ho3.rd hw (by rw [es, List.length_map]; omega) ⟨_, rfl, ?_⟩
    rw [if_pos (by rw [decide_eq_true_eq]; exact es)]
    exact wake h3 (hf.trans f3)
end Go.Proofs.Ytooebihmkjkblaa
