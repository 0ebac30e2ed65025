/-
  The law LinesSplit.
-/
import Derived.Test.YtooebihmkjkblaaLinesH
namespace Go.Proofs.Ytooebihmkjkblaa
set_option linter.unusedSimpArgs false
set_option linter.unusedVariables false
open Go
theorem feedL_append (mx : Nat) : ∀ (x y B : List UInt8), feedL mx B (x ++ y) = ((feedL mx B x).1 ++ (feedL mx (feedL mx B x).2 y).1, (feedL mx (feedL mx B x).2 y).2)
  | [], y, B => by simp [feedL]
  | c :: x, y, B => by
    by_cases hc : c = 10
    · simp only [List.cons_append, feedL, if_pos hc, feedL_append mx x y []]
    · simp only [List.cons_append, feedL, if_neg hc, feedL_append mx x y (B ++ [c])]
theorem notInA {x : Nat} : ¬ InA none x := by
  rintro ⟨_, h, _⟩; cases h
theorem ldS_mk {h : Heap} {a : Addr} {s : ByteArray} {K : ByteArray → Prop} (hc : hcell h a = some (.string s)) (hk : K s) : ldS h a K := ⟨s, hc, hk⟩
theorem ldI_mk {h : Heap} {a : Addr} {k : IntKind} {n : Int} {K : Int → Prop} (hc : hcell h a = some (.int k n)) (hk : K n) : ldI h a k K := ⟨n, hc, hk⟩
/-- A line that a splitter may give. -/
def Fine (mx : Nat) (x : List UInt8 × Bool) : Prop := x.1.length ≤ mx ∧ ∀ c ∈ x.1, c ≠ 10
theorem bareL_mem {l : List UInt8} {c : UInt8} (h : c ∈ bareL l) : c ∈ l := by
  unfold bareL at h; split at h
  · exact List.dropLast_subset _ h
  · exact h
theorem lineL_fine (mx : Nat) {B : List UInt8} (h : ∀ c ∈ B, c ≠ 10) : Fine mx (lineL mx B) :=
  ⟨by simp [lineL]; omega, fun c hc => h c (List.take_subset _ _ hc)⟩
theorem feedL_fine (mx : Nat) : ∀ (l B : List UInt8), (∀ c ∈ B, c ≠ 10) → (∀ x ∈ (feedL mx B l).1, Fine mx x) ∧ ∀ c ∈ (feedL mx B l).2, c ≠ 10
  | [], B, h => by simpa [feedL] using h
  | c :: l, B, h => by
    unfold feedL
    split
    · have := feedL_fine mx l [] (by simp)
      refine ⟨fun x hx => ?_, this.2⟩
      rcases List.mem_cons.1 hx with rfl | hx
      · exact lineL_fine mx fun c hc => h c (bareL_mem hc)
      · exact this.1 x hx
    · next hc =>
      exact feedL_fine mx l _ fun d hd => by
        rcases List.mem_append.1 hd with hd | hd
        · exact h d hd
        · rw [List.mem_singleton.1 hd]; exact hc
theorem splitL_fine (mx : Nat) (l : List UInt8) : ∀ x ∈ splitL mx l, Fine mx x := by
  have := feedL_fine mx l [] (by simp)
  intro x hx
  unfold splitL at hx
  rcases List.mem_append.1 hx with hx | hx
  · exact this.1 x hx
  · unfold closeL at hx
    split at hx
    · simp at hx
    · rw [List.mem_singleton.1 hx]; exact lineL_fine mx this.2
/-- A slice of n cells that are bytes. -/
def RdU8 (h : Heap) (r : Option Addr) (n : Nat) : Prop := ∀ i < n, ∃ ad v, r = some ad ∧ hcell h (ad.add (i * 1)) = some (.int .u8 v) ∧ 0 ≤ v ∧ v ≤ 255
theorem RdU8.fr {h h' : Heap} {r : Option Addr} {n : Nat} (hr : RdU8 h r n) (f : Fr (fun _ => False) h h') : RdU8 h' r n := fun i hi => by
  obtain ⟨ad, v, h1, h2, h3⟩ := hr i hi
  exact ⟨ad, v, h1, f.hcell h2, h3⟩
theorem clampI_le (m : Int) : (clampI m).toNat ≤ 512 ∧ (1 ≤ m → ((clampI m).toNat : Int) ≤ m) := by
  unfold clampI; split
  · exact ⟨by omega, by omega⟩
  · split <;> exact ⟨by omega, by omega⟩
theorem split_tail [Gh] {h : Heap} (l : List UInt8) (mx : Int) {ga : Option Addr} {gc : Nat} (hsm : l.length ≤ 2000) (hR : Rd h ga (splitL (clampI mx).toNat l)) {Q : Value → Heap → Prop}
    (hk : ∀ h', Fr (fun _ => False) h h' → Q (.bool true) h') :
    law25_LinesSplit_b21 (bs l) mx ga (splitL (clampI mx).toNat l).length gc Q h := by
  have hfine := splitL_fine (clampI mx).toNat l
  have hcl := clampI_le mx
  have hlen : (splitL (clampI mx).toNat l).length ≤ 2001 := by
    unfold splitL
    have := feedL_len (clampI mx).toNat l []
    have := closeL_len (clampI mx).toNat (feedL (clampI mx).toNat [] l).2
    rw [List.length_append]; omega
  generalize hS : splitL (clampI mx).toNat l = S at *
  simp only [law25_LinesSplit_b3, law25_LinesSplit_b6, law25_LinesSplit_b35, law25_LinesSplit_b21, law25_LinesSplit_b20, law25_LinesSplit_b19, law25_LinesSplit_b9, law25_LinesSplit_b8, law25_LinesSplit_b7, law25_LinesSplit_b5, law25_LinesSplit_b4, law25_LinesSplit_b2, law25_LinesSplit_b1, law25_LinesSplit_v]
  refine LoopV.mk (fun i h' => h' = h ∧ ∃ k : Nat, i = k ∧ k ≤ S.length) (fun i _ => S.length - i.toNat) ⟨rfl, 0, rfl, by omega⟩ ?_
  rintro i h' ⟨rfl, k, rfl, hkl⟩
  simp only [law25_LinesSplit_b26, law25_LinesSplit_b34, law25_LinesSplit_b27, law25_LinesSplit_b25, law25_LinesSplit_b24, law25_LinesSplit_b23, law25_LinesSplit_l22]
  by_cases hk' : k < S.length
  · rw [if_pos (by simp; omega)]
    obtain ⟨a1, rfl, g1, g2⟩ := hR.get hk'
    obtain ⟨hf1, hf2⟩ := hfine _ (List.getElem_mem hk')
    refine ⟨by omega, by omega, ldS_mk (by rw [Int.toNat_natCast]; exact g1) ?_⟩
    rw [if_neg (by rw [bs_size, decide_eq_true_eq]; omega)]
    have inner : law25_LinesSplit_b27 (bs l) mx (some a1) S.length gc k Q (fun s' h'' => (h'' = h' ∧ ∃ k, s' = ((k : Nat) : Int) ∧ k ≤ S.length) ∧ S.length - s'.toNat < S.length - (k : Int).toNat) h' := by
      simp only [law25_LinesSplit_b26, law25_LinesSplit_b34, law25_LinesSplit_b27, law25_LinesSplit_b25, law25_LinesSplit_b24, law25_LinesSplit_b23, law25_LinesSplit_l22]
      refine LoopV.mk (fun i h'' => h'' = h' ∧ ∃ j : Nat, i = j ∧ j ≤ S[k].1.length) (fun i _ => S[k].1.length - i.toNat) ⟨rfl, 0, rfl, by omega⟩ ?_
      rintro i h'' ⟨rfl, j, rfl, hjl⟩
      simp only [law25_LinesSplit_b32, law25_LinesSplit_b33, law25_LinesSplit_b31, law25_LinesSplit_b30, law25_LinesSplit_b29, law25_LinesSplit_l28, law25_LinesSplit_b34]
      refine ⟨by omega, by omega, ldS_mk (by rw [Int.toNat_natCast]; exact g1) ?_⟩
      by_cases hj : j < S[k].1.length
      · rw [if_pos (by rw [bs_size, decide_eq_true_eq]; omega)]
        refine ⟨by omega, by omega, ldS_mk (by rw [Int.toNat_natCast]; exact g1) ?_⟩
        refine idxS_bs _ _ _ (by omega) (by omega) ?_
        have hne := hf2 _ (List.getElem_mem hj)
        have e : (((S[k].1.getD (j : Int).toNat 0).toNat : Int) == 10) = false := by
          rw [Int.toNat_natCast, List.getD_eq_getElem?_getD, List.getElem?_eq_getElem hj, Option.getD_some, Bool.eq_false_iff, Ne, beq_iff_eq]
          intro hh
          exact hne (UInt8.toNat_inj.1 (by show _ = 10; omega))
        rw [if_neg (by rw [e]; simp), wr (by omega) (by omega)]
        exact ⟨⟨trivial, j + 1, by omega, by omega⟩, by omega⟩
      · rw [if_neg (by rw [bs_size, decide_eq_true_eq]; omega), wr (by omega) (by omega)]
        exact ⟨⟨trivial, k + 1, by omega, by omega⟩, by omega⟩
    by_cases hm1 : mx ≥ 1
    · rw [if_pos (by simpa using hm1)]
      refine ⟨by omega, by omega, ldS_mk (by rw [Int.toNat_natCast]; exact g1) ?_⟩
      rw [if_neg (by have := hcl.2 hm1; rw [bs_size, decide_eq_true_eq]; omega)]
      exact inner
    · rw [if_neg (by simpa using hm1)]
      exact inner
  · rw [if_neg (by simp; omega)]
    refine Split_c mx l (by omega) fun h2 r2 c2 f2 ho2 hc2 hr2 => ⟨_, _, _, rfl, ?_⟩
    rw [hS] at ho2
    rw [hS]
    refine Same_c (hR.fr f2) ho2.rd (by omega) ⟨_, rfl, ?_⟩
    rw [if_pos (by simp)]
    refine awake_c fun h3 f3 => ⟨_, rfl, hk _ (f2.trans f3)⟩
theorem LinesSplit_c [Gh] {h : Heap} (l : List UInt8) (mx : Int) {ca : Option Addr} {cn cc : Nat} (hR : RdU8 h ca cn) {Q : Value → Heap → Prop}
    (hk : ∀ h', Fr (fun _ => False) h h' → Q (.bool true) h') :
    CallT Try.prog fn_law25_LinesSplit #[.string (bs l), .int .i64 mx, .slice ca cn cc] h Q := by
  refine law25_LinesSplit_s _ _ _ _ _ ?_
  simp only [law25_LinesSplit_b3, law25_LinesSplit_b6, law25_LinesSplit_b35, law25_LinesSplit_b21, law25_LinesSplit_b20, law25_LinesSplit_b19, law25_LinesSplit_b9, law25_LinesSplit_b8, law25_LinesSplit_b7, law25_LinesSplit_b5, law25_LinesSplit_b4, law25_LinesSplit_b2, law25_LinesSplit_b1, law25_LinesSplit_v]
  by_cases h1 : l.length > 2000
  · rw [if_pos (by rw [bs_size, decide_eq_true_eq]; omega)]
    exact awake_c fun h3 f3 => ⟨_, rfl, hk _ f3⟩
  rw [if_neg (by rw [bs_size, decide_eq_true_eq]; omega)]
  by_cases h2 : cn > 60
  · rw [if_pos (by rw [decide_eq_true_eq]; omega)]
    exact awake_c fun h3 f3 => ⟨_, rfl, hk _ f3⟩
  rw [if_neg (by rw [decide_eq_true_eq]; omega)]
  refine NewS_c mx fun h1' s1 f1 hz => ⟨_, rfl, ?_⟩
  rw [if_neg (by simp)]
  generalize hmx : (clampI mx).toNat = M at *
  refine LoopV.mk (fun s h' => ∃ a B out rest, ∃ k : Nat, Acc h h' h.size a M B s.1 s.2.2.1 out ∧ s.2.1 = out.length ∧ s.2.2.2.1 = bs rest ∧ s.2.2.2.2 = k ∧ k ≤ cn ∧
      feedL M [] l = (out ++ (feedL M B rest).1, (feedL M B rest).2) ∧ out.length + rest.length ≤ 2000 ∧ B.length + rest.length ≤ 2000) (fun s _ => cn - s.2.2.2.2.toNat)
    ⟨none, [], [], l, 0, ⟨s1, ⟨rfl, rfl⟩, by simp, f1, by omega, fun x hx => (notInA hx).elim, fun x hx => (notInA hx).elim⟩, rfl, rfl, rfl, by omega, by simp, by simp; omega, by simp; omega⟩ ?_
  rintro ⟨ga, gn, gc, rs, i⟩ h2 ⟨a, B, out, rest, k, A, hgn, hrs, hi, hkc, hfe, hs1, hs2⟩
  simp only at A hgn hrs hi
  subst hgn hrs hi
  simp only [law25_LinesSplit_b18, law25_LinesSplit_b17, law25_LinesSplit_b16, law25_LinesSplit_b15, law25_LinesSplit_b14, law25_LinesSplit_b13, law25_LinesSplit_b12, law25_LinesSplit_b11, law25_LinesSplit_l10]
  by_cases hk' : k < cn
  · rw [if_pos (by rw [decide_eq_true_eq]; omega)]
    obtain ⟨ad, v, rfl, g1, gv⟩ := (hR.fr A.fr) k hk'
    refine ⟨by omega, by omega, ldI_mk (by rw [Int.toNat_natCast]; exact g1) ?_⟩
    rw [wr (by omega) (by omega), bs_size]
    have body : ∀ n : Nat, n ≤ rest.length → law25_LinesSplit_b16 (bs l) mx (some ad) cn cc (some ⟨h.size, 0, none⟩) ga out.length gc (bs rest) k n Q
        (fun s' h' => (∃ a B out rest, ∃ k : Nat, Acc h h' h.size a M B s'.1 s'.2.2.1 out ∧ s'.2.1 = out.length ∧ s'.2.2.2.1 = bs rest ∧ s'.2.2.2.2 = k ∧ k ≤ cn ∧
          feedL M [] l = (out ++ (feedL M B rest).1, (feedL M B rest).2) ∧ out.length + rest.length ≤ 2000 ∧ B.length + rest.length ≤ 2000) ∧ cn - s'.2.2.2.2.toNat < cn - (k : Int).toNat) h2 := by
      intro n hn
      simp only [law25_LinesSplit_b18, law25_LinesSplit_b17, law25_LinesSplit_b16, law25_LinesSplit_b15, law25_LinesSplit_b14, law25_LinesSplit_b13, law25_LinesSplit_b12, law25_LinesSplit_b11, law25_LinesSplit_l10]
      refine ⟨by omega, by rw [bs_size]; omega, ?_⟩
      rw [Int.toNat_natCast, bs_take]
      have htl : (rest.take n).length = n := by rw [List.length_take]; omega
      refine acc_feed A (rest.take n) (by omega) (by omega) fun h' a' ga' gc' A' => ?_
      refine ⟨by omega, by rw [bs_size]; omega, ?_⟩
      rw [Int.toNat_natCast, bs_size, bs_drop, wr (by omega) (by omega)]
      have l1 := feedL_len M (rest.take n) B
      have l2 := feedL_rest M (rest.take n) B
      refine ⟨⟨_, _, _, rest.drop n, k + 1, A', rfl, rfl, by simp, by omega, ?_, ?_, ?_⟩, ?_⟩
      · rw [hfe]
        conv => lhs; rw [← List.take_append_drop n rest, feedL_append]
        simp
      · simp; omega
      · simp; omega
      · omega
    by_cases hv : v > rest.length
    · rw [if_pos (by rw [decide_eq_true_eq]; omega)]
      exact body rest.length (by omega)
    · rw [if_neg (by rw [decide_eq_true_eq]; omega)]
      obtain ⟨n, rfl⟩ : ∃ n : Nat, v = n := ⟨v.toNat, by omega⟩
      exact body n (by omega)
  · rw [if_neg (by rw [decide_eq_true_eq]; omega)]
    refine acc_feed A rest (by omega) (by omega) fun h' a' ga' gc' A' => ?_
    have l1 := feedL_len M rest B
    refine acc_close A' (by simp; omega) fun h4 ga4 gc4 o4 f4 => ?_
    have e : out ++ (feedL M B rest).1 ++ closeL M (feedL M B rest).2 = splitL M l := by
      unfold splitL; rw [hfe]
    rw [e] at o4 ⊢
    subst hmx
    exact split_tail l mx (by omega) o4.rd fun h5 f5 => hk _ (f4.trans f5)
end Go.Proofs.Ytooebihmkjkblaa
