/-
  The law LinesPlays.
-/
import Derived.Test.YtooebihmkjkblaaLinesK
namespace Go.Proofs.Ytooebihmkjkblaa
set_option linter.unusedSimpArgs false
set_option linter.unusedVariables false
open Go
/-- A slice of steps: a kind and a text each. -/
def RdStep (h : Heap) (r : Option Addr) (ls : List (Int × List UInt8)) : Prop := ∀ i (hi : i < ls.length), ∃ ad, r = some ad ∧ hcell h (ad.add (i * 2)) = some (.int .i64 ls[i].1) ∧ hcell h ((ad.add (i * 2)).add 1) = some (.string (bs ls[i].2))
theorem RdStep.fr {h h' : Heap} {r : Option Addr} {ls : List (Int × List UInt8)} (hr : RdStep h r ls) (f : Fr (fun _ => False) h h') : RdStep h' r ls := fun i hi => by
  obtain ⟨ad, h1, h2, h3⟩ := hr i hi
  exact ⟨ad, h1, f.hcell h2, f.hcell h3⟩
theorem ldS_one {h : Heap} {a : Addr} {s : ByteArray} (hc : hcell h a = some (.string s)) : ldS h a fun t => Value.string t = Value.string s := ⟨s, hc, rfl⟩
/-- The two splitters stand side by side. -/
structure Two (h0 h : Heap) (p q : Nat) (a : Option Addr) (M : Nat) (B : List UInt8) : Prop where
  s : SplS h p a M B
  r : RSpl h q M B
  fr : Fr (fun _ => False) h0 h
  np : h0.size ≤ p
  nr : h0.size ≤ q
  ne : q ≠ p
  na : ∀ x, InA a x → h0.size ≤ x ∧ x ≠ q
theorem LinesPlays_c [Gh] {h : Heap} (ls : List (Int × List UInt8)) (mx : Int) {la : Option Addr} {lc : Nat} (hR : RdStep h la ls) {Q : Value → Heap → Prop}
    (hk : ∀ h', Fr (fun _ => False) h h' → Q (.bool true) h') :
    CallT Try.prog fn_law25_LinesPlays #[.int .i64 mx, .slice la ls.length lc] h Q := by
  refine law25_LinesPlays_s _ _ _ _ ?_
  simp only [law25_LinesPlays_b3, law25_LinesPlays_b6, law25_LinesPlays_b28, law25_LinesPlays_b8, law25_LinesPlays_b7, law25_LinesPlays_b5, law25_LinesPlays_b4, law25_LinesPlays_b2, law25_LinesPlays_b1, law25_LinesPlays_v]
  have wake : ∀ h1, Fr (fun _ => False) h h1 → CallT Try.prog fn_law25_awake #[] h1 fun v h2 => ∃ t : Bool, v = Value.bool t ∧ Q (Value.bool t) h2 :=
    fun h1 f1 => awake_c fun h3 f3 => ⟨_, rfl, hk _ (f1.trans f3)⟩
  by_cases h1 : ls.length > 40
  · rw [if_pos (by rw [decide_eq_true_eq]; omega)]
    exact wake h (Fr.refl _ _)
  rw [if_neg (by rw [decide_eq_true_eq]; omega)]
  refine NewS_c mx fun h1' s1 f1 hz => ⟨_, rfl, ?_⟩
  rw [if_neg (by simp)]
  refine rNew_c mx fun h2' s2 f2 hz2 => ⟨_, rfl, ?_⟩
  generalize hmx : (clampI mx).toNat = M at *
  refine LoopV.mk (fun i h' => ∃ a B, ∃ k : Nat, i = k ∧ k ≤ ls.length ∧ Two h h' h.size h1'.size a M B ∧ B.length ≤ 700 * k) (fun i _ => ls.length - i.toNat)
    ⟨none, [], 0, rfl, by omega, ⟨s1.fr f2 fun _ _ => id, s2, f1.trans f2, by omega, by omega, by omega, fun x hx => (notInA hx).elim⟩, by simp⟩ ?_
  rintro i h2 ⟨a, B, k, rfl, hkn, T, hB⟩
  simp only [law25_LinesPlays_b13, law25_LinesPlays_b18, law25_LinesPlays_b20, law25_LinesPlays_b21, law25_LinesPlays_b19, law25_LinesPlays_b17, law25_LinesPlays_b24, law25_LinesPlays_b23, law25_LinesPlays_b27, law25_LinesPlays_b26, law25_LinesPlays_b25, law25_LinesPlays_b22, law25_LinesPlays_b16, law25_LinesPlays_b15, law25_LinesPlays_b14, law25_LinesPlays_b12, law25_LinesPlays_b11, law25_LinesPlays_b10, law25_LinesPlays_l9]
  by_cases hk' : k < ls.length
  · rw [if_pos (by rw [decide_eq_true_eq]; omega)]
    obtain ⟨ad, rfl, g1, g2⟩ := (hR.fr T.fr) k hk'
    refine ⟨by omega, by omega, ldS_mk (by rw [Int.toNat_natCast]; exact g2) ?_⟩
    by_cases hl : ls[k].2.length > 700
    · rw [if_pos (by rw [bs_size, decide_eq_true_eq]; omega)]
      exact wake h2 T.fr
    rw [if_neg (by rw [bs_size, decide_eq_true_eq]; omega)]
    have bd := T.s.bd
    -- what every round ends with
    have rest' : ∀ h3 a B, Two h h3 h.size h1'.size a M B → B.length ≤ 700 * (k + 1) →
        CallT Try.prog fn_lines_Splitter_Rest #[Value.pointer (some ⟨h.size, 0, none⟩)] h3 fun v h8 => ∃ t71 : ByteArray, v = Value.string t71 ∧ CallT Try.prog fn_ref25_Splitter_Rest #[Value.pointer (some ⟨h1'.size, 0, none⟩)] h8 fun v h9 => ∃ t73 : ByteArray, v = Value.string t73 ∧
          if (!(t71.toList == t73.toList)) = true then Q (Value.bool false) h9 else ((∃ a B, ∃ j : Nat, IntKind.wrap .i64 ((k : Int) + 1) = j ∧ j ≤ ls.length ∧ Two h h9 h.size h1'.size a M B ∧ B.length ≤ 700 * j) ∧ ls.length - (IntKind.wrap .i64 ((k : Int) + 1)).toNat < ls.length - (k : Int).toNat) := by
      intro h3 a B T3 hB3
      refine Rest_c T3.s ⟨_, rfl, ?_⟩
      refine rRest_c T3.r (by omega) fun h4 f4 => ⟨_, rfl, ?_⟩
      rw [if_neg (by simp)]
      rw [wr (by omega) (by omega)]
      exact ⟨⟨a, B, k + 1, by omega, by omega, ⟨T3.s.fr f4 fun _ _ => id, T3.r.fr f4 id, T3.fr.trans f4, T3.np, T3.nr, T3.ne, T3.na⟩, hB3⟩, by omega⟩
    refine ⟨by omega, by omega, ldI_mk (by rw [Int.toNat_natCast]; exact g1) ?_⟩
    by_cases k0 : ls[k].1 = 0
    · rw [if_pos (by rw [k0]; decide)]
      refine ⟨by omega, by omega, ldS_mk (by rw [Int.toNat_natCast]; exact g2) ?_⟩
      refine ⟨by omega, by omega, ldS_mk (by rw [Int.toNat_natCast]; exact g2) ?_⟩
      have lr := feedL_rest M ls[k].2 B
      have ll := feedL_len M ls[k].2 B
      refine Feed_c T.s ls[k].2 (by omega) fun h3 a3 r3 c3 s3 f3 ha3 ho3 hc3 hr3 => ⟨_, _, _, rfl, ?_, ?_⟩
      · have f03 : Fr (fun _ => False) h h3 := T.fr.tr f3 fun x hx hxo => by
          rcases hxo with rfl | hxo
          · omega
          · have := (T.na x hxo).1; omega
        obtain ⟨ad', e', _, g4⟩ := (hR.fr f03) k hk'
        cases e'
        rw [Int.toNat_natCast]
        exact ldS_one g4
      · have hr3' : RSpl h3 h1'.size M B := T.r.fr f3 fun hxo => by
          rcases hxo with hxo | hxo
          · exact T.ne hxo
          · exact (T.na _ hxo).2 rfl
        have f03 : Fr (fun _ => False) h h3 := T.fr.tr f3 fun x hx hxo => by
          rcases hxo with rfl | hxo
          · omega
          · have := (T.na x hxo).1; omega
        have z2 := T.fr.size
        have lt2 := T.r.lt
        refine rFeed_c hr3' ls[k].2 (by omega) fun h4 r4 c4 s4 f4 rd4 => ⟨_, _, _, rfl, ?_⟩
        have na3 : ∀ x, InA a3 x → h.size ≤ x ∧ x ≠ h1'.size := fun x hx => by
          rcases ha3 x hx with hx | hx
          · exact T.na x hx
          · omega
        have o4 : OwnC h4 r3 c3 2 (linesV (feedL M B ls[k].2).1) := ho3.fr f4 fun x hx hxe => by
          have := (hr3 x hx).1; omega
        refine Same_c o4.rd rd4 (by omega) ⟨_, rfl, ?_⟩
        rw [if_neg (by simp)]
        refine rest' h4 a3 _ ⟨s3.fr f4 fun x hx hxe => ?_, s4, f03.tr f4 fun x hx hxe => by (have := T.nr; omega), T.np, T.nr, T.ne, na3⟩ (by omega)
        rcases hx with rfl | hx
        · exact T.ne hxe.symm
        · exact (na3 x hx).2 hxe
    rw [if_neg (by simpa using k0)]
    by_cases k1 : ls[k].1 = 1
    · rw [if_pos (by rw [k1]; decide)]
      refine Close_c T.s fun h3 r3 c3 s3 f3 ho3 hc3 hr3 => ⟨_, _, _, rfl, ?_⟩
      have lc := closeL_len M B
      have lt2 := T.r.lt
      have hr3' : RSpl h3 h1'.size M B := T.r.fr f3 T.ne
      have f03 : Fr (fun _ => False) h h3 := T.fr.tr f3 fun x hx hxo => by (have := T.np; omega)
      refine rClose_c hr3' fun h4 r4 c4 s4 f4 rd4 => ⟨_, _, _, rfl, ?_⟩
      have o4 : OwnC h4 r3 c3 2 (linesV (closeL M B)) := ho3.fr f4 fun x hx hxe => by
        have := hr3 x hx; omega
      refine Same_c o4.rd rd4 (by omega) ⟨_, rfl, ?_⟩
      rw [if_neg (by simp)]
      refine rest' h4 a _ ⟨s3.fr f4 fun x hx hxe => ?_, s4, f03.tr f4 fun x hx hxe => by (have := T.nr; omega), T.np, T.nr, T.ne, T.na⟩ (by simp)
      rcases hx with rfl | hx
      · exact T.ne hxe.symm
      · exact (T.na x hx).2 hxe
    rw [if_neg (by simpa using k1)]
    by_cases k2 : ls[k].1 = 2
    · rw [if_pos (by rw [k2]; decide)]
      refine Take_c T.s fun h3 s3 f3 => ⟨_, rfl, ?_⟩
      have hr3' : RSpl h3 h1'.size M B := T.r.fr f3 T.ne
      have f03 : Fr (fun _ => False) h h3 := T.fr.tr f3 fun x hx hxo => by (have := T.np; omega)
      refine rTake_c hr3' (by omega) bd.2 fun h4 s4 f4 => ⟨_, rfl, ?_⟩
      rw [if_neg (by simp)]
      refine rest' h4 a _ ⟨s3.fr f4 fun x hx hxe => ?_, s4, f03.tr f4 fun x hx hxe => by (have := T.nr; omega), T.np, T.nr, T.ne, T.na⟩ (by simp)
      rcases hx with rfl | hx
      · exact T.ne hxe.symm
      · exact (T.na x hx).2 hxe
    rw [if_neg (by simpa using k2)]
    exact rest' h2 a B T (by omega)
  · rw [if_neg (by rw [decide_eq_true_eq]; omega)]
    exact wake h2 T.fr
end Go.Proofs.Ytooebihmkjkblaa
