/-
  What the laws ask ahead: long, lives. Runs with fuel.
-/
import Derived.Test.YtdpimhlppflidaaDoorSmJ
namespace Go.Proofs.YtdpimhlppflidaaDoor
set_option linter.unusedSimpArgs false
set_option linter.unusedVariables false
set_option maxRecDepth 20000
open Go
open Go.IntKind (wrap)
def runF : Nat → PS → PS × List Ev
  | 0, st => (st, [])
  | n + 1, st => if canC st = true then ((runF n (readC st).1).1, (readC st).2 ++ (runF n (readC st).1).2) else if canS st = true then ((runF n (readS st).1).1, (readS st).2 ++ (runF n (readS st).1).2) else (st, [])
theorem runP_fuel : ∀ (n : Nat) (st : PS), qn st ≤ n → runP st = runF n st
  | 0, st, h => by
    have h1 : ¬ canC st = true := fun hc => by have := List.length_pos_iff.2 (canC_ne hc); unfold qn at h; omega
    have h2 : ¬ canS st = true := fun hc => by have := List.length_pos_iff.2 (canS_ne hc); unfold qn at h; omega
    rw [runP_end h1 h2]; rfl
  | n + 1, st, h => by
    unfold runF
    by_cases h1 : canC st = true
    · have := List.length_pos_iff.2 (canC_ne h1)
      rw [if_pos h1, runP_C h1, runP_fuel n (readC st).1 (by unfold qn at *; rw [(readC_q st).1, (readC_q st).2, List.length_tail]; omega)]
    · rw [if_neg h1]
      by_cases h2 : canS st = true
      · have := List.length_pos_iff.2 (canS_ne h2)
        rw [if_pos h2, runP_S h1 h2, runP_fuel n (readS st).1 (by unfold qn at *; rw [(readS_q st).1, (readS_q st).2, List.length_tail]; omega)]
      · rw [if_neg h2, runP_end h1 h2]
theorem feedP_fuel (n : Nat) (st : PS) (d : Bool) (s : Nm) (h : qn (pushD st d s) ≤ n) : feedP st d s = pendD (runF n (pushD st d s)) d := by
  unfold feedP; rw [runP_fuel n _ h]
def t1 : Nm := [110, 111, 111, 112, 32, 120, 13, 10, 68, 65, 84, 65, 13, 10, 46, 97, 13, 10, 46, 13, 10]
def t2 : Nm := [50, 50, 48, 32, 104, 105, 13, 10, 50, 53, 48, 45, 97, 13, 10, 50, 53, 48, 32, 98, 13, 10, 51, 53, 52, 32, 103, 111, 13, 10]
def ev1 : List Ev := [⟨1, 1, [78, 79, 79, 80], [120]⟩, ⟨1, 1, [68, 65, 84, 65], []⟩]
def ev2 : List Ev := [⟨2, 2, [50, 50, 48], [104, 105]⟩, ⟨2, 2, [50, 53, 48], [97, 32, 98]⟩, ⟨2, 2, [51, 53, 52], [103, 111]⟩, ⟨3, 1, [], [97]⟩, ⟨4, 1, [], []⟩]
def stA : PS := ⟨⟨[([46, 97], false), ([46], false)], false, []⟩, sd0, [some [78, 79, 79, 80], some [68, 65, 84, 65]], false, false, false, [], []⟩
def stB : PS := ⟨sd0, sd0, [none], true, false, false, [51, 53, 52], []⟩
set_option maxRecDepth 100000 in
theorem live1 : feedP st0 true t1 = (stA, ev1) := by
  rw [feedP_fuel 9 _ _ _ (by decide +kernel)]
  kernel_rfl
set_option maxRecDepth 100000 in
theorem live2 : feedP stA false t2 = (stB, ev2) := by
  rw [feedP_fuel 9 _ _ _ (by decide +kernel)]
  kernel_rfl
theorem evC {h : Heap} {ad : Addr} {e : Ev} (c : Cells h ad (evV e)) : Cells h ad [.int .i64 e.Kind, .int .i64 e.Dir, .string (bs e.Name), .string (bs e.Text)] := c
theorem lives_c [Gh] {h : Heap} {Q : Value → Heap → Prop} (hk : ∀ h', Fr (fun _ => False) h h' → Q (.bool true) h') : CallT Tryd.prog fn_law30_lives #[] h Q := by
  apply law30_lives_s
  unfold law30_lives_v
  refine New_c (fun _ => 0) 100 (fun x => by constructor <;> (show (0 : Nat) ≠ _; decide)) fun p o1 h1 hO1 hn1 hr1 f1 S1 => ⟨_, rfl, ?_⟩
  refine ifNS ?_
  refine FeedT_c S1 hn1 true t1 (by decide +kernel) 0 (by omega) fun o2 h2 q1 c1 hO2 hn2 hr2 f2 S2 R2 hq1 => ⟨_, _, _, rfl, ?_⟩
  rw [live1] at S2 R2 ⊢
  refine FeedT_c S2 hn2 false t2 (by decide +kernel) 0 (by omega) fun o3 h3 q2 c2 hO3 hn3 hr3 f3 S3 R3 hq2 => ⟨_, _, _, rfl, ?_⟩
  rw [live2] at S3 R3 ⊢
  have z1 := f1.size
  have z2 := f2.size
  have z3 := f3.size
  have srge : ∀ x, SR o1 100 x → h.size ≤ x := fun x hx => by
    by_cases hlt : x < h.size
    · have : o1 x = 0 := hO1 x hlt
      unfold SR at hx; omega
    · omega
  have srge2 : ∀ x, x < h2.size → SR o2 100 x → h.size ≤ x := fun x hx hh => by
    by_cases hlt : x < h1.size
    · have := hO2 x hlt; unfold SR at hh; exact srge x (by unfold SR; omega)
    · omega
  have F3 : Fr (fun _ => False) h h3 := (f1.tr (f2) fun x hx hh => by have := srge x hh; omega).tr f3 fun x hx hh => by have := srge2 x (by omega) hh; omega
  have R23 : Row 4 evV h3 q1 c1 ev1 := R2.fr f3 fun x hx hh => by have := hq1 x hx; unfold SR at hh; omega
  have D1 := R23.rd evV_len (by omega)
  have D2 := R3.rd evV_len (by omega)
  rw [if_neg (by decide +kernel)]
  refine D1.get 0 rfl (by decide) fun ad ci => ?_
  have ci := evC ci
  refine ldI_mk (ci.at0 rfl) (ldI_mk (ci.at (j := 1) rfl) (ldS_mk (ci.at (j := 2) rfl) (ldS_mk (ci.at (j := 3) rfl) ?_)))
  rw [if_neg (by decide +kernel)]
  rw [if_neg (by decide +kernel)]
  refine D2.get 1 rfl (by decide) fun ad ci => ?_
  have ci := evC ci
  refine ldI_mk (ci.at0 rfl) (ldI_mk (ci.at (j := 1) rfl) (ldS_mk (ci.at (j := 2) rfl) (ldS_mk (ci.at (j := 3) rfl) ?_)))
  rw [if_pos (by decide +kernel)]
  refine D2.get 3 rfl (by decide) fun ad ci => ?_
  have ci := evC ci
  refine ldI_mk (ci.at0 rfl) (ldI_mk (ci.at (j := 1) rfl) (ldS_mk (ci.at (j := 2) rfl) (ldS_mk (ci.at (j := 3) rfl) ?_)))
  rw [if_pos (by decide +kernel)]
  refine D2.get 4 rfl (by decide) fun ad ci => ?_
  have ci := evC ci
  refine ldI_mk (ci.at0 rfl) (ldI_mk (ci.at (j := 1) rfl) (ldS_mk (ci.at (j := 2) rfl) (ldS_mk (ci.at (j := 3) rfl) ?_)))
  rw [if_pos (by decide +kernel)]
  refine al_mk (vs := strV [46, 97]) fun t46 h4 f4 e4 o4 => ?_
  have Rm : Row 1 strV h4 (some t46) 1 [[46, 97]] := Row.of_own strV_len (L := [[46, 97]]) o4
  refine Mail_c (Rm.rd strV_len (by omega)) (by decide) (by decide) fun h5 f5 => ⟨_, rfl, ?_⟩
  rw [if_pos (by decide +kernel)]
  have F45 : Fr (fun _ => False) h3 h5 := f4.trans f5
  refine Of_c (Rd.fr0 F45 D2) (by decide) 2 fun q c h6 f6 R6 hq6 => ⟨_, _, _, rfl, ?_⟩
  refine ifE (fun _ => ?_) fun e => absurd (by decide +kernel) e
  refine Opaque_c (S3.fr (F45.trans f6) (fun _ _ h => h.elim) (Old.refl _ _)) ⟨_, rfl, ?_⟩
  exact hk h6 ((F3.trans F45).trans f6)
/-- long reports false for few parts. -/
abbrev Part := S_intrusionlaw30_Part
abbrev PartsOk (h : Heap) (s : Sl Part) : Prop := SlOk 2 S_intrusionlaw30_Part.vals S_intrusionlaw30_Part.ok h s
def pB (l : List Part) : Nat := (l.map fun x => x.S.length).sum
theorem pB_take (l : List Part) (i : Nat) (hi : i < l.length) : pB (l.take (i + 1)) = pB (l.take i) + l[i].S.length := by
  rw [show l.take (i + 1) = l.take i ++ [l[i]] by rw [List.take_append_getElem]]
  unfold pB; rw [List.map_append, List.sum_append]; simp
theorem long_c [Gh] (l : Sl Part) (most : Nat) (hm : most ≤ 20000) {h : Heap} (o : PartsOk h l) {Q : Value → Heap → Prop} (hk : ∀ b : Bool, (b = false → l.xs.length ≤ 60 ∧ pB l.xs ≤ most) → Q (.bool b) h) :
    CallT Tryd.prog fn_law30_long #[.slice l.p l.xs.length l.cap, .int .i64 most] h Q := by
  apply law30_long_s
  unfold law30_long_v
  have hcap := o.cap
  refine LoopV.go (fun n s h' => ∃ i : Nat, s.2 = (i : Int) ∧ s.1 = ((pB (l.xs.take i) : Nat) : Int) ∧ i ≤ l.xs.length ∧ i ≤ 61 ∧ pB (l.xs.take i) ≤ i * most ∧ n = l.xs.length - i ∧ h' = h) l.xs.length ⟨0, rfl, rfl, by omega, by omega, by simp [pB], rfl, rfl⟩ ?_
  rintro n ⟨b, t⟩ h1 ⟨i, ht, hb, hi, hi61, hle, rfl, rfl⟩ Kn hK
  have ht : t = (i : Int) := ht
  have hb : b = ((pB (l.xs.take i) : Nat) : Int) := hb
  subst ht hb
  dsimp only
  unfold law30_long_l1
  have fin : (l.xs.length ≤ i ∨ 61 ≤ i) → law30_long_b2 l.p l.xs.length l.cap (most : Int) ((pB (l.xs.take i) : Nat) : Int) Q h1 := fun hh => by
    unfold law30_long_b2
    refine ifD (fun e => hk true fun h => by cases h) fun e => ?_
    refine hk _ fun hd => ?_
    have : l.xs.length ≤ i := by omega
    rw [List.take_of_length_le this] at hd
    rw [decide_eq_false_iff_not] at hd
    exact ⟨by omega, by omega⟩
  refine ifD (fun e => ?_) fun e => fin (.inl (by omega))
  refine ifD (fun e2 => ?_) fun e2 => fin (.inr (by omega))
  have hlt : i < l.xs.length := by omega
  have htk := pB_take l.xs i hlt
  refine o.rd.get i rfl hlt fun ad ci => ?_
  have ci : Cells h1 (ad.add (i * 2)) [.int .i64 l.xs[i].Dir, .string (bs l.xs[i].S)] := ci
  rw [Int.toNat_natCast]
  refine ldS_mk (ci.at (j := 1) rfl) ?_
  rw [bs_size]
  refine ifD (fun e3 => hk true fun h => by cases h) fun e3 => ?_
  have hmul : i * most ≤ 61 * 20000 := Nat.mul_le_mul (by omega) hm
  refine o.rd.get i rfl hlt fun ad ci => ?_
  have ci : Cells h1 (ad.add (i * 2)) [.int .i64 l.xs[i].Dir, .string (bs l.xs[i].S)] := ci
  refine ldS_mk (ci.at (j := 1) rfl) ?_
  rw [bs_size, wr (by omega) (by omega), wr (by omega) (by omega)]
  exact hK (l.xs.length - (i + 1)) _ _ (by omega) ⟨i + 1, rfl, by dsimp only; omega, hlt, by omega, by rw [htk, Nat.succ_mul]; omega, rfl, rfl⟩
end Go.Proofs.YtdpimhlppflidaaDoor
