/-
  Part 6 of 6 of the proofs: the texts of wip/ in one file, without what this claim does not use.
-/
import Derived.Test.YtjmfpeiidlpngaaGreatDoorZL5
namespace Go.Proofs.YtjmfpeiidlpngaaGreatDoor
set_option linter.unusedSimpArgs false
set_option linter.unusedVariables false
set_option maxRecDepth 20000
open Go
open Go.IntKind (wrap)
def wkG (kind : Int) (d : Au.Nm) (over : Bool) (g : Fp.Grp) : Nat :=
 if g.kind ≠ kind ∨ g.pats = [] then 0 else if g.tr = [] then d.length else if over = true then (Au.jk g.tr d).length else 0
def wkL (kind : Int) (d : Au.Nm) (over : Bool) (gs : List Fp.Grp) : Nat := (gs.map (wkG kind d over)).sum
theorem x4 (g : bK) : (Fp.fJ g).pats = [] ↔ g.Patterns.xs.length = 0 := by
 unfold Fp.fJ
 rw [← List.length_eq_zero_iff, List.length_map]
section
variable {h : aB} {Q : Value → aB → Prop} {s c : Addr} {l : Sl Bd}
theorem D8 [Gh] {p q : Option Addr} {pc qc : Nat} {xs ys : List Int} (Rp : Row 1 Au.lZ h p pc xs) (Rq : Row 1 Au.lZ h q qc ys) (hl : xs.length ≤ 2 ^ 40) (hk : Q (.bool (decide (xs = ys))) h) :
  aD Tryz.prog kK #[.slice p xs.length pc, .slice q ys.length qc] h Q := by
 apply DN
 unfold yG
 refine lu (fun ne => ?_) fun eq => ?_
 ·rw [decide_eq_false (fun e => ne (by rw [e]))] at hk; exact hk
 have el : xs.length = ys.length := by omega
 refine aH.go (fun n st h' => ∃ i : Nat, st = (i : Int) ∧ i ≤ xs.length ∧ n = xs.length - i ∧ h' = h ∧ xs.take i = ys.take i) xs.length ⟨0, rfl, by omega, rfl, rfl, rfl⟩ ?_
 rintro n - h2 ⟨i, rfl, hi, rfl, rfl, he⟩ Kn hK
 unfold sC
 refine ifD (fun hlt => ?_) (fun hge => ?_)
 ·have hi' : i < xs.length := by omega
  refine Rp.idx nk (by omega) i rfl hi' fun ad cc => ?_
  try rw [Int.toNat_natCast]
  refine aA (cc.at0 rfl) ?_
  refine Rq.idx nk (by omega) i rfl (by omega) fun ad2 cc2 => ?_
  try rw [Int.toNat_natCast]
  refine aA (cc2.at0 rfl) ?_
  refine lu (fun ne => ?_) fun eq2 => ?_
  ·rw [decide_eq_false (fun e => ne (by subst e; rfl))] at hk; exact hk
  ·rw [wr (by omega) (by omega)]
   refine hK (xs.length - (i + 1)) _ _ (by omega) ⟨i + 1, rfl, hi', rfl, rfl, ?_⟩
   rw [show xs.take (i + 1) = xs.take i ++ [xs[i]] by rw [List.take_append_getElem], show ys.take (i + 1) = ys.take i ++ [ys[i]'(by omega)] by rw [List.take_append_getElem], he, eq2]
 ·have e : xs = ys := by
   rw [List.take_of_length_le (by omega), List.take_of_length_le (by omega)] at he; exact he
  rw [decide_eq_true e] at hk; exact hk
end
end Go.Proofs.YtjmfpeiidlpngaaGreatDoor
namespace Go.Proofs.YtjmfpeiidlpngaaGreatDoor
set_option linter.unusedSimpArgs false
set_option linter.unusedVariables false
set_option maxRecDepth 20000
open Go
open Go.IntKind (wrap)
theorem GI : ∀ {xs ys : List Int}, xs.Pairwise (· < ·) → ys.Pairwise (· < ·) → (∀ x, x ∈ xs ↔ x ∈ ys) → xs = ys
 | [], [], _, _, _ => rfl
 | [], y :: ys, _, _, h => absurd ((h y).2 (by simp)) (by simp)
 | x :: xs, [], _, _, h => absurd ((h x).1 (by simp)) (by simp)
 | x :: xs, y :: ys, h1, h2, h => by
  rw [List.pairwise_cons] at h1 h2
  have e : x = y := by
   rcases List.mem_cons.1 ((h x).1 (by simp)) with e | hx
   ·exact e
   ·rcases List.mem_cons.1 ((h y).2 (by simp)) with e | hy
    ·exact e.symm
    ·have := h1.1 y hy; have := h2.1 x hx; omega
  subst e
  rw [GI h1.2 h2.2 fun z => ?_]
  constructor
  ·intro hz
   rcases List.mem_cons.1 ((h z).1 (List.mem_cons_of_mem _ hz)) with e | h3
   ·have := h1.1 z hz; omega
   ·exact h3
  ·intro hz
   rcases List.mem_cons.1 ((h z).2 (List.mem_cons_of_mem _ hz)) with e | h3
   ·have := h2.1 z hz; omega
   ·exact h3
theorem CY {ys : List Int} (s : ys.Pairwise (· ≤ ·)) : ∀ n, n + 1 ≤ ys.length → (ys.take 1 ++ iy ys 1 n).Pairwise (· < ·) ∧ ∀ x, x ∈ ys.take 1 ++ iy ys 1 n ↔ x ∈ ys.take (n + 1)
 | 0, h => by
  have : iy ys 1 0 = [] := rfl
  rw [this, List.append_nil]
  refine ⟨?_, fun x => Iff.rfl⟩
  cases ys with
  | nil => simp
  | cons y ys => simp
 | n + 1, h => by
  obtain ⟨i1, i2⟩ := CY s n (by omega)
  have hle : ∀ x, x ∈ ys.take (n + 1) → x ≤ ys[n]'(by omega) := fun x hx => by
   obtain ⟨i, hi, e⟩ := List.getElem_of_mem hx
   rw [List.length_take] at hi
   rw [List.getElem_take] at e
   rw [← e]
   rcases Nat.lt_or_ge i n with hl | hl
   ·exact List.pairwise_iff_getElem.1 s i n (by omega) (by omega) hl
   ·have : i = n := by omega
    subst this; exact Int.le_refl _
  have hn : ys[n]'(by omega) ∈ ys.take (n + 1) := by
   rw [List.mem_take_iff_getElem]
   exact ⟨n, by omega, rfl⟩
  have et : ys.take (n + 1 + 1) = ys.take (n + 1) ++ [ys[n + 1]'(by omega)] := by rw [List.take_append_getElem]
  have g1 : ys.getD (1 + n) 0 = ys[n + 1]'(by omega) := by
   rw [show 1 + n = n + 1 by omega]; exact wA _ _ (by omega)
  have g0 : ys.getD (1 + n - 1) 0 = ys[n]'(by omega) := by
   rw [show 1 + n - 1 = n by omega]; exact wA _ _ (by omega)
  have hs : ys[n]'(by omega) ≤ ys[n + 1]'(by omega) := List.pairwise_iff_getElem.1 s n (n + 1) (by omega) (by omega) (by omega)
  rw [py, g1, g0, et]
  by_cases e : ys[n + 1]'(by omega) = ys[n]'(by omega)
  ·rw [if_pos e, List.append_nil]
   refine ⟨i1, fun x => ?_⟩
   rw [i2 x, List.mem_append, List.mem_singleton]
   constructor
   ·exact .inl
   ·rintro (hx | hx)
    ·exact hx
    ·rw [hx, e]; exact hn
  ·rw [if_neg e, ← List.append_assoc]
   refine ⟨List.pairwise_append.2 ⟨i1, List.pairwise_singleton _ _, fun a ha b hb => ?_⟩, fun x => ?_⟩
   ·rw [List.mem_singleton] at hb
    subst hb
    have := hle a ((i2 a).1 ha)
    omega
   ·rw [List.mem_append, i2 x, List.mem_append]
theorem DB {ys : List Int} (s : ys.Pairwise (· ≤ ·)) : (mu ys).Pairwise (· < ·) ∧ ∀ x, x ∈ mu ys ↔ x ∈ ys := by
 by_cases h : ys = []
 ·subst h; exact ⟨by simp [mu, iy], fun x => by simp [mu, iy]⟩
 ·have hl : 0 < ys.length := List.length_pos_iff.2 h
  have := CY s (ys.length - 1) (by omega)
  rw [show ys.length - 1 + 1 = ys.length by omega, List.take_length] at this
  exact this
theorem DY (xs : List Int) : (Au.oW xs).Pairwise (· ≤ ·) := by
 have := List.pairwise_mergeSort (le := fun (x y : Int) => decide (x ≤ y)) (fun a b c h1 h2 => by simp only [decide_eq_true_eq] at *; omega) (fun a b => by simp only [Bool.or_eq_true, decide_eq_true_eq]; omega) xs
 exact this.imp fun h => of_decide_eq_true h
theorem Hv (xs : List Int) (x : Int) : x ∈ Au.oW xs ↔ x ∈ xs := (List.mergeSort_perm _ _).mem_iff
theorem MN (xs : List Int) : (mu (Au.oW xs)).Pairwise (· < ·) ∧ ∀ x, x ∈ mu (Au.oW xs) ↔ x ∈ xs := by
 obtain ⟨h1, h2⟩ := DB (DY xs)
 exact ⟨h1, fun x => (h2 x).trans (Hv xs x)⟩
theorem JW (p : Nat → Bool) (n : Nat) : (u7 p n).Pairwise (· < ·) := by
 unfold u7
 rw [List.pairwise_map]
 refine List.Pairwise.filter _ (List.pairwise_lt_range.imp fun h => by omega)
theorem JK {p : Nat → Bool} {n : Nat} {x : Int} : x ∈ u7 p n ↔ ∃ i : Nat, i < n ∧ p i = true ∧ x = i := by
 unfold u7
 rw [List.mem_map]
 constructor
 ·rintro ⟨i, h, e⟩
  rw [List.mem_filter, List.mem_range] at h
  exact ⟨i, h.1, h.2, e.symm⟩
 ·rintro ⟨i, h1, h2, e⟩
  exact ⟨i, by rw [List.mem_filter, List.mem_range]; exact ⟨h1, h2⟩, e.symm⟩
abbrev Pa := List UInt8 × Bool
def Ev (g : Fp.Grp) (sn : Pa → Bool) (x : Int) : Prop := x ∈ g.always ∨ ∃ (j : Nat) (p : Pa) (r : List Int), g.pats[j]? = some p ∧ g.rules[j]? = some r ∧ sn p = true ∧ x ∈ r
def Aa (r : Fp.Ru) (sn : Pa → Bool) : Prop := match Fp.vg r.Contents.xs with | none => True | some p => sn p = true
theorem ze {α : Type} (f : α → α) (l : List α) (i : Nat) : (l.modify i f)[i]? = (l[i]?).map f := by
 rw [List.getElem?_modify]; cases l[i]? <;> simp
theorem DI {α : Type} (f : α → α) (l : List α) {i j : Nat} (h : i ≠ j) : (l.modify i f)[j]? = l[j]? := by
 rw [List.getElem?_modify]; cases l[j]? <;> simp [h]
theorem AJ (k : Nat) (r : Fp.Ru) (g : Fp.Grp) (sn : Pa → Bool) (hl : g.rules.length = g.pats.length) (x : Int) : Ev (Fp.sQ k r g) sn x ↔ Ev g sn x ∨ (x = k ∧ Aa r sn) := by
 unfold Fp.sQ Aa
 cases hp : Fp.vg r.Contents.xs with
 | none =>
  simp only
  unfold Ev
  simp only [List.mem_append, List.mem_singleton, and_true]
  constructor
  ·rintro ((h | h) | h)
   ·exact .inl (.inl h)
   ·exact .inr h
   ·exact .inl (.inr h)
  ·rintro ((h | h) | h)
   ·exact .inl (.inl h)
   ·exact .inr h
   ·exact .inl (.inr h)
 | some p =>
  simp only
  by_cases hf : g.pats.findIdx (· == p) = g.pats.length
  ·rw [if_pos hf]
   unfold Ev
   constructor
   ·rintro (h | ⟨j, q, l, h1, h2, h3, h4⟩)
    ·exact .inl (.inl h)
    ·rcases Nat.lt_or_ge j g.pats.length with hj | hj
     ·rw [List.getElem?_append_left hj] at h1
      rw [List.getElem?_append_left (by omega)] at h2
      exact .inl (.inr ⟨j, q, l, h1, h2, h3, h4⟩)
     ·rw [List.getElem?_append_right hj] at h1
      rw [List.getElem?_append_right (by omega)] at h2
      have hj0 : j - g.pats.length = 0 := by
       have := (List.getElem?_eq_some_iff.1 h1).1
       simp at this; omega
      have hj1 : j - g.rules.length = 0 := by omega
      rw [hj0] at h1
      rw [hj1] at h2
      simp only [List.getElem?_cons_zero, Option.some.injEq] at h1 h2
      subst h1 h2
      rw [List.mem_singleton] at h4
      exact .inr ⟨h4, h3⟩
   ·rintro ((h | ⟨j, q, l, h1, h2, h3, h4⟩) | ⟨h1, h2⟩)
    ·exact .inl h
    ·have hj := (List.getElem?_eq_some_iff.1 h1).1
     exact .inr ⟨j, q, l, by rw [List.getElem?_append_left hj]; exact h1, by rw [List.getElem?_append_left (by omega)]; exact h2, h3, h4⟩
    ·exact .inr ⟨g.pats.length, p, [(k : Int)], by simp, by rw [← hl]; simp, h2, by rw [h1]; simp⟩
  ·rw [if_neg hf]
   have hlt : g.pats.findIdx (· == p) < g.pats.length := by
    have := List.findIdx_le_length (p := (· == p)) (xs := g.pats)
    omega
   have hat : g.pats[g.pats.findIdx (· == p)]? = some p := by
    rw [List.getElem?_eq_getElem hlt]
    have := List.findIdx_getElem (w := hlt)
    simp only [beq_iff_eq] at this
    rw [this]
   generalize g.pats.findIdx (· == p) = m at *
   unfold Ev
   simp only
   constructor
   ·rintro (h | ⟨j, q, l, h1, h2, h3, h4⟩)
    ·exact .inl (.inl h)
    ·by_cases hj : m = j
     ·subst hj
      rw [ze] at h2
      cases hr : g.rules[m]? with
      | none => rw [hr] at h2; cases h2
      | some l0 =>
       rw [hr] at h2
       simp only [Option.map_some, Option.some.injEq] at h2
       subst h2
       rw [hat] at h1
       simp only [Option.some.injEq] at h1
       subst h1
       rcases List.mem_append.1 h4 with h5 | h5
       ·exact .inl (.inr ⟨m, p, l0, hat, hr, h3, h5⟩)
       ·rw [List.mem_singleton] at h5; exact .inr ⟨h5, h3⟩
     ·rw [DI _ _ hj] at h2
      exact .inl (.inr ⟨j, q, l, h1, h2, h3, h4⟩)
   ·rintro ((h | ⟨j, q, l, h1, h2, h3, h4⟩) | ⟨h1, h2⟩)
    ·exact .inl h
    ·by_cases hj : m = j
     ·subst hj
      exact .inr ⟨m, q, l ++ [(k : Int)], h1, by rw [ze, h2]; rfl, h3, List.mem_append_left _ h4⟩
     ·exact .inr ⟨j, q, l, h1, by rw [DI _ _ hj]; exact h2, h3, h4⟩
    ·have hr : g.rules[m]? = some (g.rules[m]'(by omega)) := List.getElem?_eq_getElem _
     exact .inr ⟨m, p, g.rules[m]'(by omega) ++ [(k : Int)], hat, by rw [ze, hr]; rfl, h2, by rw [h1]; simp⟩
def uV (kind : Int) (sn : List Int → Pa → Bool) (gs : List Fp.Grp) (x : Int) : Prop := ∃ (j : Nat) (g : Fp.Grp), gs[j]? = some g ∧ g.kind = kind ∧ Ev g (sn g.tr) x
theorem DM (k : Nat) (r : Fp.Ru) (g : Fp.Grp) : (Fp.sQ k r g).kind = g.kind ∧ (Fp.sQ k r g).tr = g.tr := by
 unfold Fp.sQ
 split
 ·exact ⟨rfl, rfl⟩
 ·split <;> exact ⟨rfl, rfl⟩
theorem HG {n : Nat} (kind : Int) (sn : List Int → Pa → Bool) (k : Nat) (r : Fp.Ru) (gs : List Fp.Grp) (sm : Fp.tz n gs) (x : Int) :
  uV kind sn (Fp.Ah k r gs) x ↔ uV kind sn gs x ∨ (x = k ∧ r.Kind = kind ∧ Aa r (sn r.Transforms.xs)) := by
 have core : ∀ (gs' : List Fp.Grp) (m : Nat) (g : Fp.Grp), gs'[m]? = some g → g.kind = r.Kind → g.tr = r.Transforms.xs → g.rules.length = g.pats.length →
   (uV kind sn (gs'.modify m (Fp.sQ k r)) x ↔ uV kind sn gs' x ∨ (x = k ∧ r.Kind = kind ∧ Aa r (sn r.Transforms.xs))) := by
  intro gs' m g hm hk ht hl
  unfold uV
  constructor
  ·rintro ⟨j, g', h1, h2, h3⟩
   by_cases hj : m = j
   ·subst hj
    rw [ze, hm] at h1
    simp only [Option.map_some, Option.some.injEq] at h1
    subst h1
    obtain ⟨e1, e2⟩ := DM k r g
    rw [e1] at h2
    rw [e2] at h3
    rcases (AJ k r g (sn g.tr) hl x).1 h3 with h4 | h4
    ·exact .inl ⟨m, g, hm, h2, h4⟩
    ·exact .inr ⟨h4.1, by rw [← hk]; exact h2, by rw [← ht]; exact h4.2⟩
   ·rw [DI _ _ hj] at h1
    exact .inl ⟨j, g', h1, h2, h3⟩
  ·rintro (⟨j, g', h1, h2, h3⟩ | ⟨h1, h2, h3⟩)
   ·by_cases hj : m = j
    ·subst hj
     rw [hm] at h1
     simp only [Option.some.injEq] at h1
     subst h1
     obtain ⟨e1, e2⟩ := DM k r g
     exact ⟨m, Fp.sQ k r g, by rw [ze, hm]; rfl, by rw [e1]; exact h2, by rw [e2]; exact (AJ k r g (sn g.tr) hl x).2 (.inl h3)⟩
    ·exact ⟨j, g', by rw [DI _ _ hj]; exact h1, h2, h3⟩
   ·obtain ⟨e1, e2⟩ := DM k r g
    exact ⟨m, Fp.sQ k r g, by rw [ze, hm]; rfl, by rw [e1, hk]; exact h2, by rw [e2]; exact (AJ k r g (sn g.tr) hl x).2 (.inr ⟨h1, by rw [ht]; exact h3⟩)⟩
 unfold Fp.Ah Fp.uW
 by_cases hf : gs.findIdx (Fp.tC r) = gs.length
 ·rw [if_pos hf, hf]
  have := core (gs ++ [⟨r.Kind, r.Transforms.xs, [], [], []⟩]) gs.length ⟨r.Kind, r.Transforms.xs, [], [], []⟩ (by simp) rfl rfl rfl
  rw [this]
  have e : uV kind sn (gs ++ [⟨r.Kind, r.Transforms.xs, [], [], []⟩]) x ↔ uV kind sn gs x := by
   unfold uV
   constructor
   ·rintro ⟨j, g, h1, h2, h3⟩
    rcases Nat.lt_or_ge j gs.length with hj | hj
    ·rw [List.getElem?_append_left hj] at h1; exact ⟨j, g, h1, h2, h3⟩
    ·rw [List.getElem?_append_right hj] at h1
     have hj0 : j - gs.length = 0 := by
      have := (List.getElem?_eq_some_iff.1 h1).1
      simp at this; omega
     rw [hj0] at h1
     simp only [List.getElem?_cons_zero, Option.some.injEq] at h1
     subst h1
     rcases h3 with h3 | ⟨i, p, l, a, _⟩
     ·cases h3
     ·simp at a
   ·rintro ⟨j, g, h1, h2, h3⟩
    exact ⟨j, g, by rw [List.getElem?_append_left (List.getElem?_eq_some_iff.1 h1).1]; exact h1, h2, h3⟩
  rw [e]
 ·rw [if_neg hf]
  have hlt : gs.findIdx (Fp.tC r) < gs.length := by
   have := List.findIdx_le_length (p := Fp.tC r) (xs := gs)
   omega
  have hat := List.findIdx_getElem (w := hlt)
  unfold Fp.tC at hat
  rw [Bool.and_eq_true, beq_iff_eq, beq_iff_eq] at hat
  exact core gs _ _ (List.getElem?_eq_getElem hlt) hat.1 hat.2 (sm.g _ (List.getElem_mem hlt)).2.1
theorem Fs (kind : Int) (sn : List Int → Pa → Bool) (x : Int) : ∀ (l : List Fp.Ru) (k : Nat) (gs : List Fp.Grp), Fp.tz k gs →
  (uV kind sn (Fp.fR l k gs) x ↔ uV kind sn gs x ∨ ∃ (i : Nat) (r : Fp.Ru), l[i]? = some r ∧ x = ((k + i : Nat) : Int) ∧ r.Kind = kind ∧ Aa r (sn r.Transforms.xs))
 | [], k, gs, sm => by
  rw [Fp.fR]
  constructor
  ·exact .inl
  ·rintro (h | ⟨i, r, h, _⟩)
   ·exact h
   ·simp at h
 | r :: l, k, gs, sm => by
  rw [Fp.fR, Fs kind sn x l (k + 1) _ (sm.add r), HG kind sn k r gs sm x]
  constructor
  ·rintro ((h | ⟨h1, h2, h3⟩) | ⟨i, r', h1, h2, h3⟩)
   ·exact .inl h
   ·exact .inr ⟨0, r, rfl, h1, h2, h3⟩
   ·exact .inr ⟨i + 1, r', h1, by rw [h2]; omega, h3⟩
  ·rintro (h | ⟨i, r', h1, h2, h3⟩)
   ·exact .inl (.inl h)
   ·cases i with
    | zero =>
     simp only [List.getElem?_cons_zero, Option.some.injEq] at h1
     subst h1
     exact .inl (.inr ⟨h2, h3⟩)
    | succ i => exact .inr ⟨i, r', h1, by rw [h2]; omega, h3⟩
theorem HC (p : Pa) (hp : p.1 ≠ []) (d : Au.Nm) : xw ⟨p.1, p.2⟩ d = xQ (cOf p) d := by
 apply EV
 rw [ul]
 unfold xQ
 rw [List.any_eq_true]
 have key : ∀ q : Nat, q + p.1.length ≤ d.length → (Au.vl ⟨p.1, p.2⟩ d (q + p.1.length) = true ↔ Au.atB (cOf p) d (q : Nat) = true) := by
  intro q hq
  have e : Au.A7 d p.1.length (q + p.1.length) = Au.pQ d q p.1.length := by
   unfold Au.A7 Au.pQ
   rw [Nat.add_sub_cancel]
  have hX : ∀ X : Bool, ((decide (p.1 ≠ []) && (decide (p.1.length ≤ q + p.1.length) && X)) = true ↔ (decide (0 ≤ (q : Int) ∧ (q : Int) + p.1.length ≤ d.length) && X) = true) := fun X => by
   rw [decide_eq_true hp, decide_eq_true (show p.1.length ≤ q + p.1.length by omega), decide_eq_true (show 0 ≤ (q : Int) ∧ (q : Int) + p.1.length ≤ d.length by omega), Bool.true_and, Bool.true_and]
  unfold Au.vl Au.atB
  show (decide (p.1 ≠ []) && (decide (p.1.length ≤ q + p.1.length) && (if p.2 = true then decide (Au.cF (Au.A7 d p.1.length (q + p.1.length)) = Au.cF p.1) else decide (Au.A7 d p.1.length (q + p.1.length) = p.1)))) = true ↔ (decide (0 ≤ (q : Int) ∧ (q : Int) + p.1.length ≤ d.length) && (if p.2 = true then decide (Au.cF (Au.pQ d (q : Int).toNat p.1.length) = Au.cF p.1) else decide (Au.pQ d (q : Int).toNat p.1.length = p.1))) = true
  rw [e, Int.toNat_natCast]
  exact hX _
 have hpos : 0 < p.1.length := List.length_pos_iff.2 hp
 constructor
 ·rintro ⟨e, h1, h2⟩
  have h3 : p.1.length ≤ e := by
   unfold Au.vl at h2
   simp only [Bool.and_eq_true, decide_eq_true_eq] at h2
   exact h2.2.1
  refine ⟨e - p.1.length, by rw [List.mem_range]; omega, ?_⟩
  rw [← key _ (by omega), show e - p.1.length + p.1.length = e by omega]; exact h2
 ·rintro ⟨q, h1, h2⟩
  have h3 : q + p.1.length ≤ d.length := by
   have h4 := h2
   unfold Au.atB at h4
   rw [Bool.and_eq_true, decide_eq_true_iff] at h4
   have h5 : (q : Int) + p.1.length ≤ d.length := h4.1.2
   omega
  exact ⟨q + p.1.length, h3, (key q h3).2 h2⟩
theorem H1 {rs : List (List Int)} {sn : List Bool} {k : Nat} {x : Int} : x ∈ qZ rs sn k ↔ ∃ (j : Nat) (r : List Int), j < k ∧ sn[j]? = some true ∧ rs[j]? = some r ∧ x ∈ r := by
 unfold qZ
 rw [List.mem_flatMap]
 constructor
 ·rintro ⟨j, h1, h2⟩
  rw [List.mem_range] at h1
  split at h2
  ·rename_i h3
   rw [List.getD_eq_getElem?_getD] at h2 h3
   cases hr : rs[j]? with
   | none => rw [hr] at h2; cases h2
   | some r =>
    cases hs : sn[j]? with
    | none => rw [hs] at h3; cases h3
    | some b =>
     rw [hs] at h3
     rw [hr] at h2
     simp only [Option.getD_some] at h2 h3
     subst h3
     exact ⟨j, r, h1, hs, hr, h2⟩
  ·cases h2
 ·rintro ⟨j, r, h1, h2, h3, h4⟩
  refine ⟨j, by rw [List.mem_range]; exact h1, ?_⟩
  rw [List.getD_eq_getElem?_getD, List.getD_eq_getElem?_getD, h2, h3]
  exact h4
def snT (w : Au.Nm) (tr : List Int) (p : Pa) : Bool := xw ⟨p.1, p.2⟩ (Au.jk tr w)
theorem Do (g : Gr) (w : Au.Nm) (x : Int) : x ∈ En g w ↔ Ev (Fp.fJ g) (snT w (Fp.fJ g).tr) x := by
 unfold En Ev
 rw [List.mem_append, H1]
 have es : ∀ j : Nat, (ii g w)[j]? = ((Fp.fJ g).pats[j]?).map (snT w (Fp.fJ g).tr) := fun j => by
  show (((g.Patterns.xs.map DT).map fun p => xw p (Au.jk g.Transforms.xs w)))[j]? = ((g.Patterns.xs.map fun p : bM => (p.Text, p.Nocase))[j]?).map (snT w g.Transforms.xs)
  rw [List.getElem?_map, List.getElem?_map, List.getElem?_map]
  cases g.Patterns.xs[j]? <;> rfl
 have el : (ii g w).length = (Fp.fJ g).pats.length := by
  rw [tf, rJ]
  unfold Fp.fJ; simp
 constructor
 ·rintro (h | ⟨j, r, h1, h2, h3, h4⟩)
  ·exact .inl h
  ·rw [es j] at h2
   obtain ⟨p, hp, e⟩ := Option.map_eq_some_iff.1 h2
   exact .inr ⟨j, p, r, hp, h3, e, h4⟩
 ·rintro (h | ⟨j, p, r, h1, h2, h3, h4⟩)
  ·exact .inl h
  ·exact .inr ⟨j, r, by rw [el]; exact (List.getElem?_eq_some_iff.1 h1).1, by rw [es j, h1]; show some _ = some true; rw [h3], h2, h4⟩
theorem FK {gs : List Gr} {kind : Int} {w : Au.Nm} {x : Int} : x ∈ pX (gs.filter fun g => g.Kind = kind) w ↔ uV kind (snT w) (gs.map Fp.fJ) x := by
 unfold pX uV
 rw [List.mem_flatMap]
 constructor
 ·rintro ⟨g, h1, h2⟩
  rw [List.mem_filter, decide_eq_true_iff] at h1
  obtain ⟨j, hj, e⟩ := List.getElem_of_mem h1.1
  refine ⟨j, Fp.fJ g, by rw [List.getElem?_map, List.getElem?_eq_getElem hj, e]; rfl, h1.2, (Do g w x).1 h2⟩
 ·rintro ⟨j, g', h1, h2, h3⟩
  rw [List.getElem?_map] at h1
  obtain ⟨g, hg, rfl⟩ := Option.map_eq_some_iff.1 h1
  refine ⟨g, ?_, (Do g w x).2 h3⟩
  rw [List.mem_filter, decide_eq_true_iff]
  exact ⟨List.mem_of_getElem? hg, h2⟩
theorem ER {bs : List Bd} {gs : List Gr} (eg : gs.map Fp.fJ = iw bs) {kind : Int} {w : Au.Nm} {x : Int} :
  x ∈ pX (gs.filter fun g => g.Kind = kind) w ↔ ∃ (i : Nat) (hi : i < bs.length), x = (i : Int) ∧ bs[i].Rule.Kind = kind ∧ Aa bs[i].Rule (snT w bs[i].Rule.Transforms.xs) := by
 rw [FK, eg]
 unfold iw Fp.pD
 rw [Fs kind (snT w) x _ 0 [] ⟨Nat.le_refl _, fun g hg => by cases hg⟩]
 constructor
 ·rintro (⟨j, g, h1, _⟩ | ⟨i, r, h1, h2, h3, h4⟩)
  ·simp at h1
  ·rw [List.getElem?_map] at h1
   obtain ⟨b, hb, rfl⟩ := Option.map_eq_some_iff.1 h1
   obtain ⟨hi, rfl⟩ := List.getElem?_eq_some_iff.1 hb
   exact ⟨i, hi, by rw [h2, Nat.zero_add], h3, h4⟩
 ·rintro ⟨i, hi, h2, h3, h4⟩
  exact .inr ⟨i, bs[i].Rule, by rw [List.getElem?_map, List.getElem?_eq_getElem hi]; rfl, by rw [h2, Nat.zero_add], h3, h4⟩
theorem DQ {bs : List Bd} {gs : List Gr} (eg : gs.map Fp.fJ = iw bs) {kind : Int} {w : Au.Nm} : ∀ x ∈ pX (gs.filter fun g => g.Kind = kind) w, 0 ≤ x ∧ x < bs.length := fun x hx => by
 obtain ⟨i, hi, rfl, _⟩ := (ER eg).1 hx
 omega
theorem CC {b : Bd} (sd : Snd b) (w : Au.Nm) : Aa b.Rule (snT w b.Rule.Transforms.xs) ↔ (match Fp.vg b.Rule.Contents.xs with | none => true | some p => xQ (cOf p) (Au.jk b.Rule.Transforms.xs w)) = true := by
 unfold Aa
 cases hp : Fp.vg b.Rule.Contents.xs with
 | none => simp
 | some p =>
  have := Fe (fun c hc => by have := sd.ck.con c hc; omega) hp
  simp only
  unfold snT
  rw [HC p (fun e => by rw [e] at this; simp at this)]
theorem Er {bs : List Bd} {gs : List Gr} (eg : gs.map Fp.fJ = iw bs) (sd : ∀ b ∈ bs, Snd b) (f : aR) (b : bR) : wW bs f b.Dir (pX (gs.filter fun g => g.Kind = b.Kind) b.Data) = ua bs f b := by
 obtain ⟨h1, h2⟩ := MN (dU (vC bs f b.Dir) (pX (gs.filter fun g => g.Kind = b.Kind) b.Data))
 refine GI h1 (JW _ _) fun x => (h2 x).trans ?_
 unfold ua dU
 rw [List.mem_filter, ER eg, JK]
 constructor
 ·rintro ⟨⟨i, hi, rfl, h3, h4⟩, h5⟩
  unfold vC at h5
  rw [Int.toNat_natCast, wd _ _ _ hi, Bool.not_not] at h5
  refine ⟨i, hi, ?_, rfl⟩
  rw [wd _ _ _ hi]
  unfold zk
  rw [decide_eq_true h3, h5, Bool.true_and, Bool.true_and]
  exact (CC (sd _ (List.getElem_mem hi)) b.Data).1 h4
 ·rintro ⟨i, hi, h3, rfl⟩
  rw [wd _ _ _ hi] at h3
  unfold zk at h3
  rw [Bool.and_eq_true, Bool.and_eq_true, decide_eq_true_iff] at h3
  obtain ⟨h3, h4, h5⟩ := h3
  refine ⟨⟨i, hi, rfl, h3, (CC (sd _ (List.getElem_mem hi)) b.Data).2 h5⟩, ?_⟩
  unfold vC
  rw [Int.toNat_natCast, wd _ _ _ hi, h4]; rfl
theorem zY {l l' : List Bd} (e : l.map wipe = l'.map wipe) (f : aR) (b : bR) : ua l f b = ua l' f b := by
 unfold ua
 rw [Ej (fun x => Ia x f b) e, show l.length = l'.length by have := congrArg List.length e; simpa using this]
theorem Ie (kind : Int) (w : Au.Nm) : ∀ gs : List Gr, wkL kind w false (gs.map Fp.fJ) = nD (gs.filter fun g => g.Kind = kind) * w.length
 | [] => by simp [wkL, nD]
 | g :: gs => by
  have ih := Ie kind w gs
  unfold wkL at ih ⊢
  rw [List.map_cons, List.map_cons, List.sum_cons, ih]
  by_cases hk : g.Kind = kind
  ·rw [List.filter_cons_of_pos (by simp [hk])]
   unfold nD
   by_cases hd : j6 g = true
   ·rw [List.filter_cons_of_pos hd, List.length_cons, Nat.succ_mul]
    unfold j6 at hd
    rw [Bool.and_eq_true, decide_eq_true_iff, decide_eq_true_iff] at hd
    have : wkG kind w false (Fp.fJ g) = w.length := by
     unfold wkG
     rw [if_neg (fun hh => ?_), if_pos (show (Fp.fJ g).tr = [] from hd.2)]
     rcases hh with hh | hh
     ·exact hh hk
     ·exact hd.1 (List.length_eq_zero_iff.1 ((x4 g).1 hh))
    omega
   ·rw [List.filter_cons_of_neg hd]
    have : wkG kind w false (Fp.fJ g) = 0 := by
     unfold wkG
     by_cases h1 : (Fp.fJ g).kind ≠ kind ∨ (Fp.fJ g).pats = []
     ·rw [if_pos h1]
     ·rw [if_neg h1, if_neg, if_neg (by decide)]
      intro h2
      refine hd ?_
      unfold j6
      rw [Bool.and_eq_true, decide_eq_true_iff, decide_eq_true_iff]
      exact ⟨fun h3 => h1 (.inr ((x4 g).2 (by rw [h3]; rfl))), h2⟩
    omega
  ·rw [List.filter_cons_of_neg (by simp [hk])]
   have : wkG kind w false (Fp.fJ g) = 0 := by unfold wkG; rw [if_pos (.inl hk)]
   omega
theorem Fm (kind : Int) (w : Au.Nm) : ∀ gs : List Gr, wkL kind w true (gs.map Fp.fJ) = nD (gs.filter fun g => g.Kind = kind) * w.length + trW (gs.filter fun g => g.Kind = kind) w
 | [] => by simp [wkL, nD, trW]
 | g :: gs => by
  have ih := Fm kind w gs
  unfold wkL at ih ⊢
  rw [List.map_cons, List.map_cons, List.sum_cons, ih]
  by_cases hk : g.Kind = kind
  ·rw [List.filter_cons_of_pos (by simp [hk])]
   have et : trW (g :: gs.filter fun g => decide (g.Kind = kind)) w = (if trans g = true then (Au.jk g.Transforms.xs w).length else 0) + trW (gs.filter fun g => decide (g.Kind = kind)) w := by
    unfold trW; rw [List.map_cons, List.sum_cons]
   rw [et]
   have en : nD (g :: gs.filter fun g => decide (g.Kind = kind)) = nD (gs.filter fun g => decide (g.Kind = kind)) + if j6 g = true then 1 else 0 := by
    unfold nD
    by_cases hd : j6 g = true
    ·rw [List.filter_cons_of_pos hd, if_pos hd]; rfl
    ·rw [List.filter_cons_of_neg hd, if_neg hd]; rfl
   rw [en, Nat.add_mul]
   have : wkG kind w true (Fp.fJ g) = (if j6 g = true then 1 else 0) * w.length + (if trans g = true then (Au.jk g.Transforms.xs w).length else 0) := by
    unfold wkG j6 trans
    by_cases h1 : g.Patterns.xs = []
    ·rw [if_pos (.inr ((x4 g).2 (by rw [h1]; rfl)))]
     simp [h1]
    ·rw [if_neg (fun hh => by
      rcases hh with hh | hh
      ·exact hh hk
      ·exact h1 (List.length_eq_zero_iff.1 ((x4 g).1 hh)))]
     by_cases h2 : g.Transforms.xs = []
     ·rw [if_pos (show (Fp.fJ g).tr = [] from h2)]; simp [h1, h2]
     ·rw [if_neg (show ¬ (Fp.fJ g).tr = [] from h2)]; simp [h1, h2]; rfl
   omega
  ·rw [List.filter_cons_of_neg (by simp [hk])]
   have : wkG kind w true (Fp.fJ g) = 0 := by unfold wkG; rw [if_pos (.inl hk)]
   omega
theorem Jc {bs : List Bd} {gs : List Gr} (eg : gs.map Fp.fJ = iw bs) (hb : bs.length ≤ 40) : gs.length ≤ bs.length ∧ ∀ g ∈ gs, GSz g := by
 have sm : Fp.tz bs.length (iw bs) := by have := Iz (bs.map (·.Rule)); rwa [List.length_map] at this
 have hl := congrArg List.length eg
 rw [List.length_map] at hl
 refine ⟨by have := sm.len; omega, fun g hg => ?_⟩
 have hm : Fp.fJ g ∈ iw bs := by rw [← eg]; exact List.mem_map_of_mem hg
 obtain ⟨h1, h2, h3, h4⟩ := sm.g _ hm
 unfold Fp.fJ at h1 h2 h3 h4
 simp only [List.length_map] at h1 h2 h3
 exact ⟨h2, by omega, by omega, fun r hr => by have := h4 _ (List.mem_map_of_mem hr); omega⟩
end Go.Proofs.YtjmfpeiidlpngaaGreatDoor
namespace Go.Proofs.YtjmfpeiidlpngaaGreatDoor
set_option linter.unusedSimpArgs false
set_option linter.unusedVariables false
set_option maxRecDepth 20000
open Go
open Go.IntKind (wrap)
section
variable {h : aB} {Q : Value → aB → Prop}
theorem Ll [Gh] (l : Sl Bd) (ok : bH 25 aE.vals aE.ok h l) (hk : ∀ (e : Bool) h', Fr (fun _ => False) h h' → (e = true → l.xs.length ≤ 12 ∧ ∀ b ∈ l.xs, Snd b) → Q (.bool e) h') :
  aD Tryz.prog rB #[.slice l.p l.xs.length l.cap] h Q := by
 apply Cs
 unfold w9
 have no : ∀ h', Fr (fun _ => False) h h' → Q (.bool false) h' := fun h' f => hk false h' f fun e => by cases e
 refine ifD (fun e => no h (Fr.refl _ _)) fun hl => ?_
 refine aH.go (fun n st h' => ∃ i : Nat, st = (i : Int) ∧ i ≤ l.xs.length ∧ n = l.xs.length - i ∧ Fr (fun _ => False) h h' ∧ ∀ b ∈ l.xs.take i, Snd b) l.xs.length ⟨0, rfl, by omega, rfl, Fr.refl _ _, fun b hb => by simp at hb⟩ ?_
 rintro n - h1 ⟨i, rfl, hi, rfl, f1, hs⟩ Kn hK
 unfold rt
 refine ifD (fun hlt => ?_) (fun hge => ?_)
 ·have hi' : i < l.xs.length := by omega
  refine cL (bH.fr0 aE.ok_fr f1 ok) i rfl hi' fun ad cc okr => ?_
  try rw [Int.toNat_natCast]
  refine (aA (cc.at0 rfl) (aA (cc.at rfl) (aC (cc.at rfl) (aC (cc.at rfl) (aC (cc.at rfl) (aC (cc.at rfl) (aG (cc.at rfl) (aA (cc.at rfl) (aA (cc.at rfl) (aA (cc.at rfl) (aT (cc.at rfl) (aA (cc.at rfl) (aA (cc.at rfl) (aC (cc.at rfl) (aC (cc.at rfl) (aC (cc.at rfl) (aC (cc.at rfl) (aA (cc.at rfl) (aA (cc.at rfl) (aA (cc.at rfl) (aA (cc.at rfl) (aC (cc.at rfl) (aC (cc.at rfl) (aC (cc.at rfl) (aC (cc.at rfl) ?_)))))))))))))))))))))))))
  refine oG rfl rfl fun t4 h2 f2 ht4 o4 => ?_
  have F2 := f1.trans f2
  refine aC (o4.cells.at (j := 21) rfl) (ifD (fun _ => no h2 F2) fun g1 => ?_)
  refine aC (o4.cells.at (j := 22) rfl) (ifD (fun _ => no h2 F2) fun g2 => ?_)
  refine aC (o4.cells.at (j := 23) rfl) (ifD (fun _ => no h2 F2) fun g3 => ?_)
  refine aC (o4.cells.at (j := 24) rfl) (ifD (fun _ => no h2 F2) fun g4 => ?_)
  refine (aA (o4.cells.at0 rfl) (aA (o4.cells.at rfl) (aC (o4.cells.at rfl) (aC (o4.cells.at rfl) (aC (o4.cells.at rfl) (aC (o4.cells.at rfl) (aG (o4.cells.at rfl) (aA (o4.cells.at rfl) (aA (o4.cells.at rfl) (aA (o4.cells.at rfl) (aT (o4.cells.at rfl) (aA (o4.cells.at rfl) (aA (o4.cells.at rfl) (aC (o4.cells.at rfl) (aC (o4.cells.at rfl) (aC (o4.cells.at rfl) (aC (o4.cells.at rfl) (aA (o4.cells.at rfl) (aA (o4.cells.at rfl) (aA (o4.cells.at rfl) (aA (o4.cells.at rfl) ?_)))))))))))))))))))))
  refine Au.Ku l.xs[i].Rule (aE.ok_fr _ _ _ f2 okr).k0 fun e h3 f3 hck => ⟨e, rfl, ?_⟩
  refine lu (fun _ => no h3 (F2.trans f3)) fun he => ?_
  rw [wr (by omega) (by omega)]
  refine hK (l.xs.length - (i + 1)) _ _ (by omega) ⟨i + 1, rfl, by omega, rfl, F2.trans f3, fun b hb => ?_⟩
  rw [show l.xs.take (i + 1) = l.xs.take i ++ [l.xs[i]] by rw [List.take_append_getElem], List.mem_append, List.mem_singleton] at hb
  rcases hb with hb | hb
  ·exact hs b hb
  ·subst hb
   exact ⟨hck he, by omega, by omega, by omega, by omega⟩
 ·have : i = l.xs.length := by omega
  subst this
  rw [List.take_length] at hs
  exact hk true h1 f1 fun _ => ⟨by omega, hs⟩
def mb : List aJ := [⟨⟨false, 0, 0⟩, ⟨false, 0, 4294967295⟩⟩, ⟨⟨true, 0, 0⟩, ⟨true, 18446744073709551615, 18446744073709551615⟩⟩]
def lU : List aP := [⟨0, 65535⟩]
def HF (s : List UInt8) : List aI := [⟨s, false, false, false, 0, 0, false⟩]
def L4 (sid : Int) (C : Sl aI) : aO := ⟨1, 6, tu, tu, tu, tu, false, sid, 1, 2, [], 0, 4, tu, C, tu, tu, ⟨0, 0, 0, 0⟩⟩
def K0 (sid : Int) (s : List UInt8) : Bd := ⟨L4 sid ⟨none, 0, HF s⟩, ⟨none, 0, mb⟩, ⟨none, 0, mb⟩, ⟨none, 0, lU⟩, ⟨none, 0, lU⟩⟩
theorem Ls {C : Sl aI} {sid : Int} (hs : kOk .i64 h sid) (hC : bH 7 aI.vals aI.ok h C) : aO.ok h (L4 sid C) :=
 ⟨rfl, rfl, uh, uh, uh, uh, trivial, hs, rfl, rfl, Nat.zero_le _, rfl, rfl, uh, hC, uh, uh, ⟨rfl, rfl, rfl, rfl⟩⟩
theorem Lu : ∀ x ∈ mb, aJ.ok h x := fun x hx => by
 simp only [mb, List.mem_cons, List.not_mem_nil, or_false] at hx
 rcases hx with rfl | rfl <;> exact ⟨⟨trivial, rfl, rfl⟩, ⟨trivial, rfl, rfl⟩⟩
theorem K9 : ∀ x ∈ lU, aP.ok h x := fun x hx => by
 simp only [lU, List.mem_cons, List.not_mem_nil, or_false] at hx
 subst hx; exact ⟨rfl, rfl⟩
theorem MG [Gh] (r : aO) (hk : ∀ (b : Bd) h', Fr (fun _ => False) h h' → b.Rule = r → b.Src.xs = mb → b.Dst.xs = mb → b.SrcPorts.xs = lU → b.DstPorts.xs = lU →
   Kp (fun x => h.size ≤ x) h' (fun h'' => bH 6 aJ.vals aJ.ok h'' b.Src ∧ bH 6 aJ.vals aJ.ok h'' b.Dst ∧ bH 2 aP.vals aP.ok h'' b.SrcPorts ∧ bH 2 aP.vals aP.ok h'' b.DstPorts) → Q (.agg b.vals.toArray) h') :
  aD Tryz.prog sK #[.agg r.vals.toArray] h Q := by
 apply Dq
 unfold xU
 refine aU (vs := r.vals) fun t1 h1 f1 e1 o1 => ?_
 refine aU (vs := Hk.vals) fun t2 h2 f2 e2 o2 => ?_
 refine aU (vs := mb.flatMap aJ.vals) fun t13 h3 f3 e3 o3 => ?_
 refine aU (vs := lU.flatMap aP.vals) fun t15 h4 f4 e4 o4 => ?_
 have z1 := f1.size; have z2 := f2.size; have z3 := f3.size
 have F24 := f3.trans f4
 have F14 := f2.trans F24
 have o14 := o1.fr0 F14
 refine (aA (o14.cells.at0 rfl) (aA (o14.cells.at rfl) (aC (o14.cells.at rfl) (aC (o14.cells.at rfl) (aC (o14.cells.at rfl) (aC (o14.cells.at rfl) (aG (o14.cells.at rfl) (aA (o14.cells.at rfl) (aA (o14.cells.at rfl) (aA (o14.cells.at rfl) (aT (o14.cells.at rfl) (aA (o14.cells.at rfl) (aA (o14.cells.at rfl) (aC (o14.cells.at rfl) (aC (o14.cells.at rfl) (aC (o14.cells.at rfl) (aC (o14.cells.at rfl) (aA (o14.cells.at rfl) (aA (o14.cells.at rfl) (aA (o14.cells.at rfl) (aA (o14.cells.at rfl) ?_)))))))))))))))))))))
 refine jt (o2.fr0 F24) (ws := (⟨r, ⟨some t13, 2, mb⟩, ⟨some t13, 2, mb⟩, ⟨some t15, 1, lU⟩, ⟨some t15, 1, lU⟩⟩ : Bd).vals) (by rfl) (by rfl) fun h5 f5 z5 o5 => ?_
 refine (aA (o5.cells.at0 rfl) (aA (o5.cells.at rfl) (aC (o5.cells.at rfl) (aC (o5.cells.at rfl) (aC (o5.cells.at rfl) (aC (o5.cells.at rfl) (aG (o5.cells.at rfl) (aA (o5.cells.at rfl) (aA (o5.cells.at rfl) (aA (o5.cells.at rfl) (aT (o5.cells.at rfl) (aA (o5.cells.at rfl) (aA (o5.cells.at rfl) (aC (o5.cells.at rfl) (aC (o5.cells.at rfl) (aC (o5.cells.at rfl) (aC (o5.cells.at rfl) (aA (o5.cells.at rfl) (aA (o5.cells.at rfl) (aA (o5.cells.at rfl) (aA (o5.cells.at rfl) (aC (o5.cells.at rfl) (aC (o5.cells.at rfl) (aC (o5.cells.at rfl) (aC (o5.cells.at rfl) ?_)))))))))))))))))))))))))
 have l2 := o2.lt
 have F5 : Fr (fun _ => False) h h5 := (f1.trans (f2.trans F24)).tr f5 fun x hx hh => by omega
 refine hk ⟨r, ⟨some t13, 2, mb⟩, ⟨some t13, 2, mb⟩, ⟨some t15, 1, lU⟩, ⟨some t15, 1, lU⟩⟩ h5 F5 rfl rfl rfl rfl rfl fun h6 f6 => ?_
 have k13 : bH 6 aJ.vals aJ.ok h6 ⟨some t13, 2, mb⟩ := bH.of_own (sz := 6) (vals := aJ.vals) (xs := mb) (fun _ => rfl) (((o3.fr0 f4).fr f5 (by omega)).fr f6 (by omega)) (by decide) Lu
 have k15 : bH 2 aP.vals aP.ok h6 ⟨some t15, 1, lU⟩ := bH.of_own (sz := 2) (vals := aP.vals) (xs := lU) (fun _ => rfl) ((o4.fr f5 (by omega)).fr f6 (by omega)) (by decide) K9
 exact ⟨k13, k13, k15, k15⟩
theorem Ju [Gh] (sid : Int) (hs : ∀ h, kOk .i64 h sid) (s : List UInt8) (hl : s.length ≤ 1000) (hk : ∀ (b : Bd) h', Fr (fun _ => False) h h' → aE.ok h' b → wipe b = K0 sid s → Q (.agg b.vals.toArray) h') :
  aD Tryz.prog n9 #[.int .i64 sid, .string (bs s)] h Q := by
 apply EW
 unfold Ab
 refine aU (vs := Hk.vals) fun t4 h1 f1 e1 o1 => ?_
 refine aU (vs := (HF s).flatMap aI.vals) fun t8 h2 f2 e2 o2 => ?_
 have z1 := f1.size; have z2 := f2.size
 have l4 := o1.lt
 have l8 := o2.lt
 refine MG (L4 sid ⟨some t8, 1, HF s⟩) fun b h3 f3 e1 e2 e3 e4 e5 k => ⟨_, _, _, _, _, _, _, _, _, _, _, _, _, _, _, _, _, _, _, _, _, _, _, _, _, _, _, _, _, _, _, _, _, _, _, _, _, _, _, _, _, _, _, _, _, _, _, _, _, rfl, ?_⟩
 have F3 := f2.trans f3
 refine jt (o1.fr0 F3) (ws := b.vals) (by rfl) (by rfl) fun h5 f5 z5 o5 => ?_
 refine (aA (o5.cells.at0 rfl) (aA (o5.cells.at rfl) (aC (o5.cells.at rfl) (aC (o5.cells.at rfl) (aC (o5.cells.at rfl) (aC (o5.cells.at rfl) (aG (o5.cells.at rfl) (aA (o5.cells.at rfl) (aA (o5.cells.at rfl) (aA (o5.cells.at rfl) (aT (o5.cells.at rfl) (aA (o5.cells.at rfl) (aA (o5.cells.at rfl) (aC (o5.cells.at rfl) (aC (o5.cells.at rfl) (aC (o5.cells.at rfl) (aC (o5.cells.at rfl) (aA (o5.cells.at rfl) (aA (o5.cells.at rfl) (aA (o5.cells.at rfl) (aA (o5.cells.at rfl) (aC (o5.cells.at rfl) (aC (o5.cells.at rfl) (aC (o5.cells.at rfl) (aC (o5.cells.at rfl) ?_)))))))))))))))))))))))))
 have k5 := k h5 (f5.mono fun x hx hh => by omega)
 have okC : bH 7 aI.vals aI.ok h5 ⟨some t8, 1, HF s⟩ := bH.of_own (sz := 7) (vals := aI.vals) (xs := HF s) (fun _ => rfl) ((o2.fr0 f3).fr f5 (by omega)) (by show 1 ≤ _; decide) fun x hx => by
  simp only [HF, List.mem_cons, List.not_mem_nil, or_false] at hx
  subst hx
  exact ⟨by show s.length ≤ _; omega, trivial, trivial, trivial, rfl, rfl, trivial⟩
 refine hk b h5 ((f1.trans F3).tr f5 fun x hx hh => by omega) ⟨by rw [e1]; exact Ls (hs _) okC, k5.1, k5.2.1, k5.2.2.1, k5.2.2.2⟩ ?_
 unfold wipe tD
 rw [e1, e2, e3, e4, e5]; rfl
end
section
variable {N : Nat} {F F' S : Nat → Prop} {h h' : aB} {s c : Addr} {f : aR} {dir : Int} {bs : List Bd} {gs K : List Gr} {w : Au.Nm} {work : Int} {done : Bool} {out : List Int}
theorem vW.fr (T : vW N F h s c f dir bs gs K w work done out) (fr : Fr S h h') (hs : ∀ x, x < h.size → S x → N ≤ x ∧ ¬ F x) : vW N F h' s c f dir bs gs K w work done out := by
 obtain ⟨o, t9, av, pa, kp, R, C, KP, hkp⟩ := T
 have ho : Au.Old h o (Au.upT o h.size 9) := Au.Old.up (Nat.le_refl _)
 have h9 : ∀ x, x < h.size → S x → o x = 9 := fun x hx hh => Classical.byContradiction fun hn => (hs x hx hh).2 (R.fp x hx (hs x hx hh).1 hn)
 refine ⟨Au.upT o h.size 9, t9, av, pa, kp, R.fr fr ho (fun x hx hh => by have := h9 x hx hh; omega) (fun x hx hn hne => ?_) fr.size, C.fr fr ho fun x hx hh => .inr (.inl (h9 x hx hh)), KP.fr fr ho fun x hx hh => by have := h9 x hx hh; omega, hkp⟩
 rcases Nat.lt_or_ge x h.size with hl | hl
 ·exact R.fp x hl hn (by rw [Au.dX hl] at hne; exact hne)
 ·exact absurd (Au.kf hl) hne
theorem vW.fr0 (fr : Fr (fun _ => False) h h') (T : vW N F h s c f dir bs gs K w work done out) : vW N F h' s c f dir bs gs K w work done out := T.fr fr fun _ _ hh => hh.elim
theorem yI.fr0 (fr : Fr (fun _ => False) h h') (D : yI F h c work out) : yI F h' c work out := D.fr fr fun _ hh => hh.elim
end
def exL : List Bd := [K0 1 [101, 118, 105, 108], K0 2 [98, 97, 100], K0 3 [103, 111, 111, 100]]
def exF : aR := ⟨6, ⟨false, 0, 0⟩, ⟨false, 0, 0⟩, 5, 80⟩
theorem LG : ∀ b ∈ exL, Snd b := by
 intro b hb
 simp only [exL, List.mem_cons, List.not_mem_nil, or_false] at hb
 rcases hb with rfl | rfl | rfl <;> exact ⟨⟨by decide, by decide, by decide, by decide, by decide, by decide, by decide, by decide, by decide, by decide, by decide, by decide, by decide, by decide, by decide, by decide, by decide, by decide, by decide⟩, by decide, by decide, by decide, by decide⟩
theorem Mk : ua exL exF ⟨4, 1, 0, [47, 101, 118, 105, 108]⟩ = [0] := by decide +kernel
theorem MD : wkL 4 [47, 101, 118, 105, 108] true (iw exL) = 5 := by decide +kernel
set_option maxHeartbeats 1000000 in
theorem Lf [Gh] {h : aB} {Q : Value → aB → Prop} (hk : ∀ h', Fr (fun _ => False) h h' → Q (.bool true) h') : aD Tryz.prog iG #[] h Q := by
 apply Cg
 unfold xd
 refine Ju 1 (fun _ => rfl) [101, 118, 105, 108] (by decide) fun b1 h1 f1 ok1 w1 => ⟨_, _, _, _, _, _, _, _, _, _, _, _, _, _, _, _, _, _, _, _, _, _, _, _, _, _, _, _, _, _, _, _, _, _, _, _, _, _, _, _, _, _, _, _, _, _, _, _, _, rfl, ?_⟩
 refine Ju 2 (fun _ => rfl) [98, 97, 100] (by decide) fun b2 h2 f2 ok2 w2 => ⟨_, _, _, _, _, _, _, _, _, _, _, _, _, _, _, _, _, _, _, _, _, _, _, _, _, _, _, _, _, _, _, _, _, _, _, _, _, _, _, _, _, _, _, _, _, _, _, _, _, rfl, ?_⟩
 refine Ju 3 (fun _ => rfl) [103, 111, 111, 100] (by decide) fun b3 h3 f3 ok3 w3 => ⟨_, _, _, _, _, _, _, _, _, _, _, _, _, _, _, _, _, _, _, _, _, _, _, _, _, _, _, _, _, _, _, _, _, _, _, _, _, _, _, _, _, _, _, _, _, _, _, _, _, rfl, ?_⟩
 refine aU (vs := [b1, b2, b3].flatMap aE.vals) fun t9 h4 f4 _ o9 => ?_
 have ok : bH 25 aE.vals aE.ok h4 ⟨some t9, 3, [b1, b2, b3]⟩ := bH.of_own (sz := 25) (vals := aE.vals) (xs := [b1, b2, b3]) (fun _ => rfl) o9 (by show 3 ≤ _; decide) fun x hx => by
  simp only [List.mem_cons, List.not_mem_nil, or_false] at hx
  rcases hx with rfl | rfl | rfl
  ·exact aE.ok_fr _ _ _ ((f2.trans f3).trans f4) ok1
  ·exact aE.ok_fr _ _ _ (f3.trans f4) ok2
  ·exact aE.ok_fr _ _ _ f4 ok3
 have F4 := ((f1.trans f2).trans f3).trans f4
 have wl : [b1, b2, b3].map wipe = exL.map wipe := by
  simp only [List.map_cons, List.map_nil, w1, w2, w3]; rfl
 have sd : ∀ b ∈ [b1, b2, b3], Snd b := fun b hb => by
  obtain ⟨b', hb', e⟩ := yk wl hb
  exact (LG b' hb').wipe e
 clear w1 w2 w3 ok1 ok2 ok3
 generalize hL : [b1, b2, b3] = L at *
 have eL3 : L.length = 3 := by rw [← hL]; rfl
 have sids : (L.map oV) = [1, 2, 3] := by
  have := congrArg (List.map fun b : Bd => b.Rule.Sid) wl
  rw [List.map_map, List.map_map] at this
  exact this
 have call := fun (K : Value → aB → Prop) => Di ⟨some t9, 3, L⟩ ok (by show L.length ≤ 40; omega) sd (Q := K)
 rw [show (⟨some t9, 3, L⟩ : Sl Bd).xs.length = 3 from eL3] at call
 refine call _ (fun h5 f5 nn => absurd (by rw [sids]; decide) nn) fun s h5 bs gs f5 T eb eg nd => ⟨_, _, rfl, ?_⟩
 have blen : bs.length = 3 := by have := congrArg List.length eb; rw [List.length_map, List.length_map] at this; exact this.trans eL3
 have eg' : gs.map Fp.fJ = iw bs := eg.trans (qD eb.symm)
 have ex : bs.map wipe = exL.map wipe := eb.trans wl
 have sdb : ∀ b ∈ bs, Snd b := fun b hb => by
  obtain ⟨b', hb', e⟩ := yk ex hb
  exact (LG b' hb').wipe e
 obtain ⟨glen, gsz⟩ := Jc eg' (by omega)
 rw [if_neg (by decide)]
 refine Cx ?_
 have F5 := F4.trans f5
 refine oG (vs := exF.vals) (by rfl) (by rfl) fun t3 h7 f7 e7 o3 => ?_
 refine (aA (o3.cells.at0 rfl) (aG (o3.cells.at rfl) (aA (o3.cells.at rfl) (aA (o3.cells.at rfl) (aG (o3.cells.at rfl) (aA (o3.cells.at rfl) (aA (o3.cells.at rfl) (aA (o3.cells.at rfl) (aA (o3.cells.at rfl) ?_)))))))))
 have T7 := T.fr0 f7
 have hN := T.1
 have z7 := f7.size
 refine yO T7 (by omega) (fun g hg => by have := (gsz g hg).pl; omega) exF 4 1 fun c h8 f8 S8 hc => ⟨_, rfl, Cx ?_⟩
 have z8 := f8.size
 have l3 := o3.lt
 have Klen : (gs.filter fun g => g.Kind = 4).length ≤ 40 := Nat.le_trans (List.length_filter_le _ _) (by omega)
 have kn := JA (gs.filter fun g => g.Kind = 4)
 refine FM S8 [47, 101, 118] (by decide) Klen (by omega) fun h9 f9 S9 => ⟨rfl, ?_⟩
 have z9 := f9.size
 refine FM S9 [105, 108] (by decide) Klen (by simp only [List.length_cons, List.length_nil]; omega) fun h10 f10 S10 => ⟨rfl, ?_⟩
 have z10 := f10.size
 have F810 : Fr (fun x => h7.size ≤ x) h8 h10 := (f9.mono fun x hx => hx).trans (f10.mono fun x hx => by rcases hx with hx | hx <;> omega)
 have o310 := (o3.fr0 f8).fr F810 (by omega)
 refine (aA (o310.cells.at0 rfl) (aG (o310.cells.at rfl) (aA (o310.cells.at rfl) (aA (o310.cells.at rfl) (aG (o310.cells.at rfl) (aA (o310.cells.at rfl) (aA (o310.cells.at rfl) (aA (o310.cells.at rfl) (aA (o310.cells.at rfl) ?_)))))))))
 have T10 := (T7.fr0 f8).fr F810 fun x _ hx => by omega
 have ec := Er eg' sdb exF ⟨4, 1, 0, [47, 101, 118, 105, 108]⟩
 rw [zY ex, Mk] at ec
 refine C5 T10 (by omega) (by omega) gsz exF ⟨4, 1, 0, [47, 101, 118, 105, 108]⟩ (by decide) (DQ eg') fun p pc h11 f11 R11 hp => ?_
 rw [ec] at R11 ⊢
 refine ⟨_, _, _, rfl, ?_⟩
 have oneI : ∀ {h : aB} {a : Addr}, Own h a [.int .i64 0] oF → Row 1 Au.lZ h (some a) 1 [0] := fun o => Row.of_own (L := [(0 : Int)]) nk o
 refine aU (vs := [.int .i64 0]) fun t33 h12 f12 e12 o33 => ?_
 refine D8 (R11.fr0 f12) (oneI o33) (by decide) ⟨_, rfl, ?_⟩
 rw [decide_eq_true rfl, if_pos rfl]
 have S12 := S10.fr0 (f11.trans f12)
 simp only [List.nil_append, List.cons_append] at S12
 have hr := DQ eg' (kind := 4) (w := [47, 101, 118, 105, 108])
 refine BA S12 (by omega) Klen (by decide) (by simp only [List.length_cons, List.length_nil]; omega) (fun g hg => gsz g (List.mem_filter.1 hg).1) hr fun p2 pc2 h14 f14 D14 R14 hp2 => ?_
 have ec2 : wW bs exF 1 (pX (gs.filter fun g => g.Kind = 4) [47, 101, 118, 105, 108]) = [0] := ec
 rw [ec2] at R14 D14 ⊢
 refine ⟨_, _, _, rfl, ?_⟩
 refine aU (vs := [.int .i64 0]) fun t38 h15 f15 e15 o38 => ?_
 refine D8 (R14.fr0 f15) (oneI o38) (by decide) ⟨_, rfl, ?_⟩
 rw [decide_eq_true rfl, if_pos rfl]
 refine Gz (D14.fr0 f15) ⟨_, rfl, ?_⟩
 have ew : nD (gs.filter fun g => g.Kind = 4) * 5 + trW (gs.filter fun g => g.Kind = 4) [47, 101, 118, 105, 108] = 5 := by
  have h1 := Fm 4 [47, 101, 118, 105, 108] gs
  rw [eg', qD ex, MD] at h1
  exact h1.symm
 rw [if_pos (by
  simp only [List.length_cons, List.length_nil, beq_iff_eq]
  omega)]
 have f1015 : Fr (fun x => h7.size ≤ x) h10 h15 := (((f11.trans f12).mono fun _ => False.elim).trans (f14.mono fun x hx => by rcases hx with (hx | hx) | hx <;> omega)).trans (f15.mono fun _ => False.elim)
 have T15 := T10.fr f1015 fun x _ hx => by omega
 refine LF T15 (by omega) ⟨_, rfl, ?_⟩
 have e3 : ((bs.length : Nat) : Int) == 3 := by rw [blen]; rfl
 rw [e3]
 exact hk h15 ((((F5.trans f7).trans f8).tr F810 fun x hx hh => by have := F5.size; omega).tr f1015 fun x hx hh => by have := F5.size; omega)
end Go.Proofs.YtjmfpeiidlpngaaGreatDoor
namespace Go.Proofs.YtjmfpeiidlpngaaGreatDoor
set_option linter.unusedSimpArgs false
set_option linter.unusedVariables false
set_option maxRecDepth 20000
open Go
open Go.IntKind (wrap)
section
variable {h : aB} {Q : Value → aB → Prop}
theorem yY [Gh] (l : Sl Bd) (f : aR) (b : bR) {h : aB} (ol : bH 25 aE.vals aE.ok h l) (of : aR.ok h f) (ob : bR.ok h b) {Q : Value → aB → Prop} (hk : ∀ h', Fr (fun _ => False) h h' → Q (.bool true) h') :
  aD Tryz.prog m0 #[.slice l.p l.xs.length l.cap, .agg f.vals.toArray, .agg b.vals.toArray] h Q := by
 apply ub
 unfold nZ
 have aw : ∀ h', Fr (fun _ => False) h h' → aD Tryz.prog iG #[] h' fun v h2 => ∃ t14 : Bool, v = .bool t14 ∧ Q (.bool t14) h2 := fun h' f => Lf fun h2 f2 => ⟨_, rfl, hk h2 (f.trans f2)⟩
 refine aU (vs := f.vals) fun t4 h1 f1 e1 o4 => aU (vs := b.vals) fun t5 h2 f2 e2 o5 => ?_
 have F2 := f1.trans f2
 refine Ll l (bH.fr0 aE.ok_fr F2 ol) fun e h3 f3 hs => ⟨_, rfl, ?_⟩
 have F3 := F2.trans f3
 refine ifN (fun _ => aw h3 F3) fun he => ?_
 obtain ⟨hl, sd⟩ := hs he
 refine aT ((o5.fr0 f3).cells.at (j := 3) rfl) ?_
 rw [aX]
 refine ifD (fun _ => aw h3 F3) fun hd => ?_
 have ol3 := bH.fr0 aE.ok_fr F3 ol
 refine Di l ol3 (by omega) sd (fun h6 f6 nn => ⟨_, _, rfl, ?_⟩) fun s h6 bs gs f6 T eb eg nd => ⟨_, _, rfl, ?_⟩
 ·have ol6 := bH.fr0 aE.ok_fr f6 ol3
  refine BG l ol6 (by omega) (fun _ => ⟨_, _, rfl, ?_⟩) fun s h4 f4 _ _ nd => absurd nd nn
  rw [if_neg (by decide), if_pos (by decide), if_pos (by rfl)]
  exact aw h6 (F3.trans f6)
 ·have ol6 := bH.fr0 aE.ok_fr f6 ol3
  refine BG l ol6 (by omega) (fun nn => absurd nd nn) fun rs h7 f7 RT _ _ => ⟨_, _, rfl, ?_⟩
  rw [if_neg (by decide), if_neg (by decide)]
  refine Cx ?_
  have blen : bs.length = l.xs.length := by have := congrArg List.length eb; simpa using this
  have eg' : gs.map Fp.fJ = iw bs := eg.trans (qD eb.symm)
  have sdb : ∀ b ∈ bs, Snd b := fun b hb => by
   obtain ⟨b', hb', e⟩ := yk eb hb
   exact (sd b' hb').wipe e
  obtain ⟨glen, gsz⟩ := Jc eg' (by omega)
  have T7 := T.fr0 f7
  have F37 := f3.trans (f6.trans f7)
  have F7 := F2.trans F37
  have o47 := (o4.fr0 f2).fr0 F37
  have o57 := o5.fr0 F37
  refine (aA (o47.cells.at0 rfl) (aG (o47.cells.at rfl) (aA (o47.cells.at rfl) (aA (o47.cells.at rfl) (aG (o47.cells.at rfl) (aA (o47.cells.at rfl) (aA (o47.cells.at rfl) (aA (o47.cells.at rfl) (aA (o47.cells.at rfl) ?_)))))))))
  refine aA (o57.cells.at (j := 1) rfl) ?_
  refine (aA (o47.cells.at0 rfl) (aG (o47.cells.at rfl) (aA (o47.cells.at rfl) (aA (o47.cells.at rfl) (aG (o47.cells.at rfl) (aA (o47.cells.at rfl) (aA (o47.cells.at rfl) (aA (o47.cells.at rfl) (aA (o47.cells.at rfl) ?_)))))))))
  refine aA (o57.cells.at (j := 1) rfl) ?_
  refine I9 T7 (by omega) f b.Dir fun p pc h9 f9 R9 hp => ?_
  rw [H6 eb f b.Dir] at R9 ⊢
  refine ⟨_, _, _, rfl, ?_⟩
  have o49 := o47.fr0 f9
  have o59 := o57.fr0 f9
  refine ⟨by refine (aA (o49.cells.at0 rfl) (aG (o49.cells.at rfl) (aA (o49.cells.at rfl) (aA (o49.cells.at rfl) (aG (o49.cells.at rfl) (aA (o49.cells.at rfl) (aA (o49.cells.at rfl) (aA (o49.cells.at rfl) (aA (o49.cells.at rfl) ?_))))))))); rfl, aA (o59.cells.at (j := 1) rfl) rfl, ?_⟩
  have RT9 := RT.fr0 f9
  refine Hw RT9 (by omega) f b.Dir fun p2 pc2 h10 f10 R10 hp2 => ⟨_, _, _, rfl, ?_⟩
  have hlen := vo (atB (fun b' => Au.eE b' f b.Dir) l.xs) l.xs.length
  have hlen : (Ew l.xs f b.Dir).length ≤ l.xs.length := hlen
  refine D8 (R9.fr0 f10) R10 (by omega) ⟨_, rfl, ?_⟩
  rw [decide_eq_true rfl, if_pos rfl]
  have o410 := o49.fr0 f10
  have o510 := o59.fr0 f10
  refine (aA (o410.cells.at0 rfl) (aG (o410.cells.at rfl) (aA (o410.cells.at rfl) (aA (o410.cells.at rfl) (aG (o410.cells.at rfl) (aA (o410.cells.at rfl) (aA (o410.cells.at rfl) (aA (o410.cells.at rfl) (aA (o410.cells.at rfl) ?_)))))))))
  refine (aA (o510.cells.at0 rfl) (aA (o510.cells.at rfl) (aA (o510.cells.at rfl) (aT (o510.cells.at rfl) ?_))))
  refine (aA (o410.cells.at0 rfl) (aG (o410.cells.at rfl) (aA (o410.cells.at rfl) (aA (o410.cells.at rfl) (aG (o410.cells.at rfl) (aA (o410.cells.at rfl) (aA (o410.cells.at rfl) (aA (o410.cells.at rfl) (aA (o410.cells.at rfl) ?_)))))))))
  refine (aA (o510.cells.at0 rfl) (aA (o510.cells.at rfl) (aA (o510.cells.at rfl) (aT (o510.cells.at rfl) ?_))))
  refine C5 ((T7.fr0 f9).fr0 f10) (by omega) (by omega) gsz f b (by omega) (DQ eg') fun p3 pc3 h12 f12 R12 hp3 => ?_
  have ec := Er eg' sdb f b
  rw [zY eb] at ec
  rw [ec] at R12 ⊢
  refine ⟨_, _, _, rfl, ?_⟩
  have o412 := o410.fr0 f12
  have o512 := o510.fr0 f12
  refine ⟨by refine (aA (o412.cells.at0 rfl) (aG (o412.cells.at rfl) (aA (o412.cells.at rfl) (aA (o412.cells.at rfl) (aG (o412.cells.at rfl) (aA (o412.cells.at rfl) (aA (o412.cells.at rfl) (aA (o412.cells.at rfl) (aA (o412.cells.at rfl) ?_))))))))); rfl, by refine (aA (o512.cells.at0 rfl) (aA (o512.cells.at rfl) (aA (o512.cells.at rfl) (aT (o512.cells.at rfl) ?_)))); rfl, ?_⟩
  refine FX ((RT9.fr0 f10).fr0 f12) (by omega) sd f b (by omega) fun p4 pc4 h13 f13 R13 hp4 => ⟨_, _, _, rfl, ?_⟩
  have clen : (ua l.xs f b).length ≤ l.xs.length := vo _ _
  refine D8 (R12.fr0 f13) R13 (by omega) ⟨_, rfl, ?_⟩
  rw [decide_eq_true rfl, if_pos rfl]
  exact aw h13 (((((F7.trans f9).trans f10).trans f12)).trans f13)
end
end Go.Proofs.YtjmfpeiidlpngaaGreatDoor
namespace Go.Proofs.YtjmfpeiidlpngaaGreatDoor.rulesetSelects
set_option linter.unusedSimpArgs false
set_option linter.unusedVariables false
set_option maxRecDepth 20000
open Go Go.ChangeShapes Go.WideShapes Go.ChangeAt Go.RowKit
open Go.ChangeMaps (open_string shut_string)
theorem own : ownKnob Tryz.prog.godebug = none := by kernel_rfl
theorem D1 : laidOutB Tryz.prog = true := by kernel_rfl
set_option maxRecDepth 100000 in
theorem My (os : Os) (started : os.Started) (H : Type) (enc : TypeId × Value → H) :
  ReturnsInHanded {} Tryz.checked os 5 .any (fun w args => (Rows.rulesetSelectsSpec.pre enc Tryz.prog Tryz.f5 Rows.rulesetSelectsRow.domain false w args ∧ laidMet Tryz.prog Rows.rulesetSelectsRow.laid w) ∧ sizedMet enc Tryz.prog Tryz.f5 (OpenSpec.ofChange Rows.rulesetSelectsSpec) false w args) (Rows.rulesetSelectsSpec.post enc Tryz.prog Tryz.f5 false true false false) := by
 refine returnsInHanded_of_change_and (C := Tryz.checked) (X := fun w _ => laidMet Tryz.prog Rows.rulesetSelectsRow.laid w) (fun _ _ _ hh h => h.of_heap hh) own started (by kernel_rfl) Tryz.func5
  (ChangeSpec.witness_shaped (enc := enc) (C := Tryz.checked) (os := os) (X := fun w _ => laidMet Tryz.prog Rows.rulesetSelectsRow.laid w) false (World.laidAll Tryz.prog os Rows.rulesetSelectsRow.laid) #[.slice none 0 0, .agg #[.int .i64 0, .bool false, .int .u64 0, .int .u64 0, .bool false, .int .u64 0, .int .u64 0, .int .i64 0, .int .i64 0], .agg #[.int .i64 0, .int .i64 0, .int .i64 0, .string ByteArray.empty]] 8 (World.laidAll_os ..) (World.shaped_of_ZipB (by kernel_rfl) (by kernel_rfl)) (by kernel_rfl) (by kernel_rfl) (by kernel_rfl)
   (laidMet_laidAll _ (by kernel_rfl) (by kernel_rfl))) ?_
 intro W base args ds gs before hval0 hW hcnd hsz0 hL _
 have hval : ∀ (j : Nat) t v, Tryz.f5.params[j]? = some t → args[j]? = some v → Value.okWide Tryz.prog W .any base t v := hval0
 have hW' := hW
 obtain ⟨p, q, hA0, hV, rfl, hfz, hnd⟩ := hW
 have hA : DataW.TrodAll enc Tryz.prog W 0 (fun _ => true) true Tryz.f5.params.toList args.toList ds p := hA0
 rw [Tryz.params5] at hA hval
 obtain ⟨v0, vs0, d0, ds0, p0, q0, hargs, rfl, rfl, h0, r0⟩ := trodAll_cons hA
 obtain ⟨v1, vs1, d1, ds1, p1, q1, rfl, rfl, rfl, h1, r1⟩ := trodAll_cons r0
 obtain ⟨v2, vs2, d2, ds2, p2, q2, rfl, rfl, rfl, h2, r2⟩ := trodAll_cons r1
 obtain ⟨rfl, rfl, rfl⟩ := trodAll_nil r2
 obtain rfl : args = #[v0, v1, v2] := by cases args; simp_all
 obtain ⟨rfl, rfl⟩ := trodVars_none hV
 have k0 := h0
 have lt0 : ∀ x ∈ p0, x.block < W.heap.size := by obtain ⟨m, hm⟩ := k0; exact DataW.trod_lt m _ _ _ hm
 obtain ⟨a0, len0, cap0, rfl⟩ := okWide_slice Tryz.underlying22 (hval 0 22 v0 rfl rfl)
 obtain ⟨x0, e0, o0⟩ : ∃ y : Sl aE, Value.slice a0 len0 cap0 = y.v ∧ (bH 25 aE.vals aE.ok) W.heap y := by
  obtain ⟨fuel, hf⟩ := h0
  obtain ⟨y, e, o⟩ := ((tJ Tryz.underlying22 (by kernel_rfl) (fun _ => rfl) aE.op) : bN enc Tryz.prog W 22 (fun s : Sl aE => [s.v]) (bH 25 aE.vals aE.ok)) _ _ _ hf
  exact ⟨y, List.head_eq_of_cons_eq e, o⟩
 obtain ⟨rfl, rfl, rfl⟩ : a0 = x0.p ∧ len0 = x0.xs.length ∧ cap0 = x0.cap := by simpa [Sl.v] using e0
 have k1 := h1
 have lt1 : ∀ x ∈ p1, x.block < W.heap.size := by obtain ⟨m, hm⟩ := k1; exact DataW.trod_lt m _ _ _ hm
 obtain ⟨c1, rfl, _⟩ := okWide_struct Tryz.underlying27 (hval 1 27 v1 rfl rfl)
 obtain ⟨x1, e1, o1⟩ : ∃ y : aR, c1 = (aR.vals y).toArray ∧ aR.ok W.heap y := by
  obtain ⟨fuel, hf⟩ := h1
  obtain ⟨y, e, o⟩ := (aR.op : bN enc Tryz.prog W 27 aR.vals aR.ok) _ _ _ hf
  exact ⟨y, by rw [← e]; simp [Value.cells], o⟩
 subst e1
 have k2 := h2
 have lt2 : ∀ x ∈ p2, x.block < W.heap.size := by obtain ⟨m, hm⟩ := k2; exact DataW.trod_lt m _ _ _ hm
 obtain ⟨c2, rfl, _⟩ := okWide_struct Tryz.underlying51 (hval 2 51 v2 rfl rfl)
 obtain ⟨x2, e2, o2⟩ : ∃ y : bR, c2 = (bR.vals y).toArray ∧ bR.ok W.heap y := by
  obtain ⟨fuel, hf⟩ := h2
  obtain ⟨y, e, o⟩ := (bR.op : bN enc Tryz.prog W 51 bR.vals bR.ok) _ _ _ hf
  exact ⟨y, by rw [← e]; simp [Value.cells], o⟩
 subst e2
 clear hA0 hval0 hsz0
 refine (HQ (Tryz.call5 _) (fun Q hk => yY x0 x1 x2 o0 o1 o2 hk)).mono fun e W' ⟨he, bel⟩ => ?_
 subst he
 exact ⟨_, rfl, _, _, _, [], _, [], hW', trodAll_mk1 (shut_bool Tryz.underlying4 _), (trodAll_cons_mk (Below.trod D1 (by kernel_rfl) (of_decide_eq_true (by kernel_rfl)) k0 bel lt0) (trodAll_cons_mk (Below.trod D1 (by kernel_rfl) (of_decide_eq_true (by kernel_rfl)) k1 bel lt1) (trodAll_cons_mk (Below.trod D1 (by kernel_rfl) (of_decide_eq_true (by kernel_rfl)) k2 bel lt2) trodAll_mk0))), rfl, bel.frame _, fun h => by cases h⟩
theorem over : Rows.rulesetSelectsRow.holds Tryz.pinned (OpenSpec.ofChange Rows.rulesetSelectsSpec) :=
 OpenClaim.holds_of_wide 5 Tryz.f5 rfl rfl rfl rfl rfl rfl rfl ⟨rfl, rfl, rfl, rfl, rfl⟩ rfl rfl rfl rfl rfl (by kernel_rfl) Tryz.func5 (by kernel_rfl)
  (of_decide_eq_true (by kernel_rfl)) (by unfold Func.isWrapper; first | (rw [if_pos (by decide +kernel)]; kernel_rfl) | (rw [if_neg (by decide +kernel)]; exact ⟨rfl, rfl⟩))
  (fun os started H enc _ => My os started H enc)
theorem card_holds : Rows.RulesetSelectsCardSaid :=
 Claim7.holds_tied_plain_at .later [] [.data, .pinned] true (true, "5e104a27cbbb9a9f702d2c67a6526b429eab3fb5f9ff9b91391d8179eab60239") false
  over (fun _ h => by cases h) (by kernel_rfl) (fun _ h => by cases h) rulesetSelects_row_tie rfl ⟨rfl, rfl⟩ (by kernel_rfl) rfl
  (fun f fn hf hfn => by
   obtain rfl : f = 5 := Option.some.inj ((show Tryz.prog.funcNamed "intrusion/intrusionlaw47.RulesetSelects" = some 5 by kernel_rfl).symm.trans hf) |>.symm
   obtain rfl : fn = Tryz.f5 := (Option.some.inj (Tryz.func5.symm.trans hfn)).symm
   exact ⟨by kernel_rfl, fun j t ht => by
    rw [Tryz.params5] at ht
    match j, ht with
    | 0, ht => obtain rfl : t = 22 := (Option.some.inj ht).symm; exact (show Tryz.prog.wantsStandIn 22 = false by kernel_rfl)
    | 1, ht => obtain rfl : t = 27 := (Option.some.inj ht).symm; exact (show Tryz.prog.wantsStandIn 27 = false by kernel_rfl)
    | 2, ht => obtain rfl : t = 51 := (Option.some.inj ht).symm; exact (show Tryz.prog.wantsStandIn 51 = false by kernel_rfl)
    | _ + 3, ht => cases ht⟩)
  (by kernel_rfl)
end Go.Proofs.YtjmfpeiidlpngaaGreatDoor.rulesetSelects
namespace Go.Proofs.YtjmfpeiidlpngaaGreatDoor
theorem rulesetSelects_holds : Rows.RulesetSelectsCardSaid := rulesetSelects.card_holds
#print axioms rulesetSelects_holds
end Go.Proofs.YtjmfpeiidlpngaaGreatDoor
