/-
  Part 4 of 5 of the proofs: the texts of wip/ in one file, without what this claim does not use.
-/
import Derived.Test.YtjmfpeiidlpngaaGreatDoorZU3
namespace Go.Proofs.YtjmfpeiidlpngaaGreatDoor.Fp
set_option linter.unusedSimpArgs false
set_option linter.unusedVariables false
set_option maxRecDepth 20000
open Go
theorem Ii {α : Type} (A B : α → Value) : ∀ (l : List α) (n : Nat) (hn : n < l.length), (l.flatMap fun p => [A p, B p])[n * 2]? = some (A l[n]) ∧ (l.flatMap fun p => [A p, B p])[n * 2 + 1]? = some (B l[n])
 | [], n, hn => absurd hn (Nat.not_lt_zero _)
 | x :: l, 0, hn => by simp
 | x :: l, n + 1, hn => by
  have := Ii A B l n (by simpa using hn)
  have e1 : (n + 1) * 2 = n * 2 + 2 := by omega
  rw [e1]
  simpa using this
theorem yZ {α : Type} {p : α → Bool} {l : List α} {k : Nat} (hk : k < l.length) (h1 : p l[k] = true) (h2 : ∀ j (hj : j < l.length), j < k → p l[j] = false) : l.findIdx p = k :=
 (List.findIdx_eq hk).2 ⟨h1, fun j hj => h2 j (by omega) hj⟩
theorem zH {α : Type} {p : α → Bool} {l : List α} (h : ∀ j (hj : j < l.length), p l[j] = false) : l.findIdx p = l.length := by
 rw [List.findIdx_eq_length]
 intro x hx
 obtain ⟨j, hj, rfl⟩ := List.mem_iff_getElem.1 hx
 exact h j hj
theorem KC [Gh] (r : Ru) (kind : Int) (T : Sl Int) (a2 a3 a4 : Option Addr) (n2 n3 n4 c2 c3 c4 : Nat) {t5 : Addr} {h : aA} (o5 : Own h t5 r.vals cO) (ok : r.ok h) (hT : iA h T) (ht : r.Transforms.xs.length ≤ 2 ^ 20) {K : Value → aA → Prop}
  (hk : ∀ h', Fr (fun _ => False) h h' → K (.bool (kind == r.Kind && T.xs == r.Transforms.xs)) h') :
  mw Tryz.prog (.func (.func jX) #[] #[.pointer (some t5)]) #[.agg #[.int .i64 kind, .slice T.p T.xs.length T.cap, .slice a2 n2 c2, .slice a3 n3 c3, .slice a4 n4 c4]] h K := by
 rw [cK]
 simp only [List.append_toArray, List.nil_append, List.cons_append]
 apply tu
 unfold nr
 refine bA fun a h1 f1 ha o1 => ?_
 refine aB (o1.cells.at0 rfl) (aB ((Own.fr0 f1 o5).cells.at rfl) ?_)
 refine ifE (fun he => ?_) (fun hne => ?_)
 ·refine aD (o1.cells.at rfl) (aD ((Own.fr0 f1 o5).cells.at rfl) ?_)
  refine Jk T r.Transforms (bJ.fr0 yA f1 hT) (bJ.fr0 yA f1 ok.k13) (by omega) ⟨_, rfl, ?_⟩
  have := hk _ f1
  have e : (kind == r.Kind) = true := by simpa using he
  rw [e, Bool.true_and] at this; exact this
 ·have := hk _ f1
  have e : (kind == r.Kind) = false := by simpa using hne
  rw [e, Bool.false_and] at this; exact this
section
variable {h : aA} {gs : List Grp} {tr : Nat → Sl Int} {sl : Ix → Option Addr} {cap : Ix → Nat} {cs : Ix → List Value}
theorem H3 [Gh] (G : lT h gs tr sl cap cs) (r : Ru) {t5 : Addr} (o5 : Own h t5 r.vals cO) (ok : r.ok h) (ht : r.Transforms.xs.length ≤ 2 ^ 20) (hl : gs.length ≤ 2 ^ 20) {Q : Value → aA → Prop}
  (hk : ∀ h', Fr (fun _ => False) h h' → Q (.int .i64 (gs.findIdx (r6 r) : Nat)) h') :
  aE Tryz.prog gC #[.slice (sl xO) gs.length (cap xO), .func (.func jX) #[] #[.pointer (some t5)]] h Q := by
 apply pu
 unfold j7
 refine aJ.mk (fun i h' => ∃ k : Nat, i = k ∧ k ≤ gs.length ∧ Fr (fun _ => False) h h' ∧ ∀ j (hj : j < gs.length), j < k → r6 r gs[j] = false) (fun i _ => gs.length - i.toNat) ⟨0, rfl, by omega, Fr.refl _ _, fun j _ hj => by omega⟩ ?_
 rintro i h1 ⟨k, rfl, hkl, f1, hpre⟩
 unfold fY
 refine ifD (fun hlt => ?_) (fun hge => ?_)
 ·have hks : k < gs.length := by omega
  have G1 := G.fr f1
  obtain ⟨ad, eo, hs, cc⟩ := G1.out hks
  refine bS k rfl hks ?_
  rw [eo, Int.toNat_natCast]
  refine aS ?_
  refine (aB (cc.at0 rfl) (aD (cc.at rfl) (aD (cc.at rfl) (aD (cc.at rfl) (aD (cc.at rfl) ?_)))))
  refine rm rfl rfl fun t6 h2 f2 _ o6 => ?_
  refine (aB (o6.cells.at0 rfl) (aD (o6.cells.at rfl) (aD (o6.cells.at rfl) (aD (o6.cells.at rfl) (aD (o6.cells.at rfl) ?_)))))
  have f12 := f1.trans f2
  refine KC r _ (tr k) _ _ _ _ _ _ _ _ _ (Own.fr0 f12 o5) (aO.ok_fr _ _ _ f12 ok) (bJ.fr0 yA f12 (G.trok k hks).1) ht fun h3 f3 => ⟨_, rfl, ?_⟩
  have ef : (gs[k].kind == r.Kind && (tr k).xs == r.Transforms.xs) = r6 r gs[k] := by rw [(G.row k hks).trx]; rfl
  rw [ef]
  refine ifB (fun hf => ?_) (fun hf => ?_)
  ·have := hk _ (f12.trans f3)
   rw [yZ hks hf hpre] at this; exact this
  ·rw [wr (by omega) (by omega)]
   refine ⟨⟨k + 1, by omega, by omega, f12.trans f3, fun j hj hjk => ?_⟩, by omega⟩
   by_cases e : j = k
   ·subst e; exact hf
   ·exact hpre j hj (by omega)
 ·have e : k = gs.length := by omega
  unfold gB
  have := hk _ f1
  rw [zH fun j hj => hpre j hj (by omega)] at this; exact this
theorem JI [Gh] (p q : List UInt8 × Bool) {t8 : Addr} {h : aA} {T : TypeId} (o8 : Own h t8 [.string (bs p.1), .bool p.2] T) {K : Value → aA → Prop} (hk : ∀ h', Fr (fun _ => False) h h' → K (.bool (q == p)) h') :
  mw Tryz.prog (.func (.func jR) #[] #[.pointer (some t8)]) #[.agg #[.string (bs q.1), .bool q.2]] h K := by
 rw [cK]
 simp only [List.append_toArray, List.nil_append, List.cons_append]
 apply tD
 unfold nb
 refine bA fun a h1 f1 ha o1 => ?_
 refine aY (o1.cells.at0 rfl) (aG (o1.cells.at rfl) (aY ((Own.fr0 f1 o8).cells.at0 rfl) (aG ((Own.fr0 f1 o8).cells.at rfl) ?_)))
 have := hk _ f1
 have e : (q == p) = ((bs q.1 == bs p.1) && ((q.2 == p.2) && true)) := by rw [Lf, Bool.and_true]; rfl
 rw [e] at this; exact this
theorem HD [Gh] (G : lT h gs tr sl cap cs) {i : Nat} (hi : i < gs.length) (p : List UInt8 × Bool) {t8 : Addr} {T : TypeId} (o8 : Own h t8 [.string (bs p.1), .bool p.2] T) (hl : gs[i].pats.length ≤ 2 ^ 20) {Q : Value → aA → Prop}
  (hk : ∀ h', Fr (fun _ => False) h h' → Q (.int .i64 (gs[i].pats.findIdx (· == p) : Nat)) h') :
  aE Tryz.prog fJ #[.slice (sl (xP i)) gs[i].pats.length (cap (xP i)), .func (.func jR) #[] #[.pointer (some t8)]] h Q := by
 apply og
 unfold jM
 refine aJ.mk (fun j h' => ∃ k : Nat, j = k ∧ k ≤ gs[i].pats.length ∧ Fr (fun _ => False) h h' ∧ ∀ j (hj : j < gs[i].pats.length), j < k → (gs[i].pats[j] == p) = false) (fun j _ => gs[i].pats.length - j.toNat) ⟨0, rfl, by omega, Fr.refl _ _, fun j _ hj => by omega⟩ ?_
 rintro j h1 ⟨k, rfl, hkl, f1, hpre⟩
 unfold fG
 refine ifD (fun hlt => ?_) (fun hge => ?_)
 ·have hks : k < gs[i].pats.length := by omega
  have G1 := G.fr f1
  have hpl := (G.row i hi).pl
  have hget := Ii (fun p : List UInt8 × Bool => Value.string (bs p.1)) (fun p => Value.bool p.2) gs[i].pats k hks
  rw [← hpl] at hget
  obtain ⟨ad, eo, cc⟩ := G1.fam.some_of (x := xP i) (by intro e; rw [List.length_eq_zero_iff.1 e] at hget; simp at hget)
  have hs : ad.spot = none := by have := G1.fam.own (xP i); rw [eo] at this; exact this.2.1
  refine bS k rfl hks ?_
  rw [eo, Int.toNat_natCast]
  refine aS ?_
  refine aY (cc.at hget.1) (aG (by rw [lY hs]; exact cc.at hget.2) ?_)
  refine rm rfl rfl fun t6 h2 f2 _ o6 => ?_
  refine (aY (o6.cells.at0 rfl) (aG (o6.cells.at rfl) ?_))
  have f12 := f1.trans f2
  refine JI p gs[i].pats[k] (Own.fr0 f12 o8) fun h3 f3 => ⟨_, rfl, ?_⟩
  refine ifB (fun hf => ?_) (fun hf => ?_)
  ·have := hk _ (f12.trans f3)
   rw [yZ hks hf hpre] at this; exact this
  ·rw [wr (by omega) (by omega)]
   refine ⟨⟨k + 1, by omega, by omega, f12.trans f3, fun j hj hjk => ?_⟩, by omega⟩
   by_cases e : j = k
   ·subst e; exact hf
   ·exact hpre j hj (by omega)
 ·have e : k = gs[i].pats.length := by omega
  unfold fM
  have := hk _ f1
  rw [zH fun j hj => hpre j hj (by omega)] at this; exact this
theorem LM {x y : Ix} (F : Fam szG h sl cap cs) {ad : Addr} (hx : sl x = some ad) (hn : x ≠ y) : ¬ InA (sl y) ad.block := fun hb => hn (F.apart _ _ _ ⟨ad, hx, rfl⟩ hb)
theorem Lz {N : Nat} (G : lT h gs tr sl cap cs) {i : Nat} (hi : i < gs.length) {n : Nat} (hn : n < gs[i].rules.length) (hb : gs[i].rules[n].length ≤ 2 ^ 20) (k : Nat) {oa : Option Addr} {on oc : Nat} {ad : Addr} (hoa : sl xO = some ad)
  {ta : Option Addr} {tn tc : Nat} {tl t13 : Int} {Q : QT} {Kn : Option Addr × Nat × Nat × Int → aA → Prop}
  (hk : ∀ h' sl' cap' cs', lT h' (gs.modify i fun g => { g with rules := g.rules.modify n (· ++ [(k : Int)]) }) tr sl' cap' cs' → bW N h h' sl sl' → sl' xO = sl xO → cap' xO = cap xO → Kn (oa, on, oc, IntKind.wrap .i64 (t13 + 1)) h') :
  fU oa on oc k (ad.add (i * 5)) n ta tn tc tl t13 Q Kn h := by
 unfold fU
 obtain ⟨ad', eo, hs, cc⟩ := G.out hi
 rw [hoa] at eo; cases eo
 have r := G.row i hi
 refine aD (cc.at rfl) (aD (cc.at rfl) ?_)
 obtain ⟨rd, er, rc⟩ := G.fam.some_of (x := xR i) (by rw [r.rl]; omega)
 refine bS n rfl hn ?_
 rw [er, Int.toNat_natCast]
 refine aS (aD (by rw [Nat.mul_one]; exact rc.at (r.rg n hn)) ?_)
 refine bA (vs := [.int .i64 k]) fun b h1 f1 hb1 o1 => ?_
 refine ⟨aD ((bB.fr0 f1 cc).at rfl) (by rw [er]), aD ((bB.fr0 f1 cc).at rfl) (by rw [er]), aD (by rw [Nat.mul_one]; exact (bB.fr0 f1 rc).at (r.rg n hn)) rfl, ?_⟩
 have es : (Tryz.t3).size = 1 := by kernel_rfl
 have eb : (Tryz.t3).bytes = 8 := by kernel_rfl
 have hil := r.il n hn
 have G1 := G.fr f1
 refine Fam.app ti Tryz.underlying46 (by intro k e; cases e) G1.fam (xI i n) (by rw [es]; rfl) (by rw [hil.1]; simp [uU, szG]) hil.2 (Src.one o1 (by rw [es]; rfl) 1) (by intro v hv; rw [List.mem_singleton.1 hv]; rfl) (by rw [eb]; omega) fun a' c' h2 F2 hc2 f2 hn2 => ⟨_, _, _, rfl, ?_⟩
 have nR : (xR i) ≠ xI i n := gF (by decide) _ _ _ _
 have nO : xO ≠ xI i n := gF (by decide) _ _ _ _
 have hnO := LM G1.fam hoa nO
 refine ⟨aD ((bB.fr (bB.fr0 f1 cc) f2 (by rw [vq]; exact hnO)).at rfl) (by rw [er]), ?_⟩
 refine bS n rfl hn (aS ?_)
 rw [Nat.mul_one]
 refine F2.set (xR i) (by rw [bH _ _ nR]; exact er) (by rw [bH _ _ nR, r.rl]; exact hn) rfl fun h3 F3 f3 => ?_
 have t2 : bW N h h2 sl (put sl (xI i n) a') := (bW.of_fr f1).trans (bW.of_app f2 hn2)
 have t3 : bW N h h3 sl (put sl (xI i n) a') := t2.trans (bW.of_set f3)
 exact hk _ _ _ _ (G.inner hi hn k hc2 F3 t3) t3 (bH _ _ nO) (bH _ _ nO)
end
end Go.Proofs.YtjmfpeiidlpngaaGreatDoor.Fp
namespace Go.Proofs.YtjmfpeiidlpngaaGreatDoor.Fp
set_option linter.unusedSimpArgs false
set_option linter.unusedVariables false
set_option maxRecDepth 20000
open Go
theorem KA : gW Tryz.prog eU bG Tryz.t160 (.agg #[.string ⟨#[]⟩, .bool false]) := ⟨Tryz.underlying84, by kernel_rfl, by kernel_rfl, by kernel_rfl, by decide⟩
theorem LH : gW Tryz.prog ri bL Tryz.t46 (.slice none 0 0) := ⟨Tryz.underlying85, by kernel_rfl, by kernel_rfl, by kernel_rfl, by decide⟩
theorem EO : gW Tryz.prog nL mU Tryz.t87 (.agg #[.int .i64 0, .slice none 0 0, .slice none 0 0, .slice none 0 0, .slice none 0 0]) := ⟨Tryz.underlying82, by kernel_rfl, by kernel_rfl, by kernel_rfl, by decide⟩
theorem BA {α : Type} (A B : α → Value) : ∀ (l : List α), (l.flatMap fun p => [A p, B p]).length = l.length * 2
 | [] => rfl
 | x :: l => by rw [List.flatMap_cons, List.length_append, BA A B l]; simp; omega
theorem _root_.Go.Proofs.YtjmfpeiidlpngaaGreatDoor.Fam.cell {h : aA} {sl : Ix → Option Addr} {cap : Ix → Nat} {cs : Ix → List Value} (F : Fam szG h sl cap cs) {x : Ix} {ad : Addr} (hx : sl x = some ad) {j : Nat} {v : Value} (hj : (cs x)[j]? = some v) : hcell h (ad.add j) = some v := by
 have o := F.own x; rw [hx] at o; exact o.cells.at hj
theorem tJ {α : Type} {l : List α} {i : Nat} (hi : i < l.length) {f g : α → α} (h : f l[i] = g l[i]) : l.modify i f = l.modify i g := by
 apply List.ext_getElem (by simp)
 intro j h1 h2
 rw [List.getElem_modify, List.getElem_modify]
 split
 ·rename_i e; subst e; exact h
 ·rfl
theorem Cb {α : Type} (l : List α) (i : Nat) (f g : α → α) : (l.modify i f).modify i g = l.modify i (fun x => g (f x)) := by
 apply List.ext_getElem (by simp)
 intro j h1 h2
 rw [List.getElem_modify, List.getElem_modify, List.getElem_modify]
 split <;> simp_all
theorem DS {α : Type} (l : List α) (x : α) (f : α → α) : (l ++ [x]).modify l.length f = l ++ [f x] := by
 apply List.ext_getElem (by simp)
 intro j h1 h2
 rw [List.getElem_modify]
 by_cases e : l.length = j
 ·subst e; rw [if_pos rfl]; simp
 ·have hj : j < l.length := by simp at h1; omega
  rw [if_neg e, List.getElem_append_left hj, List.getElem_append_left hj]
section
variable {h : aA} {gs : List Grp} {tr : Nat → Sl Int} {sl : Ix → Option Addr} {cap : Ix → Nat} {cs : Ix → List Value}
theorem LB [Gh] {N : Nat} (G : lT h gs tr sl cap cs) {i : Nat} (hi : i < gs.length) {m : Nat} (sm : ∀ g ∈ gs, g.pats.length ≤ m ∧ g.rules.length = g.pats.length ∧ g.always.length ≤ m ∧ ∀ l ∈ g.rules, l.length ≤ m) (hm : m ≤ 2 ^ 20) (k : Nat) (r : Ru) {t5 : Addr} (o5 : Own h t5 r.vals cO) (h5 : ∀ x b, InA (sl x) b → b ≠ t5.block)
  (ok : r.ok h) (sh : xH r.Contents.xs) {ta : Option Addr} {tn tc : Nat} {tl t13 : Int} {Q : QT} {Kn : Option Addr × Nat × Nat × Int → aA → Prop}
  (hk : ∀ h' sl' cap' cs', lT h' (gs.modify i (rX k r)) tr sl' cap' cs' → bW N h h' sl sl' → sl' xO = sl xO → cap' xO = cap xO → Kn (sl xO, gs.length, cap xO, IntKind.wrap .i64 (t13 + 1)) h') :
  fV (sl xO) gs.length (cap xO) k t5 i ta tn tc tl t13 Q Kn h := by
 unfold fV
 obtain ⟨ad, eo, hs, cc⟩ := G.out hi
 have rw_ := G.row i hi
 obtain ⟨sm1, sm2, sm3, sm4⟩ := sm _ (List.getElem_mem hi)
 refine bS i rfl hi ?_
 generalize hoa : sl xO = oa at hk ⊢
 rw [hoa] at eo
 subst eo
 rw [Int.toNat_natCast]
 refine aS ?_
 refine (aB (o5.cells.at0 rfl) (aB (o5.cells.at rfl) (aD (o5.cells.at rfl) (aD (o5.cells.at rfl) (aD (o5.cells.at rfl) (aD (o5.cells.at rfl) (aG (o5.cells.at rfl) (aB (o5.cells.at rfl) (aB (o5.cells.at rfl) (aB (o5.cells.at rfl) (aY (o5.cells.at rfl) (aB (o5.cells.at rfl) (aB (o5.cells.at rfl) (aD (o5.cells.at rfl) (aD (o5.cells.at rfl) (aD (o5.cells.at rfl) (aD (o5.cells.at rfl) (aB (o5.cells.at rfl) (aB (o5.cells.at rfl) (aB (o5.cells.at rfl) (aB (o5.cells.at rfl) ?_)))))))))))))))))))))
 refine FV r ok sh fun h1 f1 => ?_
 unfold Km
 cases hp : uy r.Contents.xs with
 | none =>
  refine ⟨bs [], false, false, rfl, ?_⟩
  refine rm rfl rfl fun t8 h2 f2 _ o8 => ?_
  have f12 := f1.trans f2
  have G2 := G.fr f12
  have cc2 := bB.fr0 f12 cc
  refine ifN (fun _ => ?_) (fun hx => by cases hx)
  refine aD (cc2.at rfl) ?_
  refine bA (vs := [.int .i64 k]) fun b h3 f3 hb3 o3 => ?_
  have es : (Tryz.t3).size = 1 := by kernel_rfl
  have eb : (Tryz.t3).bytes = 8 := by kernel_rfl
  have G3 := G2.fr f3
  refine Fam.app ti Tryz.underlying46 (by intro k e; cases e) G3.fam (xA i) (by rw [es]; rfl) (by rw [rw_.al]; simp [uU, szG]) rw_.ac (Src.one o3 (by rw [es]; rfl) 1) (by intro v hv; rw [List.mem_singleton.1 hv]; rfl) (by rw [eb]; omega) fun a' c' h4 F4 hc4 f4 hn4 => ⟨_, _, _, rfl, ?_⟩
  have nO : xO ≠ xA i := gF (by decide) _ _ _ _
  have hO : put sl (xA i) a' xO = some ad := by rw [bH _ _ nO]; exact hoa
  rw [lY hs]
  refine F4.set xO hO (by rw [bH _ _ nO, G.olen]; omega) rfl fun h5 F5 f5 => ?_
  have t4 : bW N h h4 sl (put sl (xA i) a') := (bW.of_fr (f12.trans f3)).trans (bW.of_app f4 hn4)
  have t5' : bW N h h5 sl (put sl (xA i) a') := t4.trans (bW.of_set f5)
  have e : gs.modify i (rX k r) = gs.modify i fun g => { g with always := g.always ++ [(k : Int)] } := tJ hi (by unfold rX; rw [hp])
  rw [e] at hk
  exact hk _ _ _ _ (G.always hi k hc4 F5 t5') t5' ((bH _ _ nO).trans hoa) (bH _ _ nO)
 | some p =>
  refine ⟨bs p.1, p.2, true, rfl, ?_⟩
  refine rm rfl rfl fun t8 h2 f2 _ o8 => ?_
  have f12 := f1.trans f2
  have G2 := G.fr f12
  have cc2 := bB.fr0 f12 cc
  refine ifN (fun hx => by cases hx) (fun _ => ?_)
  refine aD (cc2.at rfl) ?_
  refine HD G2 hi p o8 (by omega) fun h3 f3 => ⟨_, rfl, ?_⟩
  have f13 := f12.trans f3
  have G3 := G.fr f13
  have cc3 := bB.fr0 f13 cc
  refine aD (cc3.at rfl) ?_
  have hle : gs[i].pats.findIdx (· == p) ≤ gs[i].pats.length := List.findIdx_le_length
  refine ifE (fun hq => ?_) (fun hq => ?_)
  ·have hq' : gs[i].pats.findIdx (· == p) = gs[i].pats.length := by omega
   have o8' := Own.fr0 f3 o8
   refine aD (cc3.at rfl) (aY (o8'.cells.at0 rfl) (aG (o8'.cells.at rfl) ?_))
   refine bA fun b h4 f4 hb4 o4 => ?_
   have f14 := f13.trans f4
   have G4 := G.fr f14
   have cc4 := bB.fr0 f14 cc
   refine ⟨aD (cc4.at rfl) rfl, ?_⟩
   have es : (Tryz.t160).size = 2 := by kernel_rfl
   have eb : (Tryz.t160).bytes = 24 := by kernel_rfl
   refine Fam.app KA Tryz.underlying84 (by intro k e; cases e) G4.fam (xP i) (by rw [es]; rfl) (by rw [rw_.pl, BA (fun p : List UInt8 × Bool => Value.string (bs p.1)) (fun p => Value.bool p.2)]; rfl) rw_.pc (Src.one o4 (by rw [es]; rfl) 1) (by intro v hv; simp at hv; rcases hv with rfl | rfl <;> rfl) (by rw [eb]; omega) fun a1 c1 h5 F5 hc5 f5 hn5 => ⟨_, _, _, rfl, ?_⟩
   have nO : xO ≠ xP i := gF (by decide) _ _ _ _
   have nRP : xR i ≠ xP i := gF (by decide) _ _ _ _
   have nRO : xR i ≠ xO := gF (by decide) _ _ _ _
   have nOR : xO ≠ xR i := gF (by decide) _ _ _ _
   have nPO : xP i ≠ xO := gF (by decide) _ _ _ _
   have nPR : xP i ≠ xR i := gF (by decide) _ _ _ _
   have hO : put sl (xP i) a1 xO = some ad := by rw [bH _ _ nO]; exact hoa
   have hol := G.olen
   rw [lY hs]
   refine F5.set xO hO (by rw [bH _ _ nO, hol]; omega) rfl fun h6 F6 f6 => ?_
   rw [lY hs]
   refine aD (F6.cell hO (by rw [cB, List.getElem?_set_ne (by omega), bH _ _ nO]; exact rw_.o3)) ?_
   refine bA (vs := [.slice none 0 0]) fun b2 h7 f7 hb7 o7 => ?_
   have F7 := F6.fr0 f7
   have es2 : (Tryz.t46).size = 1 := by kernel_rfl
   have eb2 : (Tryz.t46).bytes = 24 := by kernel_rfl
   have eR : put sl (xP i) a1 (xR i) = sl (xR i) := bH _ _ nRP
   have eRc : put cap (xP i) c1 (xR i) = cap (xR i) := bH _ _ nRP
   rw [← eR, ← eRc]
   refine Fam.app LH Tryz.underlying85 (by intro k e; cases e) F7 (xR i) (by rw [es2]; rfl) (by rw [bH _ _ nRO, bH _ _ nRP, rw_.rl]; simp [szG]) (by rw [eRc]; exact rw_.rc) (Src.one o7 (by rw [es2]; rfl) 1) (by intro v hv; rw [List.mem_singleton.1 hv]; rfl) (by rw [eb2]; omega) fun a2 c2 h8 F8 hc8 f8 hn8 => ⟨_, _, _, rfl, ?_⟩
   have hO8 : put (put sl (xP i) a1) (xR i) a2 xO = some ad := by rw [bH _ _ nOR]; exact hO
   refine F8.set xO hO8 (by rw [bH _ _ nOR, cB, List.length_set, bH _ _ nO, hol]; omega) rfl fun h9 F9 f9 => ?_
   have t5' : bW N h h5 sl (put sl (xP i) a1) := (bW.of_fr f14).trans (bW.of_app f5 hn5)
   have t7 : bW N h h7 sl (put sl (xP i) a1) := (t5'.trans (bW.of_set f6)).trans (bW.of_fr f7)
   have t9 : bW N h h9 sl (put (put sl (xP i) a1) (xR i) a2) := (t7.trans (bW.of_app f8 hn8)).trans (bW.of_set f9)
   have G9 := G.pattern hi p (a1 := a1) (a2 := a2) (c1 := c1) (c2 := c2) hc5 hc8 (by rw [cB, bH _ _ nOR, cB, bH _ _ nO])
    (by rw [bH _ _ nPO, bH _ _ nPR, bH _ _ nPO, cB]) (by rw [bH _ _ nRO, cB, bH _ _ nRO, bH _ _ nRP])
    (fun x h0 hP hR => by rw [bH _ _ h0, bH _ _ hR, bH _ _ h0, bH _ _ hP]) F9 t9
   have hi9 : i < (gs.modify i fun g => { g with pats := g.pats ++ [p], rules := g.rules ++ [[]] }).length := by rw [List.length_modify]; exact hi
   have e9 : (gs.modify i fun g => { g with pats := g.pats ++ [p], rules := g.rules ++ [[]] })[i] = { gs[i] with pats := gs[i].pats ++ [p], rules := gs[i].rules ++ [[]] } := by rw [List.getElem_modify, if_pos rfl]
   rw [hq']
   refine Lz (N := N) G9 hi9 (n := gs[i].pats.length) (by rw [e9]; simp; omega) (by simp only [e9]; rw [List.getElem_append_right (by omega)]; simp) k hO8 fun h' sl' cap' cs' G' t' es' ec' => ?_
   have e : gs.modify i (rX k r) = (gs.modify i fun g => { g with pats := g.pats ++ [p], rules := g.rules ++ [[]] }).modify i fun g => { g with rules := g.rules.modify gs[i].pats.length (· ++ [(k : Int)]) } := by
    rw [Cb]
    refine tJ hi ?_
    unfold rX
    rw [hp]
    simp only
    rw [if_pos hq', ← sm2, DS]
    rfl
   rw [← e] at G'
   exact hk _ _ _ _ G' (t9.trans t') (by rw [es', hO8]) (by rw [ec', bH _ _ nOR, bH _ _ nO])
  ·have hlt : gs[i].pats.findIdx (· == p) < gs[i].rules.length := by omega
   refine Lz (N := N) G3 hi hlt (by have := sm4 _ (List.getElem_mem hlt); omega) k hoa fun h' sl' cap' cs' G' t' es' ec' => ?_
   have e : gs.modify i (rX k r) = gs.modify i fun g => { g with rules := g.rules.modify (gs[i].pats.findIdx (· == p)) (· ++ [(k : Int)]) } := by
    refine tJ hi ?_
    unfold rX
    rw [hp]
    simp only
    rw [if_neg (by omega)]
   rw [← e] at G'
   exact hk _ _ _ _ G' ((bW.of_fr f13).trans t') (by rw [es', hoa]) ec'
end
end Go.Proofs.YtjmfpeiidlpngaaGreatDoor.Fp
namespace Go.Proofs.YtjmfpeiidlpngaaGreatDoor.Fp
set_option linter.unusedSimpArgs false
set_option linter.unusedVariables false
set_option maxRecDepth 20000
open Go
theorem D4 {h : aA} {n : Int} (h1 : -9223372036854775808 ≤ n) (h2 : n ≤ 9223372036854775807) : kOk .i64 h n := by
 unfold kOk
 simp [Lit.wf, IntKind.min, IntKind.max, IntKind.signed, IntKind.bits]
 omega
structure Hj (r : Ru) : Prop where
 c : xH r.Contents.xs
 t : r.Transforms.xs.length ≤ 70
def yq (k : Nat) (gs : List Grp) : Prop := ∀ g ∈ gs, (∀ n ∈ g.always, 0 ≤ n ∧ n < (k : Int)) ∧ (∀ l ∈ g.rules, ∀ n ∈ l, 0 ≤ n ∧ n < (k : Int)) ∧ ∀ p ∈ g.pats, p.1.length ≤ 200
theorem DA {cs : List Cn} (sh : xH cs) {p : List UInt8 × Bool} (hp : uy cs = some p) : p.1.length ≤ 200 := by
 unfold uy at hp
 split at hp
 ·cases hp
 ·rename_i hneg
  have hlt := tA cs
  simp only [Option.some.injEq] at hp
  subst hp
  have hk : (fN cs).toNat < cs.length := by omega
  have e : cs.getD (fN cs).toNat noC = cs[(fN cs).toNat] := by rw [List.getD_eq_getElem?_getD, List.getElem?_eq_getElem hk]; rfl
  have := sh.pat _ (List.getElem_mem hk)
  simp only [e]
  split
  ·simpa using this
  ·exact this
theorem yq.add {k : Nat} {gs : List Grp} (s : yq k gs) (r : Ru) (sh : xH r.Contents.xs) : yq (k + 1) (yB k r gs) := by
 have hs : yq k (tY r gs) := by
  intro g hg
  unfold tY at hg
  split at hg
  ·rcases List.mem_append.1 hg with hg | hg
   ·exact s g hg
   ·rw [List.mem_singleton.1 hg]; simp
  ·exact s g hg
 have up : yq (k + 1) (tY r gs) := fun g hg => by
  obtain ⟨h1, h2, h3⟩ := hs g hg
  exact ⟨fun n hn => by have := h1 n hn; omega, fun l hl n hn => by have := h2 l hl n hn; omega, h3⟩
 intro g hg
 rcases mT hg with hg | ⟨y, hy, rfl⟩
 ·exact up g hg
 ·obtain ⟨h1, h2, h3⟩ := up y hy
  unfold rX
  split
  ·refine ⟨fun n hn => ?_, h2, h3⟩
   rcases List.mem_append.1 hn with hn | hn
   ·exact h1 n hn
   ·rw [List.mem_singleton.1 hn]; omega
  ·rename_i p hp
   split
   ·refine ⟨h1, fun l hl n hn => ?_, fun q hq => ?_⟩
    ·rcases List.mem_append.1 hl with hl | hl
     ·exact h2 l hl n hn
     ·rw [List.mem_singleton.1 hl] at hn; rw [List.mem_singleton.1 hn]; omega
    ·rcases List.mem_append.1 hq with hq | hq
     ·exact h3 q hq
     ·rw [List.mem_singleton.1 hq]; exact DA sh hp
   ·refine ⟨h1, fun l hl n hn => ?_, h3⟩
    rcases mT hl with hl | ⟨z, hz, rfl⟩
    ·exact h2 l hl n hn
    ·rcases List.mem_append.1 hn with hn | hn
     ·exact h2 z hz n hn
     ·rw [List.mem_singleton.1 hn]; omega
def fP (g : bI) : Grp := ⟨g.Kind, g.Transforms.xs, g.Patterns.xs.map fun p => (p.Text, p.Nocase), g.Rules.xs.map (·.xs), g.Always.xs⟩
abbrev El (h : aA) (g : Sl bI) : Prop := bJ 5 bI.vals bI.ok h g
theorem Db {h : aA} {a : Option Addr} {c : Nat} {l : List Int} (o : rJ h a c 1 (uU l)) (hc : l.length ≤ c) (hl : l.length ≤ 9223372036854775807) (hk : ∀ n ∈ l, kOk .i64 h n) : iA h ⟨a, c, l⟩ := by
 refine ⟨hc, hl, fun i hi => ?_⟩
 cases a with
 | none => have := o.1; simp only at hi; simp [uU] at this; rw [this] at hi; simp at hi
 | some ad =>
  refine ⟨ad, rfl, fun j hj => ?_, hk _ (List.getElem_mem hi)⟩
  have hj0 : j = 0 := by simp at hj; exact hj
  subst hj0
  rw [kM]
  refine o.cells.at ?_
  simp only at hi
  simp [uU, hi]
section
variable {h : aA} {gs : List Grp} {tr : Nat → Sl Int} {sl : Ix → Option Addr} {cap : Ix → Nat} {cs : Ix → List Value}
def vC (gs : List Grp) (tr : Nat → Sl Int) (sl : Ix → Option Addr) (cap : Ix → Nat) (i : Fin gs.length) : bI :=
 ⟨gs[i].kind, tr i, ⟨sl (xP i), cap (xP i), gs[i].pats.map fun p => ⟨p.1, p.2⟩⟩, ⟨sl (xR i), cap (xR i), (List.finRange gs[i].rules.length).map fun n : Fin gs[i].rules.length => ⟨sl (xI i n.val), cap (xI i n.val), gs[i].rules[n.val]⟩⟩, ⟨sl (xA i), cap (xA i), gs[i].always⟩⟩
theorem lT.read (G : lT h gs tr sl cap cs) {k : Nat} (sm : se k gs) (gd : yq k gs) (hk : k ≤ 2 ^ 20) : ∃ g : Sl bI, g.p = sl xO ∧ g.xs.length = gs.length ∧ g.cap = cap xO ∧ El h g ∧ g.xs.map fP = gs := by
 refine ⟨⟨sl xO, cap xO, (List.finRange gs.length).map (vC gs tr sl cap)⟩, rfl, by simp, rfl, ⟨by simpa using G.ocap, by have := sm.len; simp; omega, fun i hi => ?_⟩, ?_⟩
 ·have hig : i < gs.length := by simpa using hi
  obtain ⟨ad, eo, hs, cc⟩ := G.out hig
  have r := G.row i hig
  obtain ⟨s1, s2, s3, s4⟩ := sm.g _ (List.getElem_mem hig)
  obtain ⟨g1, g2, g3⟩ := gd _ (List.getElem_mem hig)
  refine ⟨ad, eo, ?_, ?_⟩
  ·simpa [vC, bI.vals] using cc
  ·simp only [List.getElem_map, List.getElem_finRange]
   refine ⟨G.kok _ (List.getElem_mem hig), (G.trok i hig).1, ⟨by simpa [vC] using r.pc, by simp [vC]; omega, fun n hn => ?_⟩, ⟨by simpa [vC] using r.rc, by simp [vC]; omega, fun n hn => ?_⟩, ?_⟩
   ·have hn' : n < gs[i].pats.length := by simpa [vC] using hn
    have hget := Ii (fun p : List UInt8 × Bool => Value.string (bs p.1)) (fun p => Value.bool p.2) gs[i].pats n hn'
    rw [← r.pl] at hget
    obtain ⟨pd, ep, pc⟩ := G.fam.some_of (x := xP i) (by intro e; rw [List.length_eq_zero_iff.1 e] at hget; simp at hget)
    have hps : pd.spot = none := by have := G.fam.own (xP i); rw [ep] at this; exact this.2.1
    refine ⟨pd, ep, fun j hj => ?_, ?_⟩
    ·have hj2 : j < 2 := by simpa [bK.vals] using hj
     rw [lY hps]
     match j, hj2 with
     | 0, _ => exact pc.at (by simpa [vC, bK.vals] using hget.1)
     | 1, _ => exact pc.at (by simpa [vC, bK.vals] using hget.2)
    ·have := g3 _ (List.getElem_mem hn')
     exact ⟨by show ((vC gs tr sl cap ⟨i, hig⟩).Patterns.xs[n]).Text.length ≤ _; simp [vC]; omega, trivial⟩
   ·have hn' : n < gs[i].rules.length := by simpa [vC] using hn
    obtain ⟨rd, er, rc⟩ := G.fam.some_of (x := xR i) (by rw [r.rl]; omega)
    refine ⟨rd, er, fun j hj => ?_, ?_⟩
    ·have hj0 : j = 0 := by simpa using hj
     subst hj0
     rw [kM, Nat.mul_one]
     exact rc.at (by simpa [vC, Sl.v] using r.rg n hn')
    ·have o := G.fam.own (xI i n)
     rw [(r.il n hn').1] at o
     have := Db (l := gs[i].rules[n]) o (r.il n hn').2 (by have := s4 _ (List.getElem_mem hn'); omega) (fun m hm => by have := g2 _ (List.getElem_mem hn') m hm; exact D4 (by omega) (by omega))
     simpa [vC] using this
   ·have o := G.fam.own (xA i)
    rw [r.al] at o
    have := Db (l := gs[i].always) o r.ac (by omega) (fun m hm => by have := g1 m hm; exact D4 (by omega) (by omega))
    simpa [vC] using this
 ·apply List.ext_getElem (by simp)
  intro i h1 h2
  simp only [List.getElem_map, List.getElem_finRange]
  have r := G.row i h2
  have e3 : (List.finRange gs[i].rules.length).map (fun n : Fin gs[i].rules.length => gs[i].rules[n.val]) = gs[i].rules := by
   apply List.ext_getElem (by simp)
   intro j j1 j2; simp
  have et := r.trx
  simp only [fP, vC, List.map_map]
  show (⟨gs[i].kind, (tr i).xs, _, _, gs[i].always⟩ : Grp) = gs[i]
  rw [et]
  have e2 : gs[i].pats.map ((fun p : bK => (p.Text, p.Nocase)) ∘ fun p : List UInt8 × Bool => (⟨p.1, p.2⟩ : bK)) = gs[i].pats := by
   apply List.ext_getElem (by simp)
   intro j j1 j2; simp
  have e4 : (List.finRange gs[i].rules.length).map ((fun x : Sl Int => x.xs) ∘ fun n : Fin gs[i].rules.length => (⟨sl (xI i n.val), cap (xI i n.val), gs[i].rules[n.val]⟩ : Sl Int)) = gs[i].rules := e3
  show (⟨gs[i].kind, gs[i].tr, gs[i].pats.map ((fun p : bK => (p.Text, p.Nocase)) ∘ fun p : List UInt8 × Bool => (⟨p.1, p.2⟩ : bK)), (List.finRange gs[i].rules.length).map ((fun x : Sl Int => x.xs) ∘ fun n : Fin gs[i].rules.length => (⟨sl (xI i n.val), cap (xI i n.val), gs[i].rules[n.val]⟩ : Sl Int)), gs[i].always⟩ : Grp) = gs[i]
  rw [e2, e4]
end
theorem JC {N : Nat} {h h' : aA} {sl sl' : Ix → Option Addr} (t : bW N h h' sl sl') (nw : ∀ x b, InA (sl x) b → N ≤ b) (hN : N ≤ h.size) : ∀ x b, InA (sl' x) b → N ≤ b := fun x b hb => by
 rcases t.old x b hb with ⟨y, hy⟩ | hb
 ·exact nw y b hy
 ·omega
theorem FB {N : Nat} {h0 h h' : aA} {sl sl' : Ix → Option Addr} (f : Fr (fun _ => False) h0 h) (t : bW N h h' sl sl') (nw : ∀ x b, InA (sl x) b → h0.size ≤ b) : Fr (fun _ => False) h0 h' :=
 f.tr t.frS fun x hx ⟨y, hy⟩ => by have := nw y x hy; omega
theorem yv (l : List Ru) (k : Nat) (hk : k < l.length) (gs : List Grp) : fT (l.drop k) k gs = fT (l.drop (k + 1)) (k + 1) (yB k l[k] gs) := by
 rw [List.drop_eq_getElem_cons hk, fT]
theorem Hg [Gh] (s : Sl Ru) {h : aA} (ok : bJ 21 aO.vals aO.ok h s) (hl : s.xs.length ≤ 40) (sh : ∀ r ∈ s.xs, Hj r) {Q : Value → aA → Prop}
  (hk : ∀ (g : Sl bI) h', Fr (fun _ => False) h h' → El h' g → g.xs.map fP = ph s.xs → Q (.slice g.p g.xs.length g.cap) h') :
  aE Tryz.prog iZ #[.slice s.p s.xs.length s.cap] h Q := by
 apply u7
 unfold pF
 refine aJ.mk (fun st h' => ∃ (k : Nat) (gs : List Grp) (tr : Nat → Sl Int) (sl : Ix → Option Addr) (cap : Ix → Nat) (cs : Ix → List Value), st = (sl xO, gs.length, cap xO, (k : Int)) ∧ k ≤ s.xs.length ∧ Fr (fun _ => False) h h' ∧ lT h' gs tr sl cap cs ∧ (∀ x b, InA (sl x) b → h.size ≤ b) ∧ se k gs ∧ yq k gs ∧ fT (s.xs.drop k) k gs = ph s.xs)
  (fun st _ => s.xs.length - st.2.2.2.toNat) ⟨0, [], _, _, _, _, rfl, by omega, Fr.refl _ _, lT.nil h, fun x b hb => (zM hb).elim, ⟨Nat.le_refl _, fun g hg => by cases hg⟩, (fun g hg => by cases hg), rfl⟩ ?_
 rintro st h1 ⟨k, gs, tr, sl, cap, cs, rfl, hkl, f1, G, nw, sm, gd, hg⟩
 unfold kT
 refine ifD (fun hlt => ?_) (fun hge => ?_)
 ·simp only at hlt
  have hks : k < s.xs.length := by omega
  have ok1 := bJ.fr0 aO.ok_fr f1 ok
  have shr := sh _ (List.getElem_mem hks)
  rw [yv _ _ hks] at hg
  have okr0 : aO.ok h s.xs[k] := by obtain ⟨_, _, _, o⟩ := ok.at_ k hks; exact o
  refine eN ok1 k rfl hks fun ad cc okr => ?_
  simp only [Int.toNat_natCast]
  refine (aB (cc.at0 rfl) (aB (cc.at rfl) (aD (cc.at rfl) (aD (cc.at rfl) (aD (cc.at rfl) (aD (cc.at rfl) (aG (cc.at rfl) (aB (cc.at rfl) (aB (cc.at rfl) (aB (cc.at rfl) (aY (cc.at rfl) (aB (cc.at rfl) (aB (cc.at rfl) (aD (cc.at rfl) (aD (cc.at rfl) (aD (cc.at rfl) (aD (cc.at rfl) (aB (cc.at rfl) (aB (cc.at rfl) (aB (cc.at rfl) (aB (cc.at rfl) ?_)))))))))))))))))))))
  refine rm rfl rfl fun t5 h2 f2 ht5 o5 => ?_
  have f02 := f1.trans f2
  have G2 := G.fr f2
  have okr2 := aO.ok_fr _ _ _ f2 okr
  have hsl := sm.len
  refine H3 G2 s.xs[k] o5 okr2 (by have := shr.t; omega) (by omega) fun h3 f3 => ⟨_, rfl, ?_⟩
  have G3 := G2.fr f3
  have o5' := Own.fr0 f3 o5
  have f23 := f2.trans f3
  have f03 := f02.trans f3
  have okr3 := aO.ok_fr _ _ _ f3 okr2
  have ht5' : t5.block = h1.size := ht5
  have apart : ∀ {h' : aA} {sl' : Ix → Option Addr}, bW h.size h1 h' sl sl' → True := fun _ => trivial
  have hnt : ∀ x b, InA (sl x) b → b ≠ t5.block := fun x b hb e => by have := G.fam.lt hb; omega
  have back : ∀ (h' : aA) (gs' : List Grp) (tr' : Nat → Sl Int) (sl' : Ix → Option Addr) (cap' : Ix → Nat) (cs' : Ix → List Value), lT h' gs' tr' sl' cap' cs' → gs' = yB k s.xs[k] gs → bW h.size h1 h' sl sl' →
    (∃ (k' : Nat) (gs : List Grp) (tr : Nat → Sl Int) (sl : Ix → Option Addr) (cap : Ix → Nat) (cs : Ix → List Value), (sl' xO, gs'.length, cap' xO, IntKind.wrap .i64 ((k : Int) + 1)) = (sl xO, gs.length, cap xO, (k' : Int)) ∧ k' ≤ s.xs.length ∧ Fr (fun _ => False) h h' ∧ lT h' gs tr sl cap cs ∧ (∀ x b, InA (sl x) b → h.size ≤ b) ∧ se k' gs ∧ yq k' gs ∧ fT (s.xs.drop k') k' gs = ph s.xs) ∧ s.xs.length - (IntKind.wrap .i64 ((k : Int) + 1)).toNat < s.xs.length - ((k : Int)).toNat := by
   intro h' gs' tr' sl' cap' cs' G' e' t'
   subst e'
   rw [wr (by omega) (by omega)]
   exact ⟨⟨k + 1, _, tr', sl', cap', cs', rfl, by omega, FB f1 t' nw, G', JC t' nw f1.size, sm.add _, gd.add _ shr.c, hg⟩, by omega⟩
  have hfl : gs.findIdx (r6 s.xs[k]) ≤ gs.length := List.findIdx_le_length
  refine ifE (fun hq => ?_) (fun hq => ?_)
  ·have hq' : gs.findIdx (r6 s.xs[k]) = gs.length := by omega
   refine aB (o5'.cells.at rfl) (aD (o5'.cells.at rfl) ?_)
   refine IE s.xs[k].Transforms okr3.k13 (by have := shr.t; omega) fun T h4 f4 oT eT hnew => ⟨_, _, _, rfl, ?_⟩
   have o54 := Own.fr0 f4 o5'
   refine ⟨aB (o54.cells.at rfl) rfl, ?_⟩
   refine bA fun b h5 f5 hb5 o5b => ?_
   have G5 := (G3.fr f4).fr f5
   have es : (Tryz.t87).size = 5 := by kernel_rfl
   have eb : (Tryz.t87).bytes = 104 := by kernel_rfl
   refine Fam.app EO Tryz.underlying82 (by intro k e; cases e) G5.fam xO (by rw [es]; rfl) (by rw [G.olen]; rfl) G.ocap (Src.one o5b (by rw [es]; rfl) 1) (by intro v hv; simp at hv; rcases hv with rfl | rfl | rfl | rfl | rfl <;> rfl) (by rw [eb]; omega) fun a' c' h6 F6 hc6 f6 hn6 => ⟨_, _, _, rfl, ?_⟩
   have t6 : bW h.size h1 h6 sl (put sl xO a') := (bW.of_fr ((f23.trans f4).trans f5)).trans (bW.of_app f6 hn6)
   have hTb : T.xs ≠ [] → ∀ b, InA T.p b → h3.size ≤ b ∧ b < h4.size := fun hx b hb => ⟨hnew b hb, oT.lt hx hb⟩
   have hTapart : T.xs ≠ [] → ∀ x b, InA T.p b → ¬ InA (put sl xO a' x) b := by
    intro hx x b hb hi
    obtain ⟨hb1, hb2⟩ := hTb hx b hb
    rcases t6.old x b hi with ⟨y, hy⟩ | hy
    ·have h1' := G.fam.lt hy; have h2' := f23.size; omega
    ·by_cases e : x = xO
     ·subst e; rw [cB] at hi
      rcases hn6 b hi with hi | hi
      ·have h1' := G.fam.lt hi; have h2' := f23.size; omega
      ·have := f5.size; omega
     ·rw [bH _ _ e] at hi
      have h1' := G.fam.lt hi; have h2' := f23.size; omega
   have hTok : iA h6 T := by
    by_cases hx : T.xs = []
    ·exact ⟨oT.len, oT.cap, fun i hi => by rw [hx] at hi; simp at hi⟩
    ·refine iA.fr (bJ.fr0 yA f5 oT) f6 fun b hb hi => ?_
     obtain ⟨hb1, hb2⟩ := hTb hx b hb
     have h1' := G.fam.lt hi; have h2' := f23.size; omega
   have t56 : bW h.size h5 h6 sl (put sl xO a') := bW.of_app f6 hn6
   have G6 := G5.push (N := h.size) s.xs[k].Kind okr.k12 T hc6 F6 t56 hTok hTapart
   have hlen : (gs ++ [(⟨s.xs[k].Kind, T.xs, [], [], []⟩ : Grp)]).length = gs.length + 1 := by simp
   rw [← hlen]
   have e1 : put sl xO a' xO = a' := cB _ _ _
   have e2 : put cap xO c' xO = c' := cB _ _ _
   rw [hq', ← e1, ← e2]
   have o56 : Own h6 t5 s.xs[k].vals cO := (Own.fr0 f5 o54).fr f6 (fun hi => hnt xO _ hi rfl)
   refine LB (N := h.size) (m := k) G6 (i := gs.length) (by simp) (fun g hgm => ?_) (by omega) k s.xs[k] o56 (fun x b hb e => ?_) (aO.ok_fr _ _ _ (FB f1 t6 nw) okr0) shr.c fun h7 sl7 cap7 cs7 G7 t7 es7 ec7 => ?_
   ·rcases List.mem_append.1 hgm with hgm | hgm
    ·exact sm.g g hgm
    ·rw [List.mem_singleton.1 hgm]; simp
   ·by_cases ex : x = xO
    ·subst ex; rw [cB] at hb
     rcases hn6 b hb with hb | hb
     ·exact hnt _ b hb e
     ·have h1' := f2.size; have h2' := ((f3.trans f4).trans f5).size
      have := o5.lt; omega
    ·rw [bH _ _ ex] at hb; exact hnt x b hb e
   ·rw [← es7, ← ec7]
    have eL : gs.length + 1 = ((gs ++ [(⟨s.xs[k].Kind, T.xs, [], [], []⟩ : Grp)]).modify gs.length (rX k s.xs[k])).length := by simp
    rw [hlen, eL]
    refine back h7 _ _ sl7 cap7 cs7 G7 ?_ (t6.trans t7)
    unfold yB tY
    rw [if_pos hq', hq', eT]
  ·have hlt : gs.findIdx (r6 s.xs[k]) < gs.length := by omega
   refine LB (N := h.size) (m := k) G3 hlt sm.g (by omega) k s.xs[k] o5' hnt okr3 shr.c fun h7 sl7 cap7 cs7 G7 t7 es7 ec7 => ?_
   rw [← es7, ← ec7]
   have eL : gs.length = (gs.modify (gs.findIdx (r6 s.xs[k])) (rX k s.xs[k])).length := by simp
   conv => lhs; rw [eL]
   refine back h7 _ _ sl7 cap7 cs7 G7 ?_ ((bW.of_fr f23).trans t7)
   unfold yB tY
   rw [if_neg (by omega)]
 ·simp only at hge
  have e : k = s.xs.length := by omega
  rw [e, List.drop_length] at hg
  obtain ⟨g, hp, hlen, hc, hgok, hmap⟩ := G.read sm gd (by omega)
  have := hk g h1 f1 hgok (by rw [hmap]; exact hg)
  rw [hp, hlen, hc] at this; exact this
end Go.Proofs.YtjmfpeiidlpngaaGreatDoor.Fp
namespace Go.Proofs.YtjmfpeiidlpngaaGreatDoor.Au
set_option linter.unusedSimpArgs false
set_option linter.unusedVariables false
set_option maxRecDepth 20000
open Go
open Go.IntKind (wrap)
section
variable {h : aA} {Q : Value → aA → Prop}
theorem CN [Gh] (c : Int) (hk : ∀ b : Bool, Q (.bool b) h) : aE Tryz.prog mF #[.int .u8 c] h Q := by
 apply za
 unfold vg
 exact ifD (fun _ => ifD (fun _ => hk _) fun _ => ifD (fun _ => hk _) fun _ => hk _) fun _ => ifD (fun _ => hk _) fun _ => hk _
theorem JV [Gh] (c : Int) (hk : ∀ b : Bool, Q (.bool b) h) : aE Tryz.prog qP #[.int .u8 c] h Q := by
 apply AN
 unfold vP
 exact ifD (fun _ => hk _) fun _ => hk _
theorem Hx [Gh] (c : Int) (hk : ∀ b : Bool, Q (.bool b) h) : aE Tryz.prog pO #[.int .u8 c] h Q := by
 apply yW
 unfold uX
 exact CN c fun b => ⟨b, rfl, ifB (fun _ => hk _) fun _ => JV c fun b => ⟨b, rfl, ifB (fun _ => hk _) fun _ => hk _⟩⟩
theorem zW [Gh] (s : Nm) (hk : ∀ b : Bool, (b = true → s.length ≤ 32) → Q (.bool b) h) : aE Tryz.prog kH #[.string (bs s)] h Q := by
 apply Aq
 unfold u9
 have no : Q (.bool false) h := hk false fun h => by cases h
 refine CV (fun _ => no) fun e => ?_
 rw [bN]
 refine ifD (fun _ => no) fun e2 => ?_
 have hp := List.length_pos_iff.2 e
 refine ixS s 0 rfl hp (CN _ fun b => ⟨b, rfl, ifN (fun _ => no) fun _ => ?_⟩)
 refine aJ.go (fun n st h' => ∃ i : Nat, st = (i : Int) ∧ i ≤ s.length ∧ n = s.length - i ∧ h' = h) s.length ⟨0, rfl, by omega, rfl, rfl⟩ ?_
 rintro n - h1 ⟨i, rfl, hi, rfl, rfl⟩ Kn hK
 unfold pK
 rw [bN]
 refine ifD (fun e3 => ?_) fun e3 => hk true fun _ => by omega
 have hil : i < s.length := by omega
 refine ixS s i rfl hil (Hx _ fun b => ⟨b, rfl, ifN (fun _ => no) fun _ => ?_⟩)
 rw [wr (by omega) (by omega)]
 exact hK (s.length - (i + 1)) _ _ (by omega) ⟨i + 1, rfl, hil, rfl, rfl⟩
theorem Fb [Gh] (a : aK) (hk : ∀ h', Fr (fun _ => False) h h' → Q (.int .i64 (if a.V6 = true then 128 else 32)) h') : aE Tryz.prog nM #[.agg a.vals.toArray] h Q := by
 apply AA
 unfold wg
 refine bA (vs := a.vals) fun t1 h1 f1 e1 o1 => ?_
 have c1 : bB h1 t1 a.vals := o1.cells
 refine aG (c1.at0 rfl) (ifB (fun e => ?_) fun e => ?_)
 ·have := hk h1 f1; rw [if_pos e] at this; exact this
 ·have := hk h1 f1; rw [if_neg (by rw [e]; decide)] at this; exact this
theorem J2 [Gh] (a : aK) (hk : ∀ (b : Bool) h', Fr (fun _ => False) h h' → Q (.bool b) h') : aE Tryz.prog qJ #[.agg a.vals.toArray] h Q := by
 apply AD
 unfold vR
 refine bA (vs := a.vals) fun t1 h1 f1 e1 o1 => ?_
 have c1 : bB h1 t1 a.vals := o1.cells
 exact aG (c1.at0 rfl) (ifB (fun e => hk _ h1 f1) fun e => aB (c1.at (j := 1) rfl) (ifE (fun _ => aB (c1.at (j := 2) rfl) (hk _ h1 f1)) fun _ => hk _ h1 f1))
theorem CC (x : Int) : 0 ≤ wrap .u64 x := by
 unfold IntKind.wrap IntKind.signed
 simp only [Bool.false_and, Bool.false_eq_true, if_false]
 exact Int.emod_nonneg _ (by decide)
theorem LK [Gh] (a : aK) (i : Int) (hk : ∀ (b : Bool) h', Fr (fun _ => False) h h' → Q (.bool b) h') : aE Tryz.prog tm #[.agg a.vals.toArray, .int .i64 i] h Q := by
 apply DH
 unfold yg
 refine bA (vs := a.vals) fun t1 h1 f1 e1 o1 => ?_
 have c1 : bB h1 t1 a.vals := o1.cells
 refine aG (c1.at0 rfl) (ifN (fun e => aB (c1.at (j := 2) rfl) ⟨CC _, hk _ h1 f1⟩) fun e => ifD (fun _ => aB (c1.at (j := 1) rfl) ⟨CC _, hk _ h1 f1⟩) fun _ => aB (c1.at (j := 2) rfl) ⟨CC _, hk _ h1 f1⟩)
theorem Lj [Gh] (a : aK) (n : Int) (hn : 0 ≤ n ∧ n ≤ 1000) (one : Bool) (hk : ∀ (b : Bool) (x y : Int) h', Fr (fun _ => False) h h' → Q (.agg #[.bool b, .int .u64 x, .int .u64 y]) h') : aE Tryz.prog rO #[.agg a.vals.toArray, .int .i64 n, .bool one] h Q := by
 apply Cm
 unfold wI
 refine bA (vs := a.vals) fun t3 h1 f1 e1 o1 => ?_
 have z1 := f1.size
 have l1 := o1.lt
 refine bA (vs := [.bool false, .int .u64 0, .int .u64 0]) fun t6 h2 f2 e2 o2 => ?_
 have z2 := f2.size
 have f12 := f1.trans f2
 have o12 : Own h2 t3 a.vals cZ := o1.fr0 f2
 refine aJ.go (fun m st h' => ∃ (i : Nat) (x : aK), st = (i : Int) ∧ n ≤ i ∧ i ≤ 1000 ∧ m = 1000 - i ∧ x.V6 = a.V6 ∧ Fr (fun _ => False) h h' ∧ Own h' t3 x.vals cZ ∧ Own h' t6 [.bool false, .int .u64 0, .int .u64 0] cZ) (1000 - n.toNat)
  ⟨n.toNat, a, by omega, by omega, by omega, rfl, rfl, f12, o12, o2⟩ ?_
 rintro m - h3 ⟨i, x, rfl, hi1, hi2, rfl, hx, f3, o3, o6⟩ Kn hK
 unfold rG
 have c3 := o3.cells
 refine aG (c3.at0 rfl) (aB (c3.at (j := 1) rfl) (aB (c3.at (j := 2) rfl) ?_))
 refine Fb x fun h4 f4 => ⟨_, rfl, ?_⟩
 have o34 := o3.fr0 f4
 have o64 := o6.fr0 f4
 have c4 := o34.cells
 have f34 := f3.trans f4
 refine ifD (fun e => ?_) fun e => ?_
 ·have hil : i < 128 := by split at e <;> omega
  refine aG (c4.at0 rfl) (aB (c4.at (j := 1) rfl) (aB (c4.at (j := 2) rfl) ?_))
  refine LK x i fun b h5 f5 => ⟨b, rfl, ?_⟩
  have o35 := o34.fr0 f5
  have o65 := o64.fr0 f5
  have c5 := o35.cells
  have f35 := f34.trans f5
  rw [wr (x := (i : Int) + 1) (by omega) (by omega)]
  have go : ∀ (x' : aK) h6, x'.V6 = a.V6 → Fr (fun _ => False) h h6 → Own h6 t3 x'.vals cZ → Own h6 t6 [.bool false, .int .u64 0, .int .u64 0] cZ → Kn ((i : Int) + 1) h6 := fun x' h6 hx' f6 o36 o66 => hK (1000 - (i + 1)) _ _ (by omega) ⟨i + 1, x', rfl, by omega, by omega, rfl, hx', f6, o36, o66⟩
  by_cases hb : b = one
  ·rw [if_pos (by rw [hb]; simp)]; exact go x h5 hx f35 o35 o65
  ·rw [if_neg (by simpa using hb)]
   have hi' : ∀ v : Int, st1 h5 (Addr.add t3 1) (.int .u64 v) fun h6 => Kn ((i : Int) + 1) h6 := fun v => cH o35 1 (by show 1 < 3; omega) rfl fun h6 f6 s6 o6' => go ⟨x.V6, v, x.Lo⟩ h6 hx (f35.tr f6 fun y hy hh => by omega) o6' (o65.fr f6 fun hh => by omega)
   have lo' : ∀ v : Int, st1 h5 (Addr.add t3 2) (.int .u64 v) fun h6 => Kn ((i : Int) + 1) h6 := fun v => cH o35 2 (by show 2 < 3; omega) rfl fun h6 f6 s6 o6' => go ⟨x.V6, x.Hi, v⟩ h6 hx (f35.tr f6 fun y hy hh => by omega) o6' (o65.fr f6 fun hh => by omega)
   refine aG (c5.at0 rfl) (ifN (fun _ => aB (c5.at (j := 2) rfl) ⟨CC _, lo' _⟩) fun _ => ifD (fun _ => aB (c5.at (j := 1) rfl) ⟨CC _, hi' _⟩) fun _ => aB (c5.at (j := 2) rfl) ⟨CC _, lo' _⟩)
 ·unfold rT
  refine aG (c4.at0 rfl) (aB (c4.at (j := 1) rfl) (aB (c4.at (j := 2) rfl) ?_))
  refine jQ o64 (ws := x.vals) (by rfl) (by rfl) fun h5 f5 s5 o5 => ?_
  have c5 := o5.cells
  refine aG (c5.at0 rfl) (aB (c5.at (j := 1) rfl) (aB (c5.at (j := 2) rfl) ?_))
  exact hk _ _ _ h5 (f34.tr f5 fun y hy hh => by omega)
theorem AE [Gh] (p : bQ) (hk : ∀ (b : Bool) h', Fr (fun _ => False) h h' → Q (.bool b) h') : aE Tryz.prog lx #[.agg p.vals.toArray] h Q := by
 apply vI
 unfold pZ
 refine bA (vs := p.vals) fun t1 h1 f1 e1 o1 => ?_
 have c1 : bB h1 t1 p.vals := o1.cells
 refine aG (c1.at0 rfl) (aB (c1.at (j := 1) rfl) (aB (c1.at (j := 2) rfl) ?_))
 refine J2 p.Addr fun b h2 f2 => ⟨b, rfl, ifB (fun _ => ?_) fun _ => hk _ h2 (f1.trans f2)⟩
 have c2 := c1.fr0 f2
 refine aB (c2.at (j := 3) rfl) (ifD (fun e => ?_) fun _ => hk _ h2 (f1.trans f2))
 refine aB (c2.at (j := 3) rfl) (aG (c2.at0 rfl) (aB (c2.at (j := 1) rfl) (aB (c2.at (j := 2) rfl) ?_)))
 refine Fb p.Addr fun h3 f3 => ⟨_, rfl, aB ((c2.fr0 f3).at (j := 3) rfl) rfl, ?_⟩
 have c3 := c2.fr0 f3
 have f13 := (f1.trans f2).trans f3
 refine ifD (fun e2 => ?_) fun _ => hk _ h3 f13
 refine aG (c3.at0 rfl) (aB (c3.at (j := 1) rfl) (aB (c3.at (j := 2) rfl) (aB (c3.at (j := 3) rfl) (aG (c3.at0 rfl) (aB (c3.at (j := 1) rfl) (aB (c3.at (j := 2) rfl) ?_))))))
 refine Lj p.Addr p.Bits ⟨by omega, by split at e2 <;> omega⟩ false fun b x y h4 f4 => ⟨_, _, _, rfl, ?_⟩
 have c4 := c3.fr0 f4
 exact ⟨aG (c4.at0 rfl) (aB (c4.at (j := 1) rfl) (aB (c4.at (j := 2) rfl) rfl)), hk _ h4 (f13.trans f4)⟩
end
end Go.Proofs.YtjmfpeiidlpngaaGreatDoor.Au
namespace Go.Proofs.YtjmfpeiidlpngaaGreatDoor.Au
set_option linter.unusedSimpArgs false
set_option linter.unusedVariables false
set_option maxRecDepth 20000
open Go
open Go.IntKind (wrap)
abbrev Res := Option Int × Nat × Bool
def places (d : Nm) (c : Cn) (k : Int → Nat → Res) (after : Nat → Res) : Nat → Int → Nat → Res
 | 0, _, left => after left
 | n + 1, p, left =>
  if left = 0 then (none, 0, true)
  else if atB c d p = true then
   if c.Not = true then (none, left - 1, false)
   else if (k (p + c.Pattern.length) (left - 1)).2.2 = true then (none, (k (p + c.Pattern.length) (left - 1)).2.1, true)
   else if (k (p + c.Pattern.length) (left - 1)).1.isSome = true then k (p + c.Pattern.length) (left - 1)
   else places d c k after n (p + 1) (k (p + c.Pattern.length) (left - 1)).2.1
  else places d c k after n (p + 1) (left - 1)
def iF (d : Nm) (ts : List Ts) : List Cn → Int → Nat → Res
 | [], cur, left => (if ts.all (fun t => vU t d cur) = true then some cur else none, left, false)
 | c :: cs, cur, left => places d c (iF d ts cs) (fun left => if c.Not = true then iF d ts cs cur left else (none, left, false)) ((jb c d.length cur).2 - (jb c d.length cur).1 + 1).toNat (jb c d.length cur).1 left
theorem xC {d : Nm} {c : Cn} {k : Int → Nat → Res} {after : Nat → Res} (hk : ∀ p l, (k p l).2.1 ≤ l ∧ ((k p l).2.2 = true → (k p l).1 = none)) (ha : ∀ l, (after l).2.1 ≤ l ∧ ((after l).2.2 = true → (after l).1 = none)) :
  ∀ n p l, (places d c k after n p l).2.1 ≤ l ∧ ((places d c k after n p l).2.2 = true → (places d c k after n p l).1 = none)
 | 0, p, l => ha l
 | n + 1, p, l => by
  unfold places
  split
  ·exact ⟨Nat.zero_le _, fun _ => rfl⟩
  ·split
   ·split
    ·exact ⟨by simp, fun _ => rfl⟩
    ·have h1 := hk (p + c.Pattern.length) (l - 1)
     split
     ·exact ⟨by simp only; omega, fun _ => rfl⟩
     ·split
      ·exact ⟨by omega, h1.2⟩
      ·have := xC (d := d) (c := c) hk ha n (p + 1) (k (p + c.Pattern.length) (l - 1)).2.1
       exact ⟨by omega, this.2⟩
   ·have := xC (d := d) (c := c) hk ha n (p + 1) (l - 1)
    exact ⟨by omega, this.2⟩
theorem zv (d : Nm) (ts : List Ts) : ∀ (cs : List Cn) (cur : Int) (l : Nat), (iF d ts cs cur l).2.1 ≤ l ∧ ((iF d ts cs cur l).2.2 = true → (iF d ts cs cur l).1 = none)
 | [], cur, l => ⟨Nat.le_refl _, by simp [iF]⟩
 | c :: cs, cur, l => by
  unfold iF
  refine xC (fun p l => zv d ts cs p l) (fun l => ?_) _ _ _
  split
  ·exact zv d ts cs cur l
  ·exact ⟨Nat.le_refl _, fun h => by simp at h⟩
def Kv (r : Res) : Value := .tuple #[.int .i64 (r.1.getD 0), .bool r.1.isSome]
structure SrF (N : Nat) (h : aA) (s : Addr) (l : Sl Cn) (t : Sl Ts) (d : Nm) (bud left : Nat) (over : Bool) : Prop where
 own : Own h s [.slice l.p l.xs.length l.cap, .slice t.p t.xs.length t.cap, .string (bs d), .int .i64 bud, .int .i64 (bud - left : Nat), .bool over] oV
 le : left ≤ bud
 n : N ≤ s.block
 sz : N ≤ h.size
 rd : ∀ h', Fr (fun x => N ≤ x) h h' → bJ 7 aI.vals aI.ok h' l ∧ bJ 7 bC.vals bC.ok h' t
section
variable {N : Nat} {h : aA} {s : Addr} {l : Sl Cn} {t : Sl Ts} {d : Nm} {bud left : Nat} {over : Bool}
theorem SrF.fr {S : Nat → Prop} {h' : aA} (F : SrF N h s l t d bud left over) (f : Fr S h h') (h1 : ¬ S s.block) (h2 : ∀ x, x < h.size → S x → N ≤ x) : SrF N h' s l t d bud left over :=
 ⟨F.own.fr f h1, F.le, F.n, Nat.le_trans F.sz f.size, fun h3 f3 => F.rd h3 ((f.mono' h2).trans f3)⟩
theorem SrF.fr0 {h' : aA} (f : Fr (fun _ => False) h h') (F : SrF N h s l t d bud left over) : SrF N h' s l t d bud left over := F.fr f id fun _ _ h => h.elim
theorem Gd [Gh] (F : SrF N h s l t d bud left false) (hb : bud ≤ 2 ^ 40) (c : Cn) (p : Int) (hc : c.Pattern.length ≤ 2 ^ 40) (hd : d.length ≤ 2 ^ 40) {Q : Value → aA → Prop}
  (h0 : left = 0 → ∀ h', Fr (fun x => x = s.block) h h' → SrF N h' s l t d bud 0 true → Q (.bool false) h')
  (hk : left ≠ 0 → ∀ h', Fr (fun x => x = s.block) h h' → SrF N h' s l t d bud (left - 1) false → Q (.bool (atB c d p)) h') :
  aE Tryz.prog je #[.pointer (some s), .agg c.vals.toArray, .int .i64 p] h Q := by
 apply rF
 unfold mi
 have hle := F.le
 refine bA (vs := c.vals) fun t4 h1 f1 e1 o1 => ?_
 have F1 := F.fr0 f1
 have lt := F.own.lt
 have cs := F1.own.cells
 refine aS (aB (cs.at (j := 4) rfl) (aS (aB (cs.at (j := 3) rfl) (ifD (fun e => ?_) fun e => ?_))))
 ·have e0 : left = 0 := by omega
  subst e0
  refine aS (cH F1.own 5 (by simp) rfl fun h2 f2 s2 o2 => ?_)
  exact h0 rfl h2 ((f1.mono fun _ h => h.elim).trans f2) ⟨o2, F1.le, F1.n, Nat.le_trans F1.sz f2.size, fun h3 f3 => F1.rd h3 ((f2.mono fun x hx => by have := F1.n; subst hx; exact this).trans f3)⟩
 ·have hn : left ≠ 0 := fun h => by subst h; omega
  refine aS (aB (cs.at (j := 4) rfl) (aS ?_))
  rw [wr (by omega) (by omega)]
  refine cH F1.own 4 (by simp) rfl fun h2 f2 s2 o2 => ?_
  have es : ((bud - left : Nat) : Int) + 1 = ((bud - (left - 1) : Nat) : Int) := by omega
  rw [es] at o2
  have F2 : SrF N h2 s l t d bud (left - 1) false := ⟨o2, by omega, F1.n, Nat.le_trans F1.sz f2.size, fun h3 f3 => F1.rd h3 ((f2.mono fun x hx => by have := F1.n; subst hx; exact this).trans f3)⟩
  have cc : bB h2 t4 c.vals := o1.cells.fr f2 fun hh => by omega
  have cs2 := F2.own.cells
  refine aY (cc.at0 rfl) (aG (cc.at (j := 1) rfl) (aG (cc.at (j := 2) rfl) (aG (cc.at (j := 3) rfl) (aB (cc.at (j := 4) rfl) (aB (cc.at (j := 5) rfl) (aG (cc.at (j := 6) rfl) (aS (aY (cs2.at (j := 2) rfl) ?_))))))))
  refine LQ c d p hc hd fun h3 f3 => ⟨_, rfl, ?_⟩
  exact hk hn h3 (((f1.mono fun _ h => h.elim).trans f2).trans (f3.mono fun _ h => h.elim)) (F2.fr0 f3)
theorem J1 [Gh] (F : SrF N h s l t d bud left false) (hd : d.length ≤ 2 ^ 30) (hot : ∀ x ∈ t.xs, OkT x) {sp : Addr} (hsp : Own h sp [.pointer (some s)] qW) (cur : Int) (hcur : 0 ≤ cur ∧ cur ≤ 2147483648) {Q : Value → aA → Prop} {Kn : Int → aA → Prop}
  (hk : ∀ h', Fr (fun _ => False) h h' → Q (Kv (if t.xs.all (fun t => vU t d cur) = true then some cur else none, left, false)) h') :
  aJ (fun (s : Int) h Kn => iv cur sp t.p t.xs.length t.cap ((t.xs.length : Nat) : Int) Q s h Kn) 0 h := by
 have hcap := (F.rd h (Fr.refl _ _)).2.cap
 refine aJ.go (fun n st h' => ∃ i : Nat, st = (i : Int) ∧ i ≤ t.xs.length ∧ n = t.xs.length - i ∧ Fr (fun _ => False) h h' ∧ (t.xs.take i).all (fun t => vU t d cur) = true) t.xs.length ⟨0, rfl, by omega, rfl, Fr.refl _ _, by simp⟩ ?_
 rintro n - h1 ⟨i, rfl, hi, rfl, f1, ha⟩ Kn hK
 unfold iv
 refine ifD (fun e => ?_) fun e => ?_
 ·have hil : i < t.xs.length := by omega
  have F1 := F.fr0 f1
  have tk := hot _ (List.getElem_mem hil)
  have hall : (t.xs.take (i + 1)).all (fun t => vU t d cur) = ((t.xs.take i).all (fun t => vU t d cur) && vU t.xs[i] d cur) := by
   rw [show t.xs.take (i + 1) = t.xs.take i ++ [t.xs[i]] by rw [List.take_append_getElem], List.all_append]; simp
  refine eN (F1.rd h1 (Fr.refl _ _)).2 i rfl hil fun ad ct _ => ?_
  rw [Int.toNat_natCast]
  refine aB (ct.at0 rfl) (aB (ct.at (j := 1) rfl) (aB (ct.at (j := 2) rfl) (aB (ct.at (j := 3) rfl) (aG (ct.at (j := 4) rfl) (aG (ct.at (j := 5) rfl) (aG (ct.at (j := 6) rfl) ?_))))))
  refine bA (vs := [.int .i64 0, .int .i64 0, .int .i64 0, .int .i64 0, .bool false, .bool false, .bool false]) fun t9 h2 f2 e2 o2 => ?_
  refine jQ o2 (ws := t.xs[i].vals) (by rfl) (by rfl) fun h3 f3 s3 o3 => ?_
  have f13 : Fr (fun _ => False) h1 h3 := f2.tr f3 fun b hb hi => by omega
  have c3 := o3.cells
  refine aB (c3.at0 rfl) (aB (c3.at (j := 1) rfl) (aB (c3.at (j := 2) rfl) (aB (c3.at (j := 3) rfl) (aG (c3.at (j := 4) rfl) (aG (c3.at (j := 5) rfl) (aG (c3.at (j := 6) rfl) ?_))))))
  have F3 := F1.fr0 f13
  refine aU (((hsp.fr0 f1).fr0 f13).cells.at0 rfl) (aS (aY (F3.own.cells.at (j := 2) rfl) ?_))
  refine KT t.xs[i] d cur tk hcur hd fun h4 f4 => ⟨_, rfl, ?_⟩
  have f14 := f13.trans f4
  refine ifN (fun e3 => ?_) fun e3 => ?_
  ·have := hk h4 (f1.trans f14)
   have hn : t.xs.all (fun t => vU t d cur) = false := by
    rw [List.all_eq_false]
    exact ⟨t.xs[i], List.getElem_mem hil, by rw [e3]; decide⟩
   rw [hn, if_neg (by decide)] at this
   exact this
  ·rw [wr (by omega) (by omega)]
   exact hK (t.xs.length - (i + 1)) _ _ (by omega) ⟨i + 1, rfl, hil, rfl, f1.trans f14, by rw [hall, ha, e3]; rfl⟩
 ·have : i = t.xs.length := by omega
  subst this
  rw [List.take_length] at ha
  have := hk h1 f1
  rw [if_pos ha] at this
  exact this
theorem Ez (c : Cn) (ok : OkC c) (size cur : Int) (hs : 0 ≤ size) (hcur : 0 ≤ cur ∧ cur ≤ 2147483648) : 0 ≤ (jb c size cur).1 ∧ (jb c size cur).1 ≤ 3221225472 ∧ (jb c size cur).2 + c.Pattern.length ≤ size + 2 ^ 20 ∧ ((jb c size cur).1 ≤ (jb c size cur).2 → (jb c size cur).2 + c.Pattern.length ≤ size) ∧ -1 ≤ (jb c size cur).2 := by
 have k1 := ok.o1
 have k2 := ok.o2
 have k3 := ok.d1
 have k5 := ok.p
 have hlo : loL c cur ≤ 3221225472 := by unfold loL; split <;> omega
 have hhi : hiL c size cur ≤ size := by unfold hiL; split <;> (try split) <;> omega
 unfold jb
 split
 ·exact ⟨by simp, by simp, by simp only; omega, by simp, by simp⟩
 ·rename_i hh
  have ht : 0 ≤ D1 c cur := by unfold D1; split <;> omega
  have ht2 : D1 c cur ≤ 3221225472 := by unfold D1; split <;> omega
  exact ⟨ht, ht2, by simp only; omega, fun _ => by simp only; omega, by simp only; omega⟩
theorem KB [Gh] (hb : bud ≤ 2 ^ 40) (hd : d.length ≤ 2 ^ 30) (hoc : ∀ x ∈ l.xs, OkC x) (hot : ∀ x ∈ t.xs, OkT x) : ∀ (rest : List Cn) (i : Nat), i ≤ l.xs.length → l.xs.drop i = rest → ∀ (cur : Int), 0 ≤ cur ∧ cur ≤ d.length → ∀ {h : aA} {left : Nat}, SrF N h s l t d bud left false → ∀ {Q : Value → aA → Prop},
  (∀ h', Fr (fun x => x = s.block) h h' → SrF N h' s l t d bud (iF d t.xs rest cur left).2.1 (iF d t.xs rest cur left).2.2 → Q (Kv (iF d t.xs rest cur left)) h') →
  aE Tryz.prog fC #[.pointer (some s), .int .i64 (i : Int), .int .i64 cur] h Q := by
 intro rest
 induction rest with
 | nil =>
  intro i hil he cur hcur h left F Q hk
  have hi : i = l.xs.length := by have := List.drop_eq_nil_iff.1 he; omega
  apply oz
  unfold kS
  refine bA (vs := [.pointer (some s)]) fun t3 h1 f1 e1 o1 => ?_
  refine bA (vs := [.int .i64 (i : Int)]) fun t4 h2 f2 e2 o2 => ?_
  have f12 := f1.trans f2
  have F2 := F.fr0 f12
  have o12 := o1.fr0 f2
  have c2 := F2.own.cells
  unfold iB
  refine aB (o2.cells.at0 rfl) (aU (o12.cells.at0 rfl) (aS (aD (c2.at0 rfl) ?_)))
  rw [if_pos (by rw [hi]; simp)]
  refine aU (o12.cells.at0 rfl) (aS (aD (c2.at (j := 1) rfl) ?_))
  refine J1 (Kn := fun _ _ => True) F2 hd hot o12 cur ⟨hcur.1, by omega⟩ fun h3 f3 => ?_
  exact hk h3 ((f12.trans f3).mono fun _ h => h.elim) (F2.fr0 f3)
 | cons c rest ih =>
  intro i hil he cur hcur h left F Q hk
  have hi : i < l.xs.length := by
   rcases Nat.lt_or_ge i l.xs.length with h | h
   ·exact h
   ·rw [List.drop_of_length_le h] at he; cases he
  obtain ⟨ec, er⟩ : l.xs[i] = c ∧ l.xs.drop (i + 1) = rest := by
   rw [List.drop_eq_getElem_cons hi] at he
   injection he with h1 h2; exact ⟨h1, h2⟩
  have okc : OkC c := by rw [← ec]; exact hoc _ (List.getElem_mem hi)
  have hlen := (F.rd h (Fr.refl _ _)).1.cap
  apply oz
  unfold kS
  refine bA (vs := [.pointer (some s)]) fun t3 h1 f1 e1 o1 => ?_
  have z1 := f1.size
  have l1 := o1.lt
  refine bA (vs := [.int .i64 (i : Int)]) fun t4 h2 f2 e2 o2 => ?_
  have z2 := f2.size
  have l2 := o2.lt
  have f12 := f1.trans f2
  have F2 := F.fr0 f12
  have o12 := o1.fr0 f2
  have ls := F.own.lt
  have c2 := F2.own.cells
  have hSN := F.sz
  unfold iB
  refine aB (o2.cells.at0 rfl) (aU (o12.cells.at0 rfl) (aS (aD (c2.at0 rfl) ?_)))
  rw [if_neg (by simp; omega)]
  unfold kf
  refine aU (o12.cells.at0 rfl) (aS (aD (c2.at0 rfl) (aB (o2.cells.at0 rfl) ?_)))
  refine eN (F2.rd h2 (Fr.refl _ _)).1 i rfl hi fun ad cc _ => ?_
  rw [Int.toNat_natCast]
  rw [ec] at cc
  refine aY (cc.at0 rfl) (aG (cc.at (j := 1) rfl) (aG (cc.at (j := 2) rfl) (aG (cc.at (j := 3) rfl) (aB (cc.at (j := 4) rfl) (aB (cc.at (j := 5) rfl) (aG (cc.at (j := 6) rfl) ?_))))))
  refine bA (vs := [.string (bs []), .bool false, .bool false, .bool false, .int .i64 0, .int .i64 0, .bool false]) fun t10 h3 f3 e3 o3 => ?_
  have z3 := f3.size
  have l3 := o3.lt
  have cc3 := cc.fr0 f3
  have c3 := (F2.fr0 f3).own.cells
  refine ⟨aU ((o12.fr0 f3).cells.at0 rfl) rfl, aD (c3.at0 rfl) rfl, aB ((o2.fr0 f3).cells.at0 rfl) rfl, aY (cc3.at0 rfl) (aG (cc3.at (j := 1) rfl) (aG (cc3.at (j := 2) rfl) (aG (cc3.at (j := 3) rfl) (aB (cc3.at (j := 4) rfl) (aB (cc3.at (j := 5) rfl) (aG (cc3.at (j := 6) rfl) rfl)))))), ?_⟩
  refine jQ o3 (ws := c.vals) (by rfl) (by rfl) fun h4 f4 s4 o4 => ?_
  have f24 : Fr (fun _ => False) h2 h4 := f3.tr f4 fun b hb hi => by omega
  have z4 := f24.size
  have l4 := o4.lt
  have k4 : bB h4 t10 c.vals := o4.cells
  have F4 := F2.fr0 f24
  have o14 := o12.fr0 f24
  have o24 := o2.fr0 f24
  have c4 := F4.own.cells
  refine aY (k4.at0 rfl) (aG (k4.at (j := 1) rfl) (aG (k4.at (j := 2) rfl) (aG (k4.at (j := 3) rfl) (aB (k4.at (j := 4) rfl) (aB (k4.at (j := 5) rfl) (aG (k4.at (j := 6) rfl) ?_))))))
  refine aU (o14.cells.at0 rfl) (aS (aY (c4.at (j := 2) rfl) ?_))
  rw [bN]
  have bd := Ez c okc d.length cur (by omega) ⟨hcur.1, by omega⟩
  unfold iF at hk
  have Bc : ∀ {h : aA} {Q : Value → aA → Prop}, (∀ h', Fr (fun _ => False) h h' → Q (.tuple #[.int .i64 (jb c d.length cur).1, .int .i64 (jb c d.length cur).2]) h') → aE Tryz.prog jy #[.agg c.vals.toArray, .int .i64 ((d.length : Nat) : Int), .int .i64 cur] h Q := fun hq => Hv c _ cur okc ⟨by omega, by omega⟩ ⟨hcur.1, by omega⟩ hq
  generalize (jb c d.length cur).1 = lo at *
  generalize (jb c d.length cur).2 = hi' at *
  have tail : ∀ (t11 : Addr) (h5 : aA), Fr (fun _ => False) h4 h5 → h4.size ≤ t11.block → Own h5 t11 [.int .i64 lo] mn →
    aJ (fun (s : Addr × Addr × Int × Addr × Addr × Addr × Addr) h Kn => dO cur t3 t4 Q s.1 s.2.1 s.2.2.1 s.2.2.2.1 s.2.2.2.2.1 s.2.2.2.2.2.1 s.2.2.2.2.2.2 h Kn) (t10, t11, hi', t3, t10, t11, t4) h5 := fun t11 h5 f45 hb11 o11 => by
   have z5 := f45.size
   have l11 := o11.lt
   refine aJ.go (fun n st h' => ∃ (p : Int) (lf : Nat), st = (t10, t11, hi', t3, t10, t11, t4) ∧ n = (hi' - p + 1).toNat ∧ 0 ≤ p ∧ lo ≤ p ∧ p ≤ 2 ^ 40 ∧ Fr (fun x => x = s.block ∨ x = t11.block) h5 h' ∧ Own h' t11 [.int .i64 p] mn ∧ SrF N h' s l t d bud lf false ∧
     places d c (iF d t.xs rest) (fun left => if c.Not = true then iF d t.xs rest cur left else (none, left, false)) (hi' - lo + 1).toNat lo left = places d c (iF d t.xs rest) (fun left => if c.Not = true then iF d t.xs rest cur left else (none, left, false)) (hi' - p + 1).toNat p lf) (hi' - lo + 1).toNat
    ⟨lo, left, rfl, rfl, bd.1, by omega, by omega, Fr.refl _ _, o11, F4.fr0 f45, rfl⟩ ?_
   rintro n - h6 ⟨p, lf, rfl, rfl, hp0, hlp, hp2, f6, o6, F6, heq⟩ Kn hK
   dsimp only
   unfold dO
   rw [heq] at hk
   have z6 := f6.size
   have F46 : Fr (fun x => x = s.block ∨ x = t11.block) h4 h6 := (f45.mono fun _ h => h.elim).trans f6
   have k6 : bB h6 t10 c.vals := k4.fr F46 fun hh => by rcases hh with h | h <;> omega
   have o16 := o14.fr F46 fun hh => by rcases hh with h | h <;> omega
   have o26 := o24.fr F46 fun hh => by rcases hh with h | h <;> omega
   have F06 : Fr (fun x => x = s.block) h h6 := ((f12.trans f24).mono fun _ h => h.elim).tr F46 fun x hx hh => by
    rcases hh with h | h
    ·exact h
    ·omega
   refine aB (o6.cells.at0 rfl) (ifD (fun e5 => ?_) fun e5 => ?_)
   ·
    rw [show (hi' - p + 1).toNat = 0 by omega] at hk
    unfold places at hk
    refine aG (k6.at (j := 2) rfl) (ifB (fun e6 => ?_) fun e6 => ?_)
    ·rw [if_pos e6] at hk
     refine aU (o16.cells.at0 rfl) (aB (o26.cells.at0 rfl) ?_)
     rw [wr (by omega) (by omega)]
     refine ih (i + 1) hi er cur hcur F6 fun h7 f7 F7 => ⟨_, _, rfl, ?_⟩
     exact hk h7 (F06.trans f7) F7
    ·rw [if_neg (by rw [e6]; decide)] at hk
     exact hk h6 F06 F6
   ·obtain ⟨m, hm⟩ : ∃ m, (hi' - p + 1).toNat = m + 1 := ⟨(hi' - p).toNat, by omega⟩
    rw [hm] at hk
    have hpl := bd.2.2.2.1 (by omega)
    unfold places at hk
    have hm' : (hi' - (p + 1) + 1).toNat = m := by omega
    apply sA
    unfold m0
    refine aU (o16.cells.at0 rfl) (aY (k6.at0 rfl) (aG (k6.at (j := 1) rfl) (aG (k6.at (j := 2) rfl) (aG (k6.at (j := 3) rfl) (aB (k6.at (j := 4) rfl) (aB (k6.at (j := 5) rfl) (aG (k6.at (j := 6) rfl) (aB (o6.cells.at0 rfl) ?_))))))))
    have next : ∀ (h7 : aA) (lf' : Nat), Fr (fun x => x = s.block) h6 h7 → SrF N h7 s l t d bud lf' false → places d c (iF d t.xs rest) (fun left => if c.Not = true then iF d t.xs rest cur left else (none, left, false)) (hi' - p + 1).toNat p lf = places d c (iF d t.xs rest) (fun left => if c.Not = true then iF d t.xs rest cur left else (none, left, false)) m (p + 1) lf' →
      ldI h7 t11 .i64 fun t93 => st1 h7 t11 (.int .i64 (wrap .i64 (t93 + 1))) fun h13 => Kn (t10, t11, hi', t3, t10, t11, t4) h13 := fun h7 lf' f7 F7 hpq => by
     have o7 := o6.fr f7 fun hh => by omega
     refine aB (o7.cells.at0 rfl) ?_
     rw [wr (by omega) (by omega)]
     refine kG o7 (by simp) rfl fun h8 f8 s8 o8 => ?_
     refine hK m _ _ (by omega) ⟨p + 1, lf', rfl, hm'.symm, by omega, by omega, by omega, (f6.trans (f7.mono fun x hx => .inl hx)).trans (f8.mono fun x hx => .inr hx), o8, F7.fr f8 (fun hh => by omega) (fun x hx hh => by omega), ?_⟩
     rw [heq, hpq, hm']
    have okp := okc.p
    refine Gd F6 hb c p (by omega) (by omega) (fun e7 h7 f7 F7 => ⟨_, rfl, ?_⟩) fun e7 h7 f7 F7 => ⟨_, rfl, ?_⟩
    ·rw [if_pos (by rfl)]
     subst e7
     rw [if_pos rfl] at hk
     have o17 := o16.fr f7 fun hh => by omega
     refine ⟨_, _, rfl, aU (o17.cells.at0 rfl) (aS (aG (F7.own.cells.at (j := 5) rfl) ?_))⟩
     rw [if_pos rfl]
     exact hk h7 (F06.trans f7) F7
    ·rw [if_neg e7] at hk
     have o17 := o16.fr f7 fun hh => by omega
     have o27 := o26.fr f7 fun hh => by omega
     have o67 := o6.fr f7 fun hh => by omega
     have k7 : bB h7 t10 c.vals := k6.fr f7 fun hh => by omega
     refine ifN (fun e8 => ?_) fun e8 => ?_
     ·refine ⟨_, _, rfl, aU (o17.cells.at0 rfl) (aS (aG (F7.own.cells.at (j := 5) rfl) ?_))⟩
      rw [if_neg (by decide)]
      have nx := next h7 (lf - 1) f7 F7 (by rw [hm]; (conv => lhs; unfold places); rw [if_neg e7, if_neg (by rw [e8]; decide)])
      refine aG (k7.at (j := 2) rfl) (ifB (fun _ => ?_) fun _ => ?_)
      ·rw [if_neg (by decide), if_neg (by decide)]; exact nx
      ·rw [if_neg (by decide)]; exact nx
     ·rw [if_pos e8] at hk
      refine aG (k7.at (j := 2) rfl) (ifB (fun e9 => ?_) fun e9 => ?_)
      ·rw [if_pos e9] at hk
       refine ⟨_, _, rfl, aU (o17.cells.at0 rfl) (aS (aG (F7.own.cells.at (j := 5) rfl) ?_))⟩
       rw [if_neg (by decide)]
       refine aG (k7.at (j := 2) rfl) ?_
       rw [if_pos e9, if_pos rfl]
       exact hk h7 (F06.trans f7) F7
      ·rw [if_neg (by rw [e9]; decide)] at hk
       refine aU (o17.cells.at0 rfl) (aB (o27.cells.at0 rfl) (aB (o67.cells.at0 rfl) (aY (k7.at0 rfl) ?_)))
       rw [bN, wr (x := (i : Int) + 1) (by omega) (by omega), wr (by omega) (by omega)]
       refine ih (i + 1) hi er (p + c.Pattern.length) ⟨by omega, by omega⟩ F7 fun h8 f8 F8 => ⟨_, _, rfl, _, _, rfl, ?_⟩
       have f68 := f7.trans f8
       have o18 := o17.fr f8 fun hh => by omega
       have k8 : bB h8 t10 c.vals := k7.fr f8 fun hh => by omega
       have sok := zv d t.xs rest (p + c.Pattern.length) (lf - 1)
       refine aU (o18.cells.at0 rfl) (aS (aG (F8.own.cells.at (j := 5) rfl) (ifB (fun e10 => ?_) fun e10 => ?_)))
       ·rw [if_pos e10] at hk
        rw [e10] at F8
        exact hk h8 (F06.trans f68) F8
       ·rw [if_neg (by rw [e10]; decide)] at hk
        refine aG (k8.at (j := 2) rfl) ?_
        rw [if_neg (by rw [e9]; decide)]
        refine ifB (fun e11 => ?_) fun e11 => ?_
        ·rw [if_pos e11] at hk
         have := hk h8 (F06.trans f68) F8
         unfold Kv at this
         rw [e11] at this; exact this
        ·rw [e10] at F8
         exact next h8 _ f68 F8 (by rw [hm]; (conv => lhs; unfold places); rw [if_neg e7, if_pos e8, if_neg (by rw [e9]; decide), if_neg (by rw [e10]; decide), if_neg (by rw [e11]; decide)])
  refine ⟨Bc fun h5 f5 => ⟨_, _, rfl, ?_⟩, ?_⟩
  ·have z5 := f5.size
   refine bA (vs := [.int .i64 0]) fun t11 h6 f6 e6 o6 => ?_
   have f46 := f5.trans f6
   have k6 := k4.fr0 f46
   have c6 := (F4.fr0 f46).own.cells
   refine ⟨aY (k6.at0 rfl) (aG (k6.at (j := 1) rfl) (aG (k6.at (j := 2) rfl) (aG (k6.at (j := 3) rfl) (aB (k6.at (j := 4) rfl) (aB (k6.at (j := 5) rfl) (aG (k6.at (j := 6) rfl) rfl)))))), aU ((o14.fr0 f46).cells.at0 rfl) rfl, aY (c6.at (j := 2) rfl) rfl, ?_⟩
   refine kG o6 (by simp) rfl fun h7 f7 s7 o7 => ?_
   exact tail t11 h7 (f46.tr f7 fun x hx hh => by omega) (by omega) o7
  ·refine bA (vs := [.int .i64 0]) fun t11 h6 f6 e6 o6 => ?_
   have k6 := k4.fr0 f6
   have c6 := (F4.fr0 f6).own.cells
   refine ⟨aY (k6.at0 rfl) (aG (k6.at (j := 1) rfl) (aG (k6.at (j := 2) rfl) (aG (k6.at (j := 3) rfl) (aB (k6.at (j := 4) rfl) (aB (k6.at (j := 5) rfl) (aG (k6.at (j := 6) rfl) rfl)))))), aU ((o14.fr0 f6).cells.at0 rfl) rfl, aY (c6.at (j := 2) rfl) rfl, ?_⟩
   refine Bc fun h7 f7 => ⟨_, _, rfl, ?_⟩
   refine kG (o6.fr0 f7) (by simp) rfl fun h8 f8 s8 o8 => ?_
   have f67 := f6.trans f7
   exact tail t11 h8 (f67.tr f8 fun x hx hh => by omega) (by omega) o8
end
def EN (d : Nm) (cs : List Cn) (ts : List Ts) (bud : Nat) : Value :=
 if (iF d ts cs 0 bud).2.2 = true then .tuple #[.bool false, .int .i64 0, .int .i64 bud, .int .i64 16]
 else .tuple #[.bool (iF d ts cs 0 bud).1.isSome, .int .i64 ((iF d ts cs 0 bud).1.getD 0), .int .i64 (bud - (iF d ts cs 0 bud).2.1 : Nat), .int .i64 0]
theorem JH [Gh] {h : aA} (l : Sl Cn) (t : Sl Ts) (d : Nm) (bud : Int) (hl : bJ 7 aI.vals aI.ok h l) (ht : bJ 7 bC.vals bC.ok h t) (hb : bud ≤ 2 ^ 40) (hd : d.length ≤ 2 ^ 30) (hoc : ∀ x ∈ l.xs, OkC x) (hot : ∀ x ∈ t.xs, OkT x) {Q : Value → aA → Prop}
  (hk : ∀ h', Fr (fun _ => False) h h' → Q (EN d l.xs t.xs bud.toNat) h') :
  aE Tryz.prog oO #[.slice l.p l.xs.length l.cap, .slice t.p t.xs.length t.cap, .string (bs d), .int .i64 bud] h Q := by
 apply yH
 unfold tV
 have eb : (if (0 : Int) > bud then (0 : Int) else bud) = (bud.toNat : Int) := by split <;> omega
 rw [eb]
 refine bA (vs := [.slice l.p l.xs.length l.cap, .slice t.p t.xs.length t.cap, .string (bs d), .int .i64 (bud.toNat : Int), .int .i64 0, .bool false]) fun s h1 f1 e1 o1 => ?_
 have z1 := f1.size
 have o1' : Own h1 s [.slice l.p l.xs.length l.cap, .slice t.p t.xs.length t.cap, .string (bs d), .int .i64 (bud.toNat : Int), .int .i64 (bud.toNat - bud.toNat : Nat), .bool false] oV := by
  rw [Nat.sub_self]; exact o1
 have F1 : SrF h.size h1 s l t d bud.toNat bud.toNat false := ⟨o1', Nat.le_refl _, by omega, z1, fun h' f => by
  have f0 : Fr (fun _ => False) h h' := f1.tr f fun x hx hh => by omega
  exact ⟨bJ.fr0 aI.ok_fr f0 hl, bJ.fr0 bC.ok_fr f0 ht⟩⟩
 refine KB (by omega) hd hoc hot l.xs 0 (Nat.zero_le _) rfl 0 ⟨by omega, by omega⟩ F1 fun h2 f2 F2 => ⟨_, _, rfl, ?_⟩
 have hk := hk h2 (f1.tr f2 fun x hx hh => by omega)
 unfold EN at hk
 have c2 := F2.own.cells
 refine aG (c2.at (j := 5) rfl) (ifB (fun e => ?_) fun e => ?_)
 ·rw [if_pos e] at hk
  exact aB (c2.at (j := 3) rfl) hk
 ·rw [if_neg (by rw [e]; decide)] at hk
  exact aB (c2.at (j := 4) rfl) hk
theorem yV {d : Nm} {ts : List Ts} : ∀ (cs : List Cn) (cur : Int) (l : Nat), (iF d ts cs cur l).1.isSome = true → ∀ c ∈ cs, c.Not = false → ∃ p : Int, atB c d p = true
 | [], _, _, _, c, hc, _ => absurd hc List.not_mem_nil
 | x :: cs, cur, l, h, c, hc, hn => by
  have key : ∀ (n : Nat) (p : Int) (l : Nat), (places d x (iF d ts cs) (fun left => if x.Not = true then iF d ts cs cur left else (none, left, false)) n p l).1.isSome = true → (∃ cur' l', (iF d ts cs cur' l').1.isSome = true) ∧ (x.Not = false → ∃ p, atB x d p = true) := by
   intro n
   induction n with
   | zero =>
    intro p l h
    unfold places at h
    by_cases hx : x.Not = true
    ·rw [if_pos hx] at h; exact ⟨⟨_, _, h⟩, fun h2 => by rw [hx] at h2; cases h2⟩
    ·rw [if_neg hx] at h; cases h
   | succ n ih =>
    intro p l h
    unfold places at h
    by_cases h0 : l = 0
    ·rw [if_pos h0] at h; cases h
    rw [if_neg h0] at h
    by_cases hat : atB x d p = true
    ·rw [if_pos hat] at h
     by_cases hx : x.Not = true
     ·rw [if_pos hx] at h; cases h
     rw [if_neg hx] at h
     by_cases h1 : (iF d ts cs (p + x.Pattern.length) (l - 1)).2.2 = true
     ·rw [if_pos h1] at h; cases h
     rw [if_neg h1] at h
     by_cases h2 : (iF d ts cs (p + x.Pattern.length) (l - 1)).1.isSome = true
     ·exact ⟨⟨_, _, h2⟩, fun _ => ⟨p, hat⟩⟩
     ·rw [if_neg h2] at h
      exact ih _ _ h
    ·rw [if_neg hat] at h
     exact ih _ _ h
  unfold iF at h
  have k := key _ _ _ h
  rcases List.mem_cons.1 hc with rfl | hc
  ·exact k.2 hn
  ·obtain ⟨c', l', h'⟩ := k.1
   exact yV cs c' l' h' c hc hn
end Go.Proofs.YtjmfpeiidlpngaaGreatDoor.Au
namespace Go.Proofs.YtjmfpeiidlpngaaGreatDoor.Au
set_option linter.unusedSimpArgs false
set_option linter.unusedVariables false
set_option maxRecDepth 20000
open Go
open Go.IntKind (wrap)
structure vo (r : aO) : Prop where
 act : 1 ≤ r.Action ∧ r.Action ≤ 4
 proto : r.Proto = 6 ∨ r.Proto = 17
 sid : 1 ≤ r.Sid ∧ r.Sid < 4294967296
 prio : 1 ≤ r.Priority ∧ r.Priority ≤ 4
 dir : 0 ≤ r.Dir ∧ r.Dir ≤ 2
 kind : 1 ≤ r.Kind ∧ r.Kind ≤ 18
 msg : r.Msg.length ≤ 128
 trn : r.Transforms.xs.length ≤ 4
 conn : r.Contents.xs.length ≤ 8
 tesn : r.Tests.xs.length ≤ 8
 flon : r.Flow.xs.length ≤ 8
 src : r.Src.xs.length ≤ 64
 dst : r.Dst.xs.length ≤ 64
 sp : r.SrcPorts.xs.length ≤ 64
 dp : r.DstPorts.xs.length ≤ 64
 tr : ∀ x ∈ r.Transforms.xs, 1 ≤ x ∧ x ≤ 6
 con : ∀ c ∈ r.Contents.xs, 1 ≤ c.Pattern.length ∧ c.Pattern.length ≤ 64 ∧ -1024 ≤ c.Offset ∧ c.Offset ≤ 1024 ∧ 0 ≤ c.Depth ∧ c.Depth ≤ 1024
 tes : ∀ t ∈ r.Tests.xs, -1024 ≤ t.Offset ∧ t.Offset ≤ 1024
 flo : ∀ f ∈ r.Flow.xs, f.Name.length ≤ 32 ∧ 1 ≤ f.Op ∧ f.Op ≤ 4
theorem vo.okC {r : aO} (K : vo r) : ∀ c ∈ r.Contents.xs, OkC c := fun c hc => by
 have := K.con c hc; exact ⟨by omega, by omega, by omega, by omega, by omega⟩
theorem vo.okT {r : aO} (K : vo r) : ∀ t ∈ r.Tests.xs, OkT t := fun t ht => by
 have := K.tes t ht; exact ⟨by omega, by omega⟩
section
variable {h : aA} {Q : Value → aA → Prop}
theorem uK {α : Type} {l : List α} {P : α → Prop} {i : Nat} (hi : i < l.length) (h : ∀ x ∈ l.take i, P x) (hx : P l[i]) : ∀ x ∈ l.take (i + 1), P x := fun x hm => by
 rw [show l.take (i + 1) = l.take i ++ [l[i]] by rw [List.take_append_getElem]] at hm
 rcases List.mem_append.1 hm with hm | hm
 ·exact h x hm
 ·rw [List.mem_singleton.1 hm]; exact hx
theorem J0 [Gh] (r : aO) (hk : ∀ (b : Bool) h', Fr (fun _ => False) h h' → (b = true → (1 ≤ r.Action ∧ r.Action ≤ 4) ∧ (r.Proto = 6 ∨ r.Proto = 17) ∧ (1 ≤ r.Sid ∧ r.Sid < 4294967296) ∧ (1 ≤ r.Priority ∧ r.Priority ≤ 4) ∧ (0 ≤ r.Dir ∧ r.Dir ≤ 2) ∧ (1 ≤ r.Kind ∧ r.Kind ≤ 18)) → Q (.bool b) h') :
  aE Tryz.prog qL #[.agg r.vals.toArray] h Q := by
 apply AO
 unfold wn
 refine bA (vs := r.vals) fun t1 h1 f1 e1 o1 => ?_
 have c1 : bB h1 t1 r.vals := o1.cells
 have no : Q (.bool false) h1 := hk _ h1 f1 fun h => by cases h
 have rest : 1 ≤ r.Action → r.Action ≤ 4 → (r.Proto = 6 ∨ r.Proto = 17) → ldI h1 (Addr.add t1 7) .i64 fun t23 => if (decide (t23 ≥ 1)) = true then (ldI h1 (Addr.add t1 7) .i64 fun t28 => if (decide (t28 < 4294967296)) = true then (ldI h1 (Addr.add t1 8) .i64 fun t33 => if (decide (t33 ≥ 1)) = true then (ldI h1 (Addr.add t1 8) .i64 fun t38 => if (decide (t38 ≤ 65535)) = true then (ldI h1 (Addr.add t1 9) .i64 fun t43 => if (decide (t43 ≥ 1)) = true then (ldI h1 (Addr.add t1 9) .i64 fun t48 => if (decide (t48 ≤ 4)) = true then (ldI h1 (Addr.add t1 11) .i64 fun t53 => if (decide (t53 ≥ 0)) = true then (ldI h1 (Addr.add t1 11) .i64 fun t58 => if (decide (t58 ≤ 2)) = true then (ldI h1 (Addr.add t1 12) .i64 fun t63 => if (decide (t63 ≥ 1)) = true then (ldI h1 (Addr.add t1 12) .i64 fun t68 => Q (.bool (decide (t68 ≤ 18))) h1) else (Q (.bool false) h1)) else (Q (.bool false) h1)) else (Q (.bool false) h1)) else (Q (.bool false) h1)) else (Q (.bool false) h1)) else (Q (.bool false) h1)) else (Q (.bool false) h1)) else (Q (.bool false) h1)) else (Q (.bool false) h1) := fun a1 a2 a3 => by
  refine aB (c1.at (j := 7) rfl) (ifD (fun b1 => ?_) fun _ => no)
  refine aB (c1.at (j := 7) rfl) (ifD (fun b2 => ?_) fun _ => no)
  refine aB (c1.at (j := 8) rfl) (ifD (fun b3 => ?_) fun _ => no)
  refine aB (c1.at (j := 8) rfl) (ifD (fun b4 => ?_) fun _ => no)
  refine aB (c1.at (j := 9) rfl) (ifD (fun b5 => ?_) fun _ => no)
  refine aB (c1.at (j := 9) rfl) (ifD (fun b6 => ?_) fun _ => no)
  refine aB (c1.at (j := 11) rfl) (ifD (fun b7 => ?_) fun _ => no)
  refine aB (c1.at (j := 11) rfl) (ifD (fun b8 => ?_) fun _ => no)
  refine aB (c1.at (j := 12) rfl) (ifD (fun b9 => ?_) fun _ => no)
  refine aB (c1.at (j := 12) rfl) (hk _ h1 f1 fun e => ?_)
  exact ⟨⟨a1, a2⟩, a3, ⟨b1, b2⟩, ⟨b5, b6⟩, ⟨b7, b8⟩, b9, of_decide_eq_true e⟩
 refine aB (c1.at0 rfl) (ifD (fun a1 => aB (c1.at0 rfl) (ifD (fun a2 => ?_) fun _ => no)) fun _ => no)
 refine aB (c1.at (j := 1) rfl) (ifE (fun a3 => rest a1 a2 (.inl a3)) fun _ => aB (c1.at (j := 1) rfl) (ifE (fun a3 => rest a1 a2 (.inr a3)) fun _ => no))
theorem JD [Gh] (r : aO) (hk : ∀ (b : Bool) h', Fr (fun _ => False) h h' → Q (.bool b) h') : aE Tryz.prog qF #[.agg r.vals.toArray] h Q := by
 apply AU
 unfold wc
 refine bA (vs := r.vals) fun t1 h1 f1 e1 o1 => ?_
 have c1 : bB h1 t1 r.vals := o1.cells
 refine aB (c1.at (j := 1) rfl) (ifE (fun _ => aB (c1.at (j := 12) rfl) (hk _ h1 f1)) fun _ => ?_)
 refine aB (c1.at (j := 12) rfl) (ifE (fun _ => hk _ h1 f1) fun _ => aB (c1.at (j := 12) rfl) (ifE (fun _ => hk _ h1 f1) fun _ => aB (c1.at (j := 12) rfl) (ifE (fun _ => hk _ h1 f1) fun _ => aB (c1.at (j := 12) rfl) (hk _ h1 f1))))
theorem Jx [Gh] (r : aO) (hk : ∀ (b : Bool) h', Fr (fun _ => False) h h' → (b = true → r.Msg.length ≤ 128 ∧ r.Transforms.xs.length ≤ 4 ∧ r.Contents.xs.length ≤ 8 ∧ r.Tests.xs.length ≤ 8 ∧ r.Flow.xs.length ≤ 8 ∧ r.Src.xs.length ≤ 64 ∧ r.Dst.xs.length ≤ 64 ∧ r.SrcPorts.xs.length ≤ 64 ∧ r.DstPorts.xs.length ≤ 64) → Q (.bool b) h') :
  aE Tryz.prog qB #[.agg r.vals.toArray] h Q := by
 apply AM
 unfold wi
 refine bA (vs := r.vals) fun t1 h1 f1 e1 o1 => ?_
 have c1 : bB h1 t1 r.vals := o1.cells
 have no : Q (.bool false) h1 := hk _ h1 f1 fun h => by cases h
 refine aY (c1.at (j := 10) rfl) ?_
 rw [bN]
 refine ifD (fun b0 => ?_) fun _ => no
 refine aD (c1.at (j := 13) rfl) (ifD (fun b1 => ?_) fun _ => no)
 refine aD (c1.at (j := 14) rfl) (ifD (fun b2 => ?_) fun _ => no)
 refine aD (c1.at (j := 15) rfl) (ifD (fun b3 => ?_) fun _ => no)
 refine aD (c1.at (j := 16) rfl) (ifD (fun b4 => ?_) fun _ => no)
 refine aD (c1.at (j := 2) rfl) (ifD (fun b5 => ?_) fun _ => no)
 refine aD (c1.at (j := 3) rfl) (ifD (fun b6 => ?_) fun _ => no)
 refine aD (c1.at (j := 4) rfl) (ifD (fun b7 => ?_) fun _ => no)
 refine aD (c1.at (j := 5) rfl) (hk _ h1 f1 fun e => ?_)
 have e := of_decide_eq_true e
 exact ⟨by omega, by omega, by omega, by omega, by omega, by omega, by omega, by omega, by omega⟩
theorem Da [Gh] (n : Int) (rel : Bool) (hk : ∀ b : Bool, (b = true → -1024 ≤ n ∧ n ≤ 1024) → Q (.bool b) h) : aE Tryz.prog gX #[.int .i64 n, .bool rel] h Q := by
 apply zX
 unfold uJ
 have no : Q (.bool false) h := hk _ fun h => by cases h
 refine ifD (fun e1 => ifD (fun e2 => hk _ fun _ => by omega) fun e2 => ifB (fun _ => hk _ fun e => ?_) fun _ => no) fun _ => no
 have := of_decide_eq_true e; omega
theorem yr [Gh] (l : Sl aN) (o : bJ 6 aN.vals aN.ok h l) (hk : ∀ b : Bool, Q (.bool b) h) : aE Tryz.prog ko #[.slice l.p l.xs.length l.cap] h Q := by
 apply wP
 unfold ro
 have hcap := o.cap
 refine aJ.go (fun n st h' => ∃ i : Nat, st = (i : Int) ∧ i ≤ l.xs.length ∧ n = l.xs.length - i ∧ h' = h) l.xs.length ⟨0, rfl, by omega, rfl, rfl⟩ ?_
 rintro n - h1 ⟨i, rfl, hi, rfl, rfl⟩ Kn hK
 unfold mO
 refine ifD (fun e => ?_) fun _ => hk _
 have hil : i < l.xs.length := by omega
 refine eN o i rfl hil fun ad c _ => ?_
 rw [Int.toNat_natCast]
 have nx : Kn (wrap .i64 ((i : Int) + 1)) h1 := by
  rw [wr (by omega) (by omega)]
  exact hK (l.xs.length - (i + 1)) _ _ (by omega) ⟨i + 1, rfl, hil, rfl, rfl⟩
 refine aY (c.at (j := 1) rfl) (Li (m := []) (fun _ => ?_) fun _ => nx)
 refine eN o i rfl hil fun ad c _ => ?_
 refine aY (c.at (j := 1) rfl) (zW _ fun b _ => ⟨b, rfl, ifN (fun _ => hk _) fun _ => nx⟩)
theorem yi [Gh] (l : Sl aL) (o : bJ 4 aL.vals aL.ok h l) (hk : ∀ b : Bool, Q (.bool b) h) : aE Tryz.prog j8 #[.slice l.p l.xs.length l.cap] h Q := by
 apply w6
 unfold rp
 have hcap := o.cap
 refine aJ.go (fun n st h' => ∃ i : Nat, st = (i : Int) ∧ i ≤ l.xs.length ∧ n = l.xs.length - i ∧ h' = h) l.xs.length ⟨0, rfl, by omega, rfl, rfl⟩ ?_
 rintro n - h1 ⟨i, rfl, hi, rfl, rfl⟩ Kn hK
 unfold mR
 refine ifD (fun e => ?_) fun _ => hk _
 have hil : i < l.xs.length := by omega
 refine eN o i rfl hil fun ad c _ => ?_
 rw [Int.toNat_natCast]
 have nx : Kn (wrap .i64 ((i : Int) + 1)) h1 := by
  rw [wr (by omega) (by omega)]
  exact hK (l.xs.length - (i + 1)) _ _ (by omega) ⟨i + 1, rfl, hil, rfl, rfl⟩
 refine aY (c.at (j := 1) rfl) (Li (m := []) (fun _ => ?_) fun _ => nx)
 refine eN o i rfl hil fun ad c _ => ?_
 refine aY (c.at (j := 1) rfl) (zW _ fun b _ => ⟨b, rfl, ifN (fun _ => hk _) fun _ => nx⟩)
theorem DO [Gh] (l : Sl aZ) (o : bJ 2 aZ.vals aZ.ok h l) (hk : ∀ b : Bool, (b = true → ∀ f ∈ l.xs, f.Name.length ≤ 32) → Q (.bool b) h) : aE Tryz.prog mI #[.slice l.p l.xs.length l.cap] h Q := by
 apply xk
 unfold rh
 have hcap := o.cap
 refine aJ.go (fun n st h' => ∃ i : Nat, st = (i : Int) ∧ i ≤ l.xs.length ∧ n = l.xs.length - i ∧ h' = h ∧ ∀ f ∈ l.xs.take i, f.Name.length ≤ 32) l.xs.length ⟨0, rfl, by omega, rfl, rfl, by simp⟩ ?_
 rintro n - h1 ⟨i, rfl, hi, rfl, rfl, ha⟩ Kn hK
 unfold mS
 refine ifD (fun e => ?_) fun e => hk true fun _ => ?_
 ·have hil : i < l.xs.length := by omega
  refine eN o i rfl hil fun ad c _ => ?_
  rw [Int.toNat_natCast]
  refine aY (c.at (j := 1) rfl) (zW _ fun b hb => ⟨b, rfl, ifN (fun _ => hk _ fun h => by cases h) fun e2 => ?_⟩)
  rw [wr (by omega) (by omega)]
  exact hK (l.xs.length - (i + 1)) _ _ (by omega) ⟨i + 1, rfl, hil, rfl, rfl, uK hil ha (hb e2)⟩
 ·have : i = l.xs.length := by omega
  subst this
  rw [List.take_length] at ha; exact ha
theorem EI [Gh] (l : Sl Cn) (o : bJ 7 aI.vals aI.ok h l) (hk : ∀ (e : Int) h', Fr (fun _ => False) h h' → (e = 0 → ∀ c ∈ l.xs, 1 ≤ c.Pattern.length ∧ c.Pattern.length ≤ 64 ∧ -1024 ≤ c.Offset ∧ c.Offset ≤ 1024 ∧ 0 ≤ c.Depth ∧ c.Depth ≤ 1024) → Q (.int .i64 e) h') : aE Tryz.prog nW #[.slice l.p l.xs.length l.cap] h Q := by
 apply x5
 unfold r9
 have hcap := o.cap
 refine aJ.go (fun n st h' => ∃ i : Nat, st = (i : Int) ∧ i ≤ l.xs.length ∧ n = l.xs.length - i ∧ Fr (fun _ => False) h h' ∧ ∀ c ∈ l.xs.take i, 1 ≤ c.Pattern.length ∧ c.Pattern.length ≤ 64 ∧ -1024 ≤ c.Offset ∧ c.Offset ≤ 1024 ∧ 0 ≤ c.Depth ∧ c.Depth ≤ 1024) l.xs.length ⟨0, rfl, by omega, rfl, Fr.refl _ _, by simp⟩ ?_
 rintro n - h1 ⟨i, rfl, hi, rfl, f1, ha⟩ Kn hK
 unfold nJ
 refine ifD (fun e => ?_) fun e => hk 0 h1 f1 fun _ => ?_
 ·have hil : i < l.xs.length := by omega
  refine eN (bJ.fr0 aI.ok_fr f1 o) i rfl hil fun ad c _ => ?_
  rw [Int.toNat_natCast]
  refine aY (c.at0 rfl) (aG (c.at (j := 1) rfl) (aG (c.at (j := 2) rfl) (aG (c.at (j := 3) rfl) (aB (c.at (j := 4) rfl) (aB (c.at (j := 5) rfl) (aG (c.at (j := 6) rfl) ?_))))))
  refine bA (vs := [.string (bs []), .bool false, .bool false, .bool false, .int .i64 0, .int .i64 0, .bool false]) fun t4 h2 f2 e2 o2 => ?_
  refine jQ o2 (ws := l.xs[i].vals) (by rfl) (by rfl) fun h3 f3 s3 o3 => ?_
  have f13 : Fr (fun _ => False) h h3 := f1.trans (f2.tr f3 fun b hb hi => by omega)
  have c3 : bB h3 t4 l.xs[i].vals := o3.cells
  have no : ∀ e : Int, e ≠ 0 → Q (.int .i64 e) h3 := fun e he => hk _ h3 f13 fun h => absurd h he
  refine aY (c3.at0 rfl) ?_
  rw [bN]
  refine ifD (fun _ => no _ (by decide)) fun b1 => ?_
  refine aY (c3.at0 rfl) ?_
  rw [bN]
  refine ifD (fun _ => no _ (by decide)) fun b2 => ?_
  refine aB (c3.at (j := 4) rfl) (aG (c3.at (j := 3) rfl) (Da _ _ fun b hb => ⟨b, rfl, ifN (fun _ => no _ (by decide)) fun b3 => ?_⟩))
  have hb := hb b3
  refine aB (c3.at (j := 5) rfl) (ifD (fun _ => no _ (by decide)) fun b4 => aB (c3.at (j := 5) rfl) (ifD (fun _ => no _ (by decide)) fun b5 => ?_))
  rw [wr (by omega) (by omega)]
  exact hK (l.xs.length - (i + 1)) _ _ (by omega) ⟨i + 1, rfl, hil, rfl, f13, uK hil ha ⟨by omega, by omega, hb.1, hb.2, by omega, by omega⟩⟩
 ·have : i = l.xs.length := by omega
  subst this
  rw [List.take_length] at ha; exact ha
theorem HJ [Gh] (l : Sl Ts) (o : bJ 7 bC.vals bC.ok h l) (hk : ∀ (b : Bool) h', Fr (fun _ => False) h h' → (b = true → ∀ t ∈ l.xs, -1024 ≤ t.Offset ∧ t.Offset ≤ 1024) → Q (.bool b) h') : aE Tryz.prog qv #[.slice l.p l.xs.length l.cap] h Q := by
 apply AK
 unfold wk
 have hcap := o.cap
 refine aJ.go (fun n st h' => ∃ i : Nat, st = (i : Int) ∧ i ≤ l.xs.length ∧ n = l.xs.length - i ∧ Fr (fun _ => False) h h' ∧ ∀ t ∈ l.xs.take i, -1024 ≤ t.Offset ∧ t.Offset ≤ 1024) l.xs.length ⟨0, rfl, by omega, rfl, Fr.refl _ _, by simp⟩ ?_
 rintro n - h1 ⟨i, rfl, hi, rfl, f1, ha⟩ Kn hK
 unfold qV
 refine ifD (fun e => ?_) fun e => hk true h1 f1 fun _ => ?_
 ·have hil : i < l.xs.length := by omega
  refine eN (bJ.fr0 bC.ok_fr f1 o) i rfl hil fun ad c _ => ?_
  rw [Int.toNat_natCast]
  refine aB (c.at0 rfl) (aB (c.at (j := 1) rfl) (aB (c.at (j := 2) rfl) (aB (c.at (j := 3) rfl) (aG (c.at (j := 4) rfl) (aG (c.at (j := 5) rfl) (aG (c.at (j := 6) rfl) ?_))))))
  refine bA (vs := [.int .i64 0, .int .i64 0, .int .i64 0, .int .i64 0, .bool false, .bool false, .bool false]) fun t4 h2 f2 e2 o2 => ?_
  refine jQ o2 (ws := l.xs[i].vals) (by rfl) (by rfl) fun h3 f3 s3 o3 => ?_
  have f13 : Fr (fun _ => False) h h3 := f1.trans (f2.tr f3 fun b hb hi => by omega)
  have c3 : bB h3 t4 l.xs[i].vals := o3.cells
  have no : Q (.bool false) h3 := hk _ h3 f13 fun h => by cases h
  have last : ldI h3 (Addr.add t4 3) .i64 fun t55 => ldB h3 (Addr.add t4 4) fun t57 => aE Tryz.prog gX #[.int .i64 t55, .bool t57] h3 fun v h3 => ∃ t58 : Bool, v = .bool t58 ∧ if (!t58) = true then (Q (.bool false) h3) else (Kn (wrap .i64 ((i : Int) + 1)) h3) :=
   aB (c3.at (j := 3) rfl) (aG (c3.at (j := 4) rfl) (Da _ _ fun b hb => ⟨b, rfl, ifN (fun _ => no) fun b3 => by
    rw [wr (by omega) (by omega)]
    exact hK (l.xs.length - (i + 1)) _ _ (by omega) ⟨i + 1, rfl, hil, rfl, f13, uK hil ha (hb b3)⟩⟩))
  refine aB (c3.at0 rfl) (ifD (fun _ => no) fun _ => aB (c3.at0 rfl) (ifD (fun _ => no) fun _ => ?_))
  refine aB (c3.at (j := 1) rfl) (oS (fun _ => aB (c3.at (j := 1) rfl) (oS (fun _ => aB (c3.at (j := 1) rfl) (oS (fun _ => no) fun _ => ?_)) fun _ => ?_)) fun _ => ?_)
  ·exact aB (c3.at (j := 2) rfl) (ifD (fun _ => no) fun _ => aB (c3.at (j := 2) rfl) (aB (c3.at (j := 1) rfl) ⟨CC _, ifD (fun _ => no) fun _ => last⟩))
  ·exact aB (c3.at (j := 2) rfl) (ifD (fun _ => no) fun _ => aB (c3.at (j := 2) rfl) (aB (c3.at (j := 1) rfl) ⟨CC _, ifD (fun _ => no) fun _ => last⟩))
  ·exact aB (c3.at (j := 2) rfl) (ifD (fun _ => no) fun _ => aB (c3.at (j := 2) rfl) (aB (c3.at (j := 1) rfl) ⟨CC _, ifD (fun _ => no) fun _ => last⟩))
 ·have : i = l.xs.length := by omega
  subst this
  rw [List.take_length] at ha; exact ha
theorem KF [Gh] (t : aL) (hk : ∀ (b : Bool) h', Fr (fun _ => False) h h' → Q (.bool b) h') : aE Tryz.prog rD #[.agg t.vals.toArray] h Q := by
 apply B4
 unfold xv
 refine bA (vs := t.vals) fun t1 h1 f1 e1 o1 => ?_
 have c1 : bB h1 t1 t.vals := o1.cells
 refine aY (c1.at (j := 1) rfl) (Li (m := []) (fun _ => hk _ h1 f1) fun _ => ?_)
 exact aB (c1.at (j := 2) rfl) (ifD (fun _ => aB (c1.at (j := 2) rfl) (aB (c1.at (j := 3) rfl) (ifD (fun _ => aB (c1.at (j := 3) rfl) (hk _ h1 f1)) fun _ => hk _ h1 f1))) fun _ => hk _ h1 f1)
theorem Fj [Gh] (l : Sl aL) (o : bJ 4 aL.vals aL.ok h l) (hk : ∀ (b : Bool) h', Fr (fun _ => False) h h' → Q (.bool b) h') : aE Tryz.prog nG #[.slice l.p l.xs.length l.cap] h Q := by
 apply AQ
 unfold wh
 have hcap := o.cap
 refine aJ.go (fun n st h' => ∃ i : Nat, st = (i : Int) ∧ i ≤ l.xs.length ∧ n = l.xs.length - i ∧ Fr (fun _ => False) h h') l.xs.length ⟨0, rfl, by omega, rfl, Fr.refl _ _⟩ ?_
 rintro n - h1 ⟨i, rfl, hi, rfl, f1⟩ Kn hK
 unfold qK
 refine ifD (fun e => ?_) fun _ => hk _ h1 f1
 have hil : i < l.xs.length := by omega
 refine eN (bJ.fr0 aL.ok_fr f1 o) i rfl hil fun ad c _ => ?_
 rw [Int.toNat_natCast]
 refine aG (c.at0 rfl) (aY (c.at (j := 1) rfl) (aB (c.at (j := 2) rfl) (aB (c.at (j := 3) rfl) ?_)))
 refine KF l.xs[i] fun b h2 f2 => ⟨b, rfl, ifN (fun _ => hk _ h2 (f1.trans f2)) fun _ => ?_⟩
 rw [wr (by omega) (by omega)]
 exact hK (l.xs.length - (i + 1)) _ _ (by omega) ⟨i + 1, rfl, hil, rfl, f1.trans f2⟩
theorem CJ [Gh] (t : bF) (hk : ∀ (b : Bool) h', Fr (fun _ => False) h h' → Q (.bool b) h') : aE Tryz.prog mP #[.agg t.vals.toArray] h Q := by
 apply wO
 unfold rq
 refine bA (vs := t.vals) fun t1 h1 f1 e1 o1 => ?_
 have c1 : bB h1 t1 t.vals := o1.cells
 have q : ∀ b : Bool, Q (.bool b) h1 := fun b => hk b h1 f1
 refine aB (c1.at0 rfl) (ifE (fun _ => aB (c1.at0 rfl) (aB (c1.at (j := 1) rfl) (aB (c1.at (j := 2) rfl) (aB (c1.at (j := 3) rfl) (q _))))) fun _ => ?_)
 refine aB (c1.at0 rfl) (ifD (fun _ => aB (c1.at0 rfl) (ifD (fun _ => ?_) fun _ => q _)) fun _ => q _)
 refine aB (c1.at (j := 1) rfl) (ifD (fun _ => aB (c1.at (j := 1) rfl) (ifD (fun _ => ?_) fun _ => q _)) fun _ => q _)
 refine aB (c1.at (j := 2) rfl) (ifD (fun _ => aB (c1.at (j := 2) rfl) (ifD (fun _ => ?_) fun _ => q _)) fun _ => q _)
 exact aB (c1.at (j := 3) rfl) (ifD (fun _ => aB (c1.at (j := 3) rfl) (q _)) fun _ => q _)
theorem FD [Gh] (r : aO) (ok : aO.ok h r) (hk : ∀ (b : Bool) h', Fr (fun _ => False) h h' → (b = true → ∀ f ∈ r.Flow.xs, 1 ≤ f.Op ∧ f.Op ≤ 4) → Q (.bool b) h') : aE Tryz.prog oI #[.agg r.vals.toArray] h Q := by
 apply yF
 unfold ua
 refine bA (vs := r.vals) fun t1 h1 f1 e1 o1 => ?_
 have c1 : bB h1 t1 r.vals := o1.cells
 have o1 := aO.ok_fr _ _ _ f1 ok
 have hcap := o1.k16.cap
 refine aJ.go (fun n st h' => ∃ i : Nat, st = (i : Int) ∧ i ≤ r.Flow.xs.length ∧ n = r.Flow.xs.length - i ∧ h' = h1 ∧ ∀ f ∈ r.Flow.xs.take i, 1 ≤ f.Op ∧ f.Op ≤ 4) r.Flow.xs.length ⟨0, rfl, by omega, rfl, rfl, by simp⟩ ?_
 rintro n - h2 ⟨i, rfl, hi, rfl, rfl, ha⟩ Kn hK
 have no : Q (.bool false) h2 := hk _ h2 f1 fun h => by cases h
 unfold oX
 refine aD (c1.at (j := 16) rfl) (ifD (fun e => ?_) fun e => ?_)
 ·have hil : i < r.Flow.xs.length := by omega
  refine aD (c1.at (j := 16) rfl) (eN o1.k16 i rfl hil fun ad c _ => ?_)
  rw [Int.toNat_natCast]
  refine aB (c.at0 rfl) (ifD (fun _ => no) fun b1 => aD (c1.at (j := 16) rfl) (eN o1.k16 i rfl hil fun ad c _ => aB (c.at0 rfl) (ifD (fun _ => no) fun b2 => ?_)))
  rw [wr (by omega) (by omega)]
  exact hK (r.Flow.xs.length - (i + 1)) _ _ (by omega) ⟨i + 1, rfl, hil, rfl, rfl, uK hil ha ⟨by omega, by omega⟩⟩
 ·have : i = r.Flow.xs.length := by omega
  subst this
  rw [List.take_length] at ha
  unfold oJ
  refine aD (c1.at (j := 4) rfl) (Fj r.SrcPorts o1.k4 fun b h3 f3 => ⟨b, rfl, ifB (fun _ => ?_) fun _ => hk _ h3 (f1.trans f3) fun h => by cases h⟩)
  have c3 := c1.fr0 f3
  have o3 := aO.ok_fr _ _ _ f3 o1
  refine aD (c3.at (j := 5) rfl) (Fj r.DstPorts o3.k5 fun b h4 f4 => ⟨b, rfl, ifB (fun _ => ?_) fun _ => hk _ h4 ((f1.trans f3).trans f4) fun h => by cases h⟩)
  have c4 := c3.fr0 f4
  refine aB (c4.at (j := 17) rfl) (aB (c4.at (j := 18) rfl) (aB (c4.at (j := 19) rfl) (aB (c4.at (j := 20) rfl) ?_)))
  exact CJ r.Threshold fun b h5 f5 => ⟨b, rfl, hk _ h5 (((f1.trans f3).trans f4).trans f5) fun _ => ha⟩
theorem zZ [Gh] (l : Sl aN) (o : bJ 6 aN.vals aN.ok h l) (hk : ∀ (b : Bool) h', Fr (fun _ => False) h h' → Q (.bool b) h') : aE Tryz.prog lg #[.slice l.p l.xs.length l.cap] h Q := by
 apply xV
 unfold sQ
 have hcap := o.cap
 refine aJ.go (fun n st h' => ∃ i : Nat, st = (i : Int) ∧ i ≤ l.xs.length ∧ n = l.xs.length - i ∧ Fr (fun _ => False) h h') l.xs.length ⟨0, rfl, by omega, rfl, Fr.refl _ _⟩ ?_
 rintro n - h1 ⟨i, rfl, hi, rfl, f1⟩ Kn hK
 unfold nf
 refine ifD (fun e => ?_) fun _ => hk _ h1 f1
 have hil : i < l.xs.length := by omega
 have ol := bJ.fr0 aN.ok_fr f1 o
 refine eN ol i rfl hil fun ad c _ => ?_
 rw [Int.toNat_natCast]
 have nx : ∀ h', Fr (fun _ => False) h1 h' → Kn (wrap .i64 ((i : Int) + 1)) h' := fun h' f => by
  rw [wr (by omega) (by omega)]
  exact hK (l.xs.length - (i + 1)) _ _ (by omega) ⟨i + 1, rfl, hil, rfl, f1.trans f⟩
 refine aY (c.at (j := 1) rfl) (CV (fun _ => ?_) fun _ => nx h1 (Fr.refl _ _))
 refine eN ol i rfl hil fun ad c _ => ?_
 have a2 : (ad.add (i * 6)).add 2 = (ad.add (i * 6)).add 2 := rfl
 refine aG (c.at (j := 2) rfl) (aB (c.at (j := 3) rfl) (aB (c.at (j := 4) rfl) (aB (c.at (j := 5) rfl) ?_)))
 exact AE l.xs[i].Prefix fun b h2 f2 => ⟨b, rfl, ifN (fun _ => hk _ h2 (f1.trans f2)) fun _ => nx h2 f2⟩
theorem KY [Gh] (l : Sl Cn) (o : bJ 7 aI.vals aI.ok h l) (hl : l.xs.length ≤ 1000) (hk : ∀ b : Bool, Q (.bool b) h) : aE Tryz.prog rC #[.slice l.p l.xs.length l.cap] h Q := by
 apply BS
 unfold xl
 refine aJ.go (fun n st h' => ∃ i : Nat, st.2 = (i : Int) ∧ i ≤ l.xs.length ∧ n = l.xs.length - i ∧ h' = h) l.xs.length ⟨0, rfl, by omega, rfl, rfl⟩ ?_
 rintro n ⟨x, y⟩ h1 ⟨i, e0, hi, rfl, rfl⟩ Kn hK
 dsimp only at e0
 subst e0
 dsimp only
 unfold rW
 refine ifD (fun e => ?_) fun _ => hk _
 have hil : i < l.xs.length := by omega
 refine eN o i rfl hil fun ad c _ => ?_
 rw [Int.toNat_natCast, wr (x := (i : Int) + 1) (by omega) (by omega)]
 have nx : ∀ z, Kn (z, (i : Int) + 1) h1 := fun z => hK (l.xs.length - (i + 1)) _ _ (by omega) ⟨i + 1, rfl, hil, rfl, rfl⟩
 refine aG (c.at (j := 6) rfl) (ifB (fun _ => ?_) fun _ => nx _)
 exact eN o i rfl hil fun ad c _ => aG (c.at (j := 2) rfl) (ifB (fun _ => hk _) fun _ => nx _)
theorem Jr [Gh] (r : aO) (ok : aO.ok h r) (hk : ∀ (e : Int) h', Fr (fun _ => False) h h' → (e = 0 → vo r) → Q (.int .i64 e) h') : aE Tryz.prog qR #[.agg r.vals.toArray] h Q := by
 apply AF
 unfold wa
 refine bA (vs := r.vals) fun t1 h1 f1 e1 o1 => ?_
 have c1 : bB h1 t1 r.vals := o1.cells
 have k1 := aO.ok_fr _ _ _ f1 ok
 clear o1
 have no : ∀ {h'} (e : Int), Fr (fun _ => False) h1 h' → e ≠ 0 → Q (.int .i64 e) h' := fun e f he => hk e _ (f1.trans f) fun h => absurd h he
 refine (aB (c1.at0 rfl) (aB (c1.at rfl) (aD (c1.at rfl) (aD (c1.at rfl) (aD (c1.at rfl) (aD (c1.at rfl) (aG (c1.at rfl) (aB (c1.at rfl) (aB (c1.at rfl) (aB (c1.at rfl) (aY (c1.at rfl) (aB (c1.at rfl) (aB (c1.at rfl) (aD (c1.at rfl) (aD (c1.at rfl) (aD (c1.at rfl) (aD (c1.at rfl) (aB (c1.at rfl) (aB (c1.at rfl) (aB (c1.at rfl) (aB (c1.at rfl) ?_)))))))))))))))))))))
 refine J0 r fun b h2 f2 hb1 => ⟨b, rfl, ifN (fun _ => no _ f2 (by decide)) fun b1 => ?_⟩
 have c2 := c1.fr0 f2
 refine (aB (c2.at0 rfl) (aB (c2.at rfl) (aD (c2.at rfl) (aD (c2.at rfl) (aD (c2.at rfl) (aD (c2.at rfl) (aG (c2.at rfl) (aB (c2.at rfl) (aB (c2.at rfl) (aB (c2.at rfl) (aY (c2.at rfl) (aB (c2.at rfl) (aB (c2.at rfl) (aD (c2.at rfl) (aD (c2.at rfl) (aD (c2.at rfl) (aD (c2.at rfl) (aB (c2.at rfl) (aB (c2.at rfl) (aB (c2.at rfl) (aB (c2.at rfl) ?_)))))))))))))))))))))
 refine JD r fun b h3 f3 => ⟨b, rfl, ifN (fun _ => no _ (f2.trans f3) (by decide)) fun b2 => ?_⟩
 have f13 := f2.trans f3
 have c3 := c2.fr0 f3
 refine (aB (c3.at0 rfl) (aB (c3.at rfl) (aD (c3.at rfl) (aD (c3.at rfl) (aD (c3.at rfl) (aD (c3.at rfl) (aG (c3.at rfl) (aB (c3.at rfl) (aB (c3.at rfl) (aB (c3.at rfl) (aY (c3.at rfl) (aB (c3.at rfl) (aB (c3.at rfl) (aD (c3.at rfl) (aD (c3.at rfl) (aD (c3.at rfl) (aD (c3.at rfl) (aB (c3.at rfl) (aB (c3.at rfl) (aB (c3.at rfl) (aB (c3.at rfl) ?_)))))))))))))))))))))
 refine Jx r fun b h4 f4 hb3 => ⟨b, rfl, ifN (fun _ => no _ (f13.trans f4) (by decide)) fun b3 => ?_⟩
 have f14 := f13.trans f4
 have c4 := c3.fr0 f4
 have k4 := aO.ok_fr _ _ _ f14 k1
 refine aD (c4.at (j := 2) rfl) (yr r.Src k4.k2 fun b => ⟨b, rfl, ifN (fun _ => no _ f14 (by decide)) fun _ => ?_⟩)
 refine aD (c4.at (j := 3) rfl) (yr r.Dst k4.k3 fun b => ⟨b, rfl, ifN (fun _ => no _ f14 (by decide)) fun _ => ?_⟩)
 refine aD (c4.at (j := 4) rfl) (yi r.SrcPorts k4.k4 fun b => ⟨b, rfl, ifN (fun _ => no _ f14 (by decide)) fun _ => ?_⟩)
 refine aD (c4.at (j := 5) rfl) (yi r.DstPorts k4.k5 fun b => ⟨b, rfl, ifN (fun _ => no _ f14 (by decide)) fun _ => ?_⟩)
 refine aD (c4.at (j := 16) rfl) (DO r.Flow k4.k16 fun b hb4 => ⟨b, rfl, ifN (fun _ => no _ f14 (by decide)) fun b4 => ?_⟩)
 have hs := hb3 b3
 refine aJ.go (fun n st h' => ∃ i : Nat, st = (i : Int) ∧ i ≤ r.Transforms.xs.length ∧ n = r.Transforms.xs.length - i ∧ h' = h4 ∧ ∀ x ∈ r.Transforms.xs.take i, 1 ≤ x ∧ x ≤ 6) r.Transforms.xs.length ⟨0, rfl, by omega, rfl, rfl, by simp⟩ ?_
 rintro n - h5 ⟨i, rfl, hi, rfl, rfl, ha⟩ Kn hK
 unfold qI
 refine aD (c4.at (j := 13) rfl) (ifD (fun e => ?_) fun e => ?_)
 ·have hil : i < r.Transforms.xs.length := by omega
  refine aD (c4.at (j := 13) rfl) (eN k4.k13 i rfl hil fun ad c _ => ?_)
  rw [Int.toNat_natCast]
  refine aB (c.at0 rfl) (ifD (fun _ => no _ f14 (by decide)) fun b5 => aD (c4.at (j := 13) rfl) (eN k4.k13 i rfl hil fun ad c _ => aB (c.at0 rfl) (ifD (fun _ => no _ f14 (by decide)) fun b6 => ?_)))
  rw [wr (by omega) (by omega)]
  exact hK (r.Transforms.xs.length - (i + 1)) _ _ (by omega) ⟨i + 1, rfl, hil, rfl, rfl, uK hil ha ⟨by omega, by omega⟩⟩
 have hit : i = r.Transforms.xs.length := by omega
 subst hit
 rw [List.take_length] at ha
 unfold qG
 refine aD (c4.at (j := 14) rfl) (EI r.Contents k4.k14 fun e h6 f6 hc => ⟨e, rfl, oS (fun he => no _ (f14.trans f6) he) fun he => ?_⟩)
 have f16 := f14.trans f6
 have c6 := c4.fr0 f6
 have k6 := aO.ok_fr _ _ _ f6 k4
 refine aD (c6.at (j := 15) rfl) (HJ r.Tests k6.k15 fun b h7 f7 ht => ⟨b, rfl, ifN (fun _ => no _ (f16.trans f7) (by decide)) fun bt => ?_⟩)
 have f17 := f16.trans f7
 have c7 := c6.fr0 f7
 have k7 := aO.ok_fr _ _ _ f7 k6
 refine (aB (c7.at0 rfl) (aB (c7.at rfl) (aD (c7.at rfl) (aD (c7.at rfl) (aD (c7.at rfl) (aD (c7.at rfl) (aG (c7.at rfl) (aB (c7.at rfl) (aB (c7.at rfl) (aB (c7.at rfl) (aY (c7.at rfl) (aB (c7.at rfl) (aB (c7.at rfl) (aD (c7.at rfl) (aD (c7.at rfl) (aD (c7.at rfl) (aD (c7.at rfl) (aB (c7.at rfl) (aB (c7.at rfl) (aB (c7.at rfl) (aB (c7.at rfl) ?_)))))))))))))))))))))
 refine FD r k7 fun b h8 f8 hn => ⟨b, rfl, ifN (fun _ => no _ (f17.trans f8) (by decide)) fun bn => ?_⟩
 have f18 := f17.trans f8
 have c8 := c7.fr0 f8
 have k8 := aO.ok_fr _ _ _ f8 k7
 refine aD (c8.at (j := 2) rfl) (zZ r.Src k8.k2 fun b h9 f9 => ⟨b, rfl, ifN (fun _ => no _ (f18.trans f9) (by decide)) fun _ => ?_⟩)
 have f19 := f18.trans f9
 have c9 := c8.fr0 f9
 have k9 := aO.ok_fr _ _ _ f9 k8
 refine aD (c9.at (j := 3) rfl) (zZ r.Dst k9.k3 fun b h10 f10 => ⟨b, rfl, ifN (fun _ => no _ (f19.trans f10) (by decide)) fun _ => ?_⟩)
 have f110 := f19.trans f10
 have c10 := c9.fr0 f10
 have k10 := aO.ok_fr _ _ _ f10 k9
 refine aD (c10.at (j := 14) rfl) (KY r.Contents k10.k14 (by omega) fun b => ⟨b, rfl, ifN (fun _ => no _ f110 (by decide)) fun _ => ?_⟩)
 refine aD (c10.at (j := 14) rfl) (aD (c10.at (j := 15) rfl) (ifE (fun _ => no _ f110 (by decide)) fun _ => hk 0 h10 (f1.trans f110) fun _ => ?_))
 obtain ⟨g1, g2, g3, g4, g5, g6⟩ := hb1 b1
 obtain ⟨s1, s2, s3, s4, s5, s6, s7, s8, s9⟩ := hs
 exact ⟨g1, g2, g3, g4, g5, g6, s1, s2, s3, s4, s5, s6, s7, s8, s9, ha, hc he, ht bt, fun f hf => ⟨hb4 b4 f hf, hn bn f hf⟩⟩
end
end Go.Proofs.YtjmfpeiidlpngaaGreatDoor.Au
namespace Go.Proofs.YtjmfpeiidlpngaaGreatDoor
set_option linter.unusedSimpArgs false
set_option linter.unusedVariables false
set_option maxRecDepth 20000
open Go
open Go.IntKind (wrap)
theorem Ee : Jw Tryz.prog mn (zC .i64) := Jt Tryz.underlying3
theorem Kt {h : aA} {K : Value → aA → Prop} (hk : K (.bool false) h) : wpH Tryz.prog (zeroValue EF) K h := B7 (i := Tryz.t4) (by kernel_rfl) (by kernel_rfl) hk
theorem Hc : gW Tryz.prog nZ cF Tryz.t65 (.agg #[.int .i64 0, .int .i64 0, .slice none 0 0, .slice none 0 0, .slice none 0 0, .slice none 0 0, .bool false, .int .i64 0, .int .i64 0, .int .i64 0, .string (bs []), .int .i64 0, .int .i64 0, .slice none 0 0, .slice none 0 0, .slice none 0 0, .slice none 0 0, .int .i64 0, .int .i64 0, .int .i64 0, .int .i64 0, .slice none 0 0, .slice none 0 0, .slice none 0 0, .slice none 0 0]) := ⟨Tryz.underlying22, by kernel_rfl, by kernel_rfl, by kernel_rfl, by decide +kernel⟩
theorem JZ : gW Tryz.prog pj cO Tryz.t61 (.agg #[.int .i64 0, .int .i64 0, .slice none 0 0, .slice none 0 0, .slice none 0 0, .slice none 0 0, .bool false, .int .i64 0, .int .i64 0, .int .i64 0, .string (bs []), .int .i64 0, .int .i64 0, .slice none 0 0, .slice none 0 0, .slice none 0 0, .slice none 0 0, .int .i64 0, .int .i64 0, .int .i64 0, .int .i64 0]) := ⟨Tryz.underlying80, by kernel_rfl, by kernel_rfl, by kernel_rfl, by decide +kernel⟩
theorem BC (x : aF) : (aF.vals x).length = 25 := rfl
theorem D0 (x : aF) : (aF.vals x).all eQ = true := rfl
theorem Dk (x : aO) : (aO.vals x).length = 21 := rfl
theorem Gf (x : aO) : (aO.vals x).all eQ = true := rfl
abbrev Bd := aF
def va (b : Bd) : Int := b.Rule.Sid
structure CpI (h0 : aA) (A : Addr) (m seen : Nat) (l : List Bd) (h : aA) (i : Nat) (p1 : Option Addr) (c1 : Nat) (p2 : Option Addr) (c2 : Nat) (bs : List Bd) : Prop where
 le : i ≤ l.length
 fr : Fr (fun _ => False) h0 h
 own : Own h A [.slice p1 i c1, .map (some m)] po
 r1 : Row 25 aF.vals h p1 c1 bs
 r2 : Row 21 aO.vals h p2 c2 (bs.map (·.Rule))
 mm : vz (zC .i64) h m []
 ms : vz (zC .i64) h seen ((l.take i).map fun b => (va b, .bool true))
 wp : bs.map wipe = (l.take i).map wipe
 st : ∀ b ∈ bs, St (fun x => h0.size ≤ x ∧ x ≠ A.block ∧ x ≠ m ∧ x ≠ seen ∧ ¬ InA p1 x ∧ ¬ InA p2 x) h b
 n1 : ∀ x, InA p1 x → h0.size ≤ x ∧ x ≠ A.block ∧ x ≠ m ∧ x ≠ seen ∧ ¬ InA p2 x
 n2 : ∀ x, InA p2 x → h0.size ≤ x ∧ x ≠ A.block ∧ x ≠ m ∧ x ≠ seen
 nA : h0.size ≤ A.block ∧ h0.size ≤ m ∧ h0.size ≤ seen ∧ A.block ≠ m ∧ A.block ≠ seen ∧ m ≠ seen
 nd : ((l.take i).map va).Nodup
theorem CpI.len {h0 : aA} {A : Addr} {m seen : Nat} {l : List Bd} {h : aA} {i : Nat} {p1 : Option Addr} {c1 : Nat} {p2 : Option Addr} {c2 : Nat} {bs : List Bd} (C : CpI h0 A m seen l h i p1 c1 p2 c2 bs) : bs.length = i := by
 have h1 := congrArg List.length C.wp
 have h2 := C.le
 simp at h1; omega
set_option maxHeartbeats 1000000 in
theorem Gc [Gh] (l : Sl Bd) {h0 : aA} (ok : bJ 25 aF.vals aF.ok h0 l) (hl : l.xs.length ≤ 40) (L : ∀ b ∈ l.xs, Ks b) {A : Addr} {m seen : Nat} {h : aA} (C0 : CpI h0 A m seen l.xs h 0 none 0 none 0 []) {Q : Value → aA → Prop}
  (hbad : ∀ h', Fr (fun _ => False) h0 h' → ¬ (l.xs.map va).Nodup → Q (.tuple #[.pointer none, .int .i64 7]) h')
  (hk : ∀ h' p1 c1 p2 c2 bs, CpI h0 A m seen l.xs h' l.xs.length p1 c1 p2 c2 bs → kA A p2 l.xs.length c2 Q h') :
  aJ (fun (s : (Option Addr) × Nat × Nat × Int) h Kn => kC A (some seen) l.p l.xs.length l.cap ((l.xs.length : Nat) : Int) Q s.1 s.2.1 s.2.2.1 s.2.2.2 h Kn) (none, 0, 0, 0) h := by
 refine aJ.mk (fun st h' => ∃ (i : Nat) (p1 : Option Addr) (c1 : Nat) (p2 : Option Addr) (c2 : Nat) (bs : List Bd), st = (p2, i, c2, (i : Int)) ∧ CpI h0 A m seen l.xs h' i p1 c1 p2 c2 bs)
  (fun st _ => l.xs.length - st.2.2.2.toNat) ⟨0, none, 0, none, 0, [], rfl, C0⟩ ?_
 rintro st h1 ⟨i, p1, c1, p2, c2, bs, rfl, C⟩
 dsimp only
 have hil := C.le
 have clen := C.len
 subst clen
 unfold kC
 refine ifD (fun hlt => ?_) (fun hge => ?_)
 ·have hi : bs.length < l.xs.length := by omega
  have ok1 := bJ.fr0 aF.ok_fr C.fr ok
  have Lb := L _ (List.getElem_mem hi)
  refine eN ok1 bs.length rfl hi fun ad cc okr => ?_
  rw [Int.toNat_natCast]
  refine (aB (cc.at0 rfl) (aB (cc.at rfl) (aD (cc.at rfl) (aD (cc.at rfl) (aD (cc.at rfl) (aD (cc.at rfl) (aG (cc.at rfl) (aB (cc.at rfl) (aB (cc.at rfl) (aB (cc.at rfl) (aY (cc.at rfl) (aB (cc.at rfl) (aB (cc.at rfl) (aD (cc.at rfl) (aD (cc.at rfl) (aD (cc.at rfl) (aD (cc.at rfl) (aB (cc.at rfl) (aB (cc.at rfl) (aB (cc.at rfl) (aB (cc.at rfl) (aD (cc.at rfl) (aD (cc.at rfl) (aD (cc.at rfl) (aD (cc.at rfl) ?_)))))))))))))))))))))))))
  refine rm rfl rfl fun t8 h2 f2 ht8 o8 => ?_
  have zA := C.own.lt
  have zm := C.mm.lt
  have zs := C.ms.lt
  have z2 := f2.size
  refine aB (o8.cells.at (j := 7) rfl) ?_
  refine wL Ee Tryz.underlying79 Kt (C.ms.fr f2 id) (va l.xs[bs.length]) false ?_
  rw [if_neg (by decide)]
  have etake : l.xs.take (bs.length + 1) = l.xs.take bs.length ++ [l.xs[bs.length]] := by rw [List.take_append_getElem]
  cases hg : pH ((l.xs.take bs.length).map fun b => (va b, Value.bool true)) (va l.xs[bs.length]) with
  | some v =>
   have hm := Gy hg
   obtain ⟨b, hb, e⟩ := List.mem_map.1 hm
   simp only [Prod.mk.injEq] at e
   obtain ⟨e1, e2⟩ := e
   refine ⟨true, by rw [← e2]; rfl, ?_⟩
   rw [if_pos rfl]
   refine hbad h2 (C.fr.trans f2) fun nd => ?_
   have nd2 : ((l.xs.take (bs.length + 1)).map va).Nodup := nd.sublist ((List.take_sublist _ _).map _)
   rw [etake, List.map_append, List.nodup_append] at nd2
   exact nd2.2.2 _ (List.mem_map_of_mem hb) _ (by simp) e1
  | none =>
   have hn := GQ hg
   refine ⟨false, rfl, ?_⟩
   rw [if_neg (by decide)]
   refine aB (o8.cells.at (j := 7) rfl) ?_
   refine Bb Ee Tryz.underlying79 (C.ms.fr f2 id) (va l.xs[bs.length]) (.bool true) fun h3 f3 s3 M3 => ?_
   rw [JJ hn] at M3
   have z3 := f3.size
   have o83 := o8.fr f3 (by omega)
   refine (aB (o83.cells.at0 rfl) (aB (o83.cells.at rfl) (aD (o83.cells.at rfl) (aD (o83.cells.at rfl) (aD (o83.cells.at rfl) (aD (o83.cells.at rfl) (aG (o83.cells.at rfl) (aB (o83.cells.at rfl) (aB (o83.cells.at rfl) (aB (o83.cells.at rfl) (aY (o83.cells.at rfl) (aB (o83.cells.at rfl) (aB (o83.cells.at rfl) (aD (o83.cells.at rfl) (aD (o83.cells.at rfl) (aD (o83.cells.at rfl) (aD (o83.cells.at rfl) (aB (o83.cells.at rfl) (aB (o83.cells.at rfl) (aB (o83.cells.at rfl) (aB (o83.cells.at rfl) (aD (o83.cells.at rfl) (aD (o83.cells.at rfl) (aD (o83.cells.at rfl) (aD (o83.cells.at rfl) ?_)))))))))))))))))))))))))
   have C3fr : Fr (fun _ => False) h0 h3 := (C.fr.trans f2).tr f3 fun x hx hh => by have := C.nA; omega
   refine It l.xs[bs.length] (aF.ok_fr _ _ _ C3fr (by obtain ⟨_, _, _, o⟩ := ok.at_ bs.length hi; exact o)) Lb fun b' h4 f4 S4 w4 => ⟨_, _, _, _, _, _, _, _, _, _, _, _, _, _, _, _, _, _, _, _, _, _, _, _, _, _, _, _, _, _, _, _, _, _, _, _, _, _, _, _, _, _, _, _, _, _, _, _, _, rfl, ?_⟩
   have z4 := f4.size
   refine rm rfl rfl fun t9 h5 f5 ht9 o9 => ?_
   have z5 := f5.size
   have A5 : Own h5 A _ _ := (((C.own.fr f2 id).fr f3 (fun e => C.nA.2.2.2.2.1 e)).fr f4 id).fr f5 id
   refine aD (A5.cells.at0 rfl) ?_
   refine (aB (o9.cells.at0 rfl) (aB (o9.cells.at rfl) (aD (o9.cells.at rfl) (aD (o9.cells.at rfl) (aD (o9.cells.at rfl) (aD (o9.cells.at rfl) (aG (o9.cells.at rfl) (aB (o9.cells.at rfl) (aB (o9.cells.at rfl) (aB (o9.cells.at rfl) (aY (o9.cells.at rfl) (aB (o9.cells.at rfl) (aB (o9.cells.at rfl) (aD (o9.cells.at rfl) (aD (o9.cells.at rfl) (aD (o9.cells.at rfl) (aD (o9.cells.at rfl) (aB (o9.cells.at rfl) (aB (o9.cells.at rfl) (aB (o9.cells.at rfl) (aB (o9.cells.at rfl) (aD (o9.cells.at rfl) (aD (o9.cells.at rfl) (aD (o9.cells.at rfl) (aD (o9.cells.at rfl) ?_)))))))))))))))))))))))))
   refine bA (vs := b'.vals) fun t44 h6 f6 e6 o44 => ?_
   have z6 := f6.size
   have A6 := A5.fr f6 id
   refine ⟨aD (A6.cells.at0 rfl) rfl, ?_⟩
   have Rb : Row 25 aF.vals h6 p1 c1 bs := ((((C.r1.fr f2 fun _ _ => id).fr f3 fun x hx hh => (C.n1 x hx).2.2.2.1 hh).fr f4 fun _ _ => id).fr f5 fun _ _ => id).fr f6 fun _ _ => id
   have Rr : Row 21 aO.vals h6 p2 c2 (bs.map (·.Rule)) := ((((C.r2.fr f2 fun _ _ => id).fr f3 fun x hx hh => (C.n2 x hx).2.2.2 hh).fr f4 fun _ _ => id).fr f5 fun _ _ => id).fr f6 fun _ _ => id
   refine Rb.app Hc Tryz.underlying22 (by intro k e; cases e) (by kernel_rfl) (by decide +kernel) BC D0 o44 1 (by omega) fun p1' c1' h7 R1' f7 hn1 => ⟨_, _, _, rfl, ?_⟩
   have z7 := f7.size
   have hA1 : ¬ InA p1 A.block := fun hh => (C.n1 _ hh).2.1 rfl
   have lp1 : ∀ x, InA p1 x → x < h1.size := fun x hx => C.r1.lt hx
   have lp2 : ∀ x, InA p2 x → x < h1.size := fun x hx => C.r2.lt hx
   refine kG (A6.fr f7 hA1) (by show 0 < 2; omega) rfl fun h8 f8 z8 o8A => ?_
   have z8' := f8.size
   have o98 : Own h8 t9 _ _ := (((o9.fr f6 id)).fr f7 fun hh => by have := lp1 _ hh; omega).fr f8 (by omega)
   refine (aB (o98.cells.at0 rfl) (aB (o98.cells.at rfl) (aD (o98.cells.at rfl) (aD (o98.cells.at rfl) (aD (o98.cells.at rfl) (aD (o98.cells.at rfl) (aG (o98.cells.at rfl) (aB (o98.cells.at rfl) (aB (o98.cells.at rfl) (aB (o98.cells.at rfl) (aY (o98.cells.at rfl) (aB (o98.cells.at rfl) (aB (o98.cells.at rfl) (aD (o98.cells.at rfl) (aD (o98.cells.at rfl) (aD (o98.cells.at rfl) (aD (o98.cells.at rfl) (aB (o98.cells.at rfl) (aB (o98.cells.at rfl) (aB (o98.cells.at rfl) (aB (o98.cells.at rfl) ?_)))))))))))))))))))))
   refine bA (vs := b'.Rule.vals) fun t51 h9 f9 e9 o51 => ?_
   have z9 := f9.size
   have R2 : Row 21 aO.vals h9 p2 c2 (bs.map (·.Rule)) := ((Rr.fr f7 fun x hx hh => (C.n1 x hh).2.2.2.2 hx).fr f8 fun x hx hh => (C.n2 x hx).2.1 hh).fr f9 fun _ _ => id
   rw [show (Value.slice p2 bs.length c2) = .slice p2 (bs.map (·.Rule)).length c2 by rw [List.length_map]]
   refine R2.app JZ Tryz.underlying80 (by intro k e; cases e) (by kernel_rfl) (by decide +kernel) Dk Gf o51 1 (by rw [List.length_map]; omega) fun p2' c2' h10 R2' f10 hn2 => ⟨_, _, _, rfl, ?_⟩
   have z10 := f10.size
   rw [wr (by omega) (by omega)]
   have F6 : Fr (fun x => x = seen) h1 h6 := ((((f2.mono fun _ => False.elim).trans f3).trans (f4.mono fun _ => False.elim)).trans (f5.mono fun _ => False.elim)).trans (f6.mono fun _ => False.elim)
   have F10 : Fr (fun x => x = seen ∨ InA p1 x ∨ x = A.block ∨ InA p2 x) h1 h10 := ((((F6.mono fun _ => .inl).trans (f7.mono fun _ hh => .inr (.inl hh))).trans (f8.mono fun _ hh => .inr (.inr (.inl hh)))).trans (f9.mono fun _ => False.elim)).trans (f10.mono fun _ hh => .inr (.inr (.inr hh)))
   have new1 : ∀ x, InA p1' x → InA p1 x ∨ h6.size ≤ x := hn1
   have hlen : (bs ++ [b']).length = bs.length + 1 := by simp
   have nA := C.nA
   have p1n : ∀ x, InA p1' x → h0.size ≤ x ∧ x ≠ A.block ∧ x ≠ m ∧ x ≠ seen ∧ ¬ InA p2 x := fun x hx => by
    rcases hn1 x hx with hh | hh
    ·exact C.n1 x hh
    ·have := C.fr.size
     exact ⟨by omega, by omega, by omega, by omega, fun h2 => by have := lp2 x h2; omega⟩
   have p2n : ∀ x, InA p2' x → h0.size ≤ x ∧ x ≠ A.block ∧ x ≠ m ∧ x ≠ seen ∧ (InA p2 x ∨ h9.size ≤ x) := fun x hx => by
    rcases hn2 x hx with hh | hh
    ·have := C.n2 x hh; exact ⟨this.1, this.2.1, this.2.2.1, this.2.2.2, .inl hh⟩
    ·have := C.fr.size
     exact ⟨by omega, by omega, by omega, by omega, .inr hh⟩
   refine ⟨⟨bs.length + 1, p1', c1', p2', c2', bs ++ [b'], by simp, ?_⟩, by dsimp only; omega⟩
   refine ⟨by omega, C.fr.tr F10 fun x hx hh => ?_, ?_, ?_, ?_, ?_, ?_, ?_, ?_, ?_, ?_, C.nA, ?_⟩
   ·rcases hh with hh | hh | hh | hh
    ·omega
    ·have := C.n1 x hh; omega
    ·omega
    ·have := C.n2 x hh; omega
   ·have o8A' := (o8A.fr f9 id).fr f10 fun hh => (C.n2 _ hh).2.1 rfl
    rw [List.length_append, List.length_singleton] at o8A'
    exact o8A'
   ·exact ((R1'.fr f8 fun x hx hh => (p1n x hx).2.1 hh).fr f9 fun _ _ => id).fr f10 fun x hx hh => (p1n x hx).2.2.2.2 hh
   ·rw [List.map_append]; exact R2'
   ·exact C.mm.fr F10 fun hh => by
     rcases hh with hh | hh | hh | hh
     ·omega
     ·have := C.n1 _ hh; omega
     ·omega
     ·have := C.n2 _ hh; omega
   ·rw [etake, List.map_append]
    exact (((((((M3.fr f4 id).fr f5 id).fr f6 id).fr f7 fun hh => by have := C.n1 _ hh; omega).fr f8 (by omega)).fr f9 id).fr f10 fun hh => by have := C.n2 _ hh; omega)
   ·rw [etake, List.map_append, List.map_append, C.wp]; simp [w4]
   ·intro b hb
    rcases List.mem_append.1 hb with hb | hb
    ·refine (C.st b hb).fr F10 (fun x hx ⟨b1, b2, b3, b4, b5, b6⟩ hh => ?_) fun x hx ⟨b1, b2, b3, b4, b5, b6⟩ => ?_
     ·rcases hh with hh | hh | hh | hh
      ·exact b4 hh
      ·exact b5 hh
      ·exact b2 hh
      ·exact b6 hh
     ·refine ⟨b1, b2, b3, b4, fun hh => ?_, fun hh => ?_⟩
      ·rcases hn1 x hh with h | h
       ·exact b5 h
       ·omega
      ·rcases hn2 x hh with h | h
       ·exact b6 h
       ·omega
    ·rw [List.mem_singleton.1 hb]
     have F4 : Fr (fun x => InA p1 x ∨ x = A.block ∨ InA p2 x) h4 h10 := ((((((f5.trans f6).mono fun _ => False.elim).trans (f7.mono fun _ hh => .inl hh)).trans (f8.mono fun _ hh => .inr (.inl hh)))).trans (f9.mono fun _ => False.elim)).trans (f10.mono fun _ hh => .inr (.inr hh))
     have z0 := C.fr.size
     refine S4.fr F4 (fun x hx b1 hh => ?_) fun x hx b1 => ?_
     ·rcases hh with hh | hh | hh
      ·have := lp1 x hh; omega
      ·omega
      ·have := lp2 x hh; omega
     ·refine ⟨by omega, by omega, by omega, by omega, fun hh => ?_, fun hh => ?_⟩
      ·rcases hn1 x hh with h | h
       ·have := lp1 x h; omega
       ·omega
      ·rcases hn2 x hh with h | h
       ·have := lp2 x h; omega
       ·omega
   ·intro x hx
    have := p1n x hx
    refine ⟨this.1, this.2.1, this.2.2.1, this.2.2.2.1, fun hh => ?_⟩
    rcases hn2 x hh with h | h
    ·exact this.2.2.2.2 h
    ·have := R1'.lt hx; omega
   ·intro x hx
    have := p2n x hx
    exact ⟨this.1, this.2.1, this.2.2.1, this.2.2.2.1⟩
   ·rw [etake, List.map_append, List.nodup_append]
    refine ⟨C.nd, by simp, fun a ha b hb e => ?_⟩
    obtain ⟨y, hy, rfl⟩ := List.mem_map.1 ha
    rw [List.map_singleton, List.mem_singleton] at hb
    exact hn _ (List.mem_map_of_mem hy) (e.trans hb)
 ·have : bs.length = l.xs.length := by omega
  rw [this] at C ⊢
  exact hk h1 p1 c1 p2 c2 bs C
end Go.Proofs.YtjmfpeiidlpngaaGreatDoor
namespace Go.Proofs.YtjmfpeiidlpngaaGreatDoor.Au
set_option linter.unusedSimpArgs false
set_option linter.unusedVariables false
set_option maxRecDepth 20000
open Go
open Go.IntKind (wrap)
structure St where
 nx : Nat → Nat
 fa : Nat
 ou : Nat
 eq : Option Addr
 ec : Nat
 en : List Nat
def nxV (f : Nat → Nat) : List Value := (List.range 256).map fun c => .int .u16 (f c)
theorem oZ (f : Nat → Nat) : (nxV f).length = 256 := by unfold nxV; simp
def stV (s : St) : List Value := nxV s.nx ++ [.int .u16 s.fa, .int .u16 s.ou, .slice s.eq s.en.length s.ec]
theorem rz (s : St) : (stV s).length = 259 := by unfold stV; rw [List.length_append, oZ]; rfl
theorem CB (s : St) {c : Nat} (hc : c < 256) : (stV s)[c]? = some (.int .u16 (s.nx c)) := by
 unfold stV nxV
 rw [List.getElem?_append_left (by simp; exact hc), List.getElem?_map, List.getElem?_range hc]; rfl
theorem Ex (s : St) (j : Nat) : (stV s)[256 + j]? = [Value.int .u16 s.fa, .int .u16 s.ou, .slice s.eq s.en.length s.ec][j]? := by
 unfold stV
 rw [List.getElem?_append_right (by rw [oZ]; omega), oZ, Nat.add_sub_cancel_left]
theorem KW (s : St) : (stV s)[256]? = some (.int .u16 s.fa) := Ex s 0
theorem Hs (s : St) : (stV s)[257]? = some (.int .u16 s.ou) := Ex s 1
theorem CE (s : St) : (stV s)[258]? = some (.slice s.eq s.en.length s.ec) := Ex s 2
theorem II (s : St) : (stV s).all eQ = true := by
 unfold stV nxV
 rw [List.all_append, List.all_map]
 rw [Bool.and_eq_true]
 exact ⟨List.all_eq_true.2 fun x _ => rfl, rfl⟩
theorem Ct (f : Nat → Nat) (i : Nat) (h : i < (nxV f).length) : (nxV f)[i] = .int .u16 (f i) := by
 have hi : i < 256 := by rw [oZ] at h; exact h
 have : (nxV f)[i]? = some (.int .u16 (f i)) := by unfold nxV; rw [List.getElem?_map, List.getElem?_range hi]; rfl
 exact (List.getElem?_eq_some_iff.1 this).2
def vB (f : Nat → Nat) (c v : Nat) : Nat → Nat := fun x => if x = c then v else f x
theorem H9 (s : St) {c : Nat} (hc : c < 256) (v : Nat) : stV { s with nx := vB s.nx c v } = (stV s).set c (.int .u16 v) := by
 unfold stV
 rw [List.set_append_left _ _ (by rw [oZ]; exact hc)]
 congr 1
 apply List.ext_getElem
 ·rw [List.length_set, oZ, oZ]
 ·intro i h1 h2
  rw [List.getElem_set, Ct, Ct]
  show Value.int .u16 ((vB s.nx c v i : Nat) : Int) = _
  unfold vB
  by_cases h : c = i
  ·rw [if_pos h, if_pos h.symm]
  ·rw [if_neg h, if_neg (fun hh => h hh.symm)]
theorem EM (s : St) (w : List Value) (j : Nat) (v : Value) : (nxV s.nx ++ w).set (256 + j) v = nxV s.nx ++ w.set j v := by
 rw [List.set_append_right _ _ (by rw [oZ]; omega), oZ, Nat.add_sub_cancel_left]
theorem K8 (s : St) (v : Nat) : stV { s with fa := v } = (stV s).set 256 (.int .u16 v) := by
 unfold stV; rw [show 256 = 256 + 0 from rfl, EM]; rfl
theorem HA (s : St) (v : Nat) : stV { s with ou := v } = (stV s).set 257 (.int .u16 v) := by
 unfold stV; rw [show 257 = 256 + 1 from rfl, EM]; rfl
theorem K5 (s : St) (q : Option Addr) (c : Nat) (l : List Nat) : stV { s with eq := q, ec := c, en := l } = (stV s).set 258 (.slice q l.length c) := by
 unfold stV; rw [show 258 = 256 + 2 from rfl, EM]; rfl
def qj : St := ⟨fun _ => 0, 0, 0, none, 0, []⟩
def inV (n : Nat) : List Value := [.int .i64 n]
theorem vy (n : Nat) : (inV n).length = 1 := rfl
set_option maxRecDepth 100000 in
theorem H6 : gW Tryz.prog cE rf Tryz.t204 (.agg (stV qj).toArray) :=
 ⟨Tryz.underlying165, by kernel_rfl, by kernel_rfl, by kernel_rfl, by decide +kernel⟩
theorem ti : gW Tryz.prog bL mn Tryz.t3 (.int .i64 0) := ⟨Tryz.underlying46, by kernel_rfl, by kernel_rfl, by kernel_rfl, by decide⟩
abbrev Tag := Nat → Nat
def upT (o : Tag) (n t : Nat) : Tag := fun x => if x < n then o x else t
theorem dY {o : Tag} {n t x : Nat} (h : x < n) : upT o n t x = o x := if_pos h
theorem ka {o : Tag} {n t x : Nat} (h : n ≤ x) : upT o n t x = t := if_neg (by omega)
def Old (h : aA) (o o' : Tag) : Prop := ∀ x, x < h.size → o' x = o x
theorem Old.refl (h : aA) (o : Tag) : Old h o o := fun _ _ => rfl
theorem Old.up {h : aA} {o : Tag} {n t : Nat} (hn : h.size ≤ n) : Old h o (upT o n t) := fun x hx => dY (by omega)
structure j6 (o : Tag) (k : Nat) (h : aA) (a : Addr) (sg : List St) (pq : Option Addr) (pn pc : Nat) : Prop where
 ex : ∃ q c, Own h a [.slice q sg.length c, .slice pq pn pc] kP ∧ Row 259 stV h q c sg ∧ ∀ x, InA q x → o x = k + 2
 ends : ∀ i (hi : i < sg.length), Row 1 inV h sg[i].eq sg[i].ec sg[i].en ∧ ∀ x, InA sg[i].eq x → o x = k + 3 + i
 tag : o a.block = k + 1
section
variable {o o' : Tag} {k : Nat} {h h' : aA} {R : Nat → Prop} {a : Addr} {sg : List St} {pq : Option Addr} {pn pc : Nat}
theorem j6.lt (A : j6 o k h a sg pq pn pc) : a.block < h.size := by obtain ⟨q, c, ow, _⟩ := A.ex; exact ow.lt
theorem j6.fr (A : j6 o k h a sg pq pn pc) (f : Fr R h h') (hR : ∀ x, x < h.size → R x → o x ≤ k ∨ k + 3 + sg.length ≤ o x) (ho : Old h o o') : j6 o' k h' a sg pq pn pc := by
 obtain ⟨q, c, ow, Q, hq⟩ := A.ex
 have tg := A.tag
 refine ⟨⟨q, c, ow.fr f fun hr => by have := hR _ ow.lt hr; omega, Q.fr f fun x hx hr => by have := hR _ (Q.lt hx) hr; have := hq x hx; omega, fun x hx => by rw [ho x (Q.lt hx)]; exact hq x hx⟩, fun i hi => ?_, by rw [ho _ ow.lt]; exact tg⟩
 obtain ⟨E, he⟩ := A.ends i hi
 exact ⟨E.fr f fun x hx hr => by have := hR _ (E.lt hx) hr; have := he x hx; omega, fun x hx => by rw [ho x (E.lt hx)]; exact he x hx⟩
theorem j6.fr0 (A : j6 o k h a sg pq pn pc) (f : Fr (fun _ => False) h h') : j6 o k h' a sg pq pn pc := A.fr f (fun _ _ h => h.elim) (Old.refl _ _)
theorem j6.cell (A : j6 o k h a sg pq pn pc) : ∃ q c, hcell h a = some (.slice q sg.length c) ∧ (∀ i (hi : i < sg.length), ∃ ad, q = some ad ∧ bB h (ad.add (i * 259)) (stV sg[i])) := by
 obtain ⟨q, c, ow, Q, hq⟩ := A.ex
 exact ⟨q, c, ow.cells.at0 rfl, fun i hi => Q.cellsAt rz (by omega) i hi⟩
theorem j6.put (A : j6 o k h a sg pq pn pc) {q : Option Addr} {c : Nat} (hc : hcell h a = some (.slice q sg.length c)) {ad : Addr} (hq : q = some ad) (i : Nat) (hi : i < sg.length) {j : Nat} (hj : j < 259) {v : Value} (hv : eQ v = true) (e' : St) (he : stV e' = (stV sg[i]).set j v) (h1 : e'.eq = sg[i].eq) (h2 : e'.ec = sg[i].ec) (h3 : e'.en = sg[i].en) {K : aA → Prop}
  (hk : ∀ h', Fr (fun x => o x = k + 2) h h' → j6 o k h' a (sg.set i e') pq pn pc → K h') : st1 h ((ad.add (i * 259)).add j) v K := by
 obtain ⟨q', c', ow, Q, hq'⟩ := A.ex
 have tg := A.tag
 have e := hc.symm.trans (ow.cells.at0 rfl)
 simp only [Option.some.injEq, Value.slice.injEq] at e
 obtain ⟨rfl, _, rfl⟩ := e
 refine Q.set1 rz i hi hq hj hv he fun h5 f5 Q5 => ?_
 have F : Fr (fun x => o x = k + 2) h h5 := f5.mono fun x hx => hq' x hx
 refine hk h5 F ⟨⟨q, c, ?_, Q5, hq'⟩, fun m hm => ?_, tg⟩
 ·have := ow.fr F (by omega)
  rw [List.length_set]; exact this
 ·rw [List.length_set] at hm
  obtain ⟨E, hE⟩ := A.ends m hm
  have E5 := E.fr F fun x hx hh => by have := hE x hx; omega
  rw [List.getElem_set]
  split
  ·rename_i him
   subst him
   rw [h1, h2, h3]; exact ⟨E5, hE⟩
  ·exact ⟨E5, hE⟩
end
end Go.Proofs.YtjmfpeiidlpngaaGreatDoor.Au
namespace Go.Proofs.YtjmfpeiidlpngaaGreatDoor.Au
set_option linter.unusedSimpArgs false
set_option linter.unusedVariables false
set_option maxRecDepth 20000
open Go
open Go.IntKind (wrap)
section
variable {o o' : Tag} {k : Nat} {h h' : aA} {a : Addr} {sg : List St} {pq : Option Addr} {pn pc : Nat}
theorem j6.grow [Gh] (A : j6 o k h a sg pq pn pc) {b : Addr} {T : TypeId} (ob : Own h b (stV qj) T) (hl : sg.length ≤ 2 ^ 20) {q : Option Addr} {c : Nat} (hc : hcell h a = some (.slice q sg.length c)) {K : aA → Prop}
  (hk : ∀ o' h', Old h o o' → Fr (fun x => o x = k + 1 ∨ o x = k + 2) h h' → (∀ x, h.size ≤ x → o' x = k + 2) → j6 o' k h' a (sg ++ [qj]) pq pn pc → K h') :
  dU Tryz.prog .append #[cE, cE] cE #[false, false] #[.slice q sg.length c, .slice (some b) 1 1] h fun v h3 => ∃ t44a : Option Addr, ∃ t44n : Nat, ∃ t44c : Nat, v = .slice t44a t44n t44c ∧ nn (some a) fun t45 => st1 h3 t45 (.slice t44a t44n t44c) K := by
 obtain ⟨q', c', ow, Q, hq⟩ := A.ex
 have tg := A.tag
 have lt := ow.lt
 have e := hc.symm.trans (ow.cells.at0 rfl)
 simp only [Option.some.injEq, Value.slice.injEq] at e
 obtain ⟨rfl, _, rfl⟩ := e
 refine Q.app H6 Tryz.underlying165 (by intro k e; cases e) (by kernel_rfl) (by decide +kernel) rz II ob 1 (by omega) fun p2 c2 h2 Q2 f2 hn2 => ⟨_, _, _, rfl, aS ?_⟩
 have ow2 := ow.fr f2 fun hx => by have := hq _ hx; omega
 refine kG ow2 (by simp) rfl fun h3 f3 s3 o3 => ?_
 have ho : Old h o (upT o h.size (k + 2)) := Old.up (Nat.le_refl _)
 have F : Fr (fun x => o x = k + 1 ∨ o x = k + 2) h h3 := (f2.mono fun x hx => .inr (hq x hx)).trans (f3.mono fun x hx => .inl (by subst hx; exact tg))
 have new : ∀ x, InA p2 x → upT o h.size (k + 2) x = k + 2 := fun x hx => by
  rcases hn2 x hx with h | h
  ·rw [dY (Q.lt h)]; exact hq x h
  ·exact ka h
 refine hk _ h3 ho F (fun x hx => ka hx) ⟨⟨p2, c2, o3, Q2.fr f3 fun x hx hb => ?_, new⟩, fun i hi => ?_, by rw [dY lt]; exact tg⟩
 ·subst hb
  have := new _ hx
  rw [dY lt] at this; omega
 ·by_cases hlt : i < sg.length
  ·rw [List.getElem_append_left hlt]
   obtain ⟨E, hE⟩ := A.ends i hlt
   exact ⟨E.fr F fun x hx hb => by have := hE x hx; omega, fun x hx => by rw [dY (E.lt hx)]; exact hE x hx⟩
  ·have : i = sg.length := by rw [List.length_append, List.length_singleton] at hi; omega
   subst this
   simp only [List.getElem_concat_length]
   exact ⟨Row.nil, fun x hx => (dJ hx).elim⟩
theorem j6.addEnd [Gh] (A : j6 o k h a sg pq pn pc) (i : Nat) (hi : i < sg.length) (e : Nat) {b : Addr} {T : TypeId} (ob : Own h b (inV e) T) (hl : sg[i].en.length ≤ 2 ^ 20) {q : Option Addr} {c : Nat} (hc : hcell h a = some (.slice q sg.length c)) {K : aA → Prop}
  (hk : ∀ o' h' q' c', Old h o o' → Fr (fun x => o x = k + 2 ∨ o x = k + 3 + i) h h' → (∀ x, h.size ≤ x → o' x = k + 3 + i) → j6 o' k h' a (sg.set i { sg[i] with eq := q', ec := c', en := sg[i].en ++ [e] }) pq pn pc → K h') :
  dU Tryz.prog .append #[bL, bL] bL #[false, false] #[.slice sg[i].eq sg[i].en.length sg[i].ec, .slice (some b) 1 1] h fun v h7 => ∃ t75a : Option Addr, ∃ t75n : Nat, ∃ t75c : Nat, v = .slice t75a t75n t75c ∧ (ldL h7 a fun t963a t963n t963c => (.slice t963a t963n t963c : Value) = .slice q sg.length c) ∧ bR (i : Int) sg.length (nn q fun t76 => st1 h7 (Addr.add (Addr.add t76 (i * 259)) 258) (.slice t75a t75n t75c) K) := by
 obtain ⟨q', c', ow, Q, hq⟩ := A.ex
 have tg := A.tag
 have lt := ow.lt
 have e' := hc.symm.trans (ow.cells.at0 rfl)
 simp only [Option.some.injEq, Value.slice.injEq] at e'
 obtain ⟨rfl, _, rfl⟩ := e'
 obtain ⟨E, hE⟩ := A.ends i hi
 refine E.app ti Tryz.underlying46 (by intro k e; cases e) (by kernel_rfl) (by decide +kernel) vy (fun _ => rfl) ob 1 (by omega) fun p2 c2 h2 E2 f2 hn2 => ⟨_, _, _, rfl, ?_⟩
 have ow2 := ow.fr f2 fun hx => by have := hE _ hx; omega
 have Q2 := Q.fr f2 fun x hx hb => by have := hq x hx; have := hE x hb; omega
 refine ⟨⟨q, _, _, ow2.cells.at0 rfl, rfl⟩, ?_⟩
 obtain ⟨ad, had, _⟩ := Q2.cellsAt rz (by omega) i hi
 subst had
 refine bS i rfl hi (aS ?_)
 refine Q2.set1 rz i hi rfl (j := 258) (by omega) (v := .slice p2 (sg[i].en ++ [e]).length c2) rfl (e' := { sg[i] with eq := p2, ec := c2, en := sg[i].en ++ [e] }) (K5 _ _ _ _) fun h3 f3 Q3 => ?_
 have ho : Old h o (upT o h.size (k + 3 + i)) := Old.up (Nat.le_refl _)
 have F : Fr (fun x => o x = k + 2 ∨ o x = k + 3 + i) h h3 := (f2.mono fun x hx => .inr (hE x hx)).trans (f3.mono fun x hx => .inl (hq x hx))
 have new : ∀ x, InA p2 x → upT o h.size (k + 3 + i) x = k + 3 + i := fun x hx => by
  rcases hn2 x hx with h | h
  ·rw [dY (E.lt h)]; exact hE x h
  ·exact ka h
 refine hk _ h3 p2 c2 ho F (fun x hx => ka hx) ⟨⟨some ad, c, ?_, Q3, fun x hx => by rw [dY (Q.lt hx)]; exact hq x hx⟩, fun m hm => ?_, by rw [dY lt]; exact tg⟩
 ·rw [List.length_set]; exact ow.fr F fun hh => by omega
 ·rw [List.length_set] at hm
  rw [List.getElem_set]
  split
  ·rename_i him
   subst him
   exact ⟨E2.fr f3 fun x hx hb => by have h1 := new x hx; have h2 := hq x hb; have h3 := Q.lt hb; rw [dY h3] at h1; omega, new⟩
  ·rename_i him
   obtain ⟨G, hG⟩ := A.ends m hm
   exact ⟨G.fr F fun x hx hb => by have := hG x hx; omega, fun x hx => by rw [dY (G.lt hx)]; exact hG x hx⟩
end
end Go.Proofs.YtjmfpeiidlpngaaGreatDoor.Au
namespace Go.Proofs.YtjmfpeiidlpngaaGreatDoor.Au
set_option linter.unusedSimpArgs false
set_option linter.unusedVariables false
set_option maxRecDepth 20000
open Go
structure sG (sg : List St) (ws : List Nm) (E : Nm → List Nat) : Prop where
 len : sg.length = ws.length
 nd : ws.Nodup
 z : ws[0]? = some []
 pre : ∀ w c, w ++ [c] ∈ ws → w ∈ ws
 no : ∀ i (hi : i < sg.length) w (c : UInt8), ws[i]? = some w → sg[i].nx c.toNat = 0 → w ++ [c] ∉ ws
 yes : ∀ i (hi : i < sg.length) w (c : UInt8), ws[i]? = some w → sg[i].nx c.toNat ≠ 0 → ws[sg[i].nx c.toNat]? = some (w ++ [c])
 fo : ∀ i (hi : i < sg.length), sg[i].fa = 0 ∧ sg[i].ou = 0
 en : ∀ i (hi : i < sg.length) w, ws[i]? = some w → sg[i].en = E w
 out : ∀ w, w ∉ ws → E w = []
theorem jr {ws : List Nm} (nd : ws.Nodup) {i j : Nat} {w : Nm} (h1 : ws[i]? = some w) (h2 : ws[j]? = some w) : i = j := by
 exact (List.getElem?_inj (List.getElem?_eq_some_iff.1 h1).1 nd).1 (h1.trans h2.symm)
section
variable {sg : List St} {ws : List Nm} {E : Nm → List Nat}
theorem sG.lt (T : sG sg ws E) {i : Nat} {w : Nm} (h : ws[i]? = some w) : i < sg.length := by
 rw [T.len]; exact (List.getElem?_eq_some_iff.1 h).1
theorem sG.mem (T : sG sg ws E) {i : Nat} {w : Nm} (h : ws[i]? = some w) : w ∈ ws := List.mem_of_getElem? h
theorem sG.grow (T : sG sg ws E) {now : Nat} {w : Nm} (hw : ws[now]? = some w) (c : UInt8) (h0 : (sg[now]'(T.lt hw)).nx c.toNat = 0) :
  sG ((sg ++ [qj]).set now { sg[now]'(T.lt hw) with nx := vB (sg[now]'(T.lt hw)).nx c.toNat sg.length }) (ws ++ [w ++ [c]]) E := by
 have hlt := T.lt hw
 have hnew : w ++ [c] ∉ ws := T.no now hlt w c hw h0
 have hlen := T.len
 have hne0 : sg.length ≠ 0 := by omega
 have hat : ∀ i (hi : i < ((sg ++ [qj]).set now { sg[now] with nx := vB sg[now].nx c.toNat sg.length }).length) (h2 : i < sg.length), i ≠ now → ((sg ++ [qj]).set now { sg[now] with nx := vB sg[now].nx c.toNat sg.length })[i] = sg[i] := fun i hi h2 hne => by
  rw [List.getElem_set, if_neg (fun h => hne h.symm), List.getElem_append_left h2]
 have hnow : ∀ (hi : now < ((sg ++ [qj]).set now { sg[now] with nx := vB sg[now].nx c.toNat sg.length }).length), ((sg ++ [qj]).set now { sg[now] with nx := vB sg[now].nx c.toNat sg.length })[now] = { sg[now] with nx := vB sg[now].nx c.toNat sg.length } := fun hi => by
  rw [List.getElem_set, if_pos rfl]
 have hend : ∀ i (hi : i < ((sg ++ [qj]).set now { sg[now] with nx := vB sg[now].nx c.toNat sg.length }).length), ¬ i < sg.length → ((sg ++ [qj]).set now { sg[now] with nx := vB sg[now].nx c.toNat sg.length })[i] = qj ∧ i = sg.length := fun i hi h2 => by
  have hi' : i < sg.length + 1 := by simpa using hi
  have : i = sg.length := by omega
  subst this
  refine ⟨?_, rfl⟩
  rw [List.getElem_set, if_neg (by omega), List.getElem_append_right (by omega)]
  simp
 have hold : ∀ i (h2 : i < sg.length) v, (ws ++ [w ++ [c]])[i]? = some v → ws[i]? = some v := fun i h2 v hv => by
  rw [List.getElem?_append_left (by omega)] at hv; exact hv
 have hext : ∀ i v, ws[i]? = some v → (ws ++ [w ++ [c]])[i]? = some v := fun i v hv => by
  rw [List.getElem?_append_left (List.getElem?_eq_some_iff.1 hv).1]; exact hv
 have hlast : ∀ v, (ws ++ [w ++ [c]])[sg.length]? = some v → v = w ++ [c] := fun v hv => by
  rw [hlen, List.getElem?_append_right (Nat.le_refl _), Nat.sub_self] at hv
  exact (Option.some.inj hv).symm
 have hlast2 : (ws ++ [w ++ [c]])[sg.length]? = some (w ++ [c]) := by
  rw [hlen, List.getElem?_append_right (Nat.le_refl _), Nat.sub_self]; rfl
 have tn : ∀ {x y : UInt8}, x.toNat = y.toNat → x = y := fun h => UInt8.toNat_inj.1 h
 refine ⟨?_, ?_, ?_, ?_, ?_, ?_, ?_, ?_, ?_⟩
 ·rw [List.length_set, List.length_append, List.length_append, hlen]; rfl
 ·exact List.nodup_append.2 ⟨T.nd, by simp, fun x hx y hy hxy => by rw [List.mem_singleton.1 hy] at hxy; rw [hxy] at hx; exact hnew hx⟩
 ·exact hext 0 _ T.z
 ·intro v d hv
  rcases List.mem_append.1 hv with hv | hv
  ·exact List.mem_append_left _ (T.pre v d hv)
  ·obtain ⟨e1, _⟩ := List.append_inj' (List.mem_singleton.1 hv) rfl
   rw [e1]; exact List.mem_append_left _ (T.mem hw)
 ·intro i hi v d hv hz hm
  by_cases h2 : i < sg.length
  ·have hv := hold i h2 v hv
   by_cases hin : i = now
   ·subst hin
    rw [hnow hi] at hz
    have hvw : v = w := Option.some.inj (hv.symm.trans hw)
    subst hvw
    unfold vB at hz
    dsimp only at hz
    by_cases hdc : d.toNat = c.toNat
    ·rw [if_pos hdc] at hz; exact hne0 hz
    ·rw [if_neg hdc] at hz
     rcases List.mem_append.1 hm with hm | hm
     ·exact T.no i h2 _ d hw hz hm
     ·obtain ⟨_, e2⟩ := List.append_inj' (List.mem_singleton.1 hm) rfl
      exact hdc (by rw [(List.cons.inj e2).1])
   ·rw [hat i hi h2 hin] at hz
    rcases List.mem_append.1 hm with hm | hm
    ·exact T.no i h2 v d hv hz hm
    ·obtain ⟨e1, _⟩ := List.append_inj' (List.mem_singleton.1 hm) rfl
     rw [e1] at hv
     exact hin (jr T.nd hv hw)
  ·obtain ⟨_, rfl⟩ := hend i hi h2
   have := hlast v hv
   subst this
   rcases List.mem_append.1 hm with hm | hm
   ·exact hnew (T.pre _ _ hm)
   ·have := congrArg List.length (List.mem_singleton.1 hm)
    simp at this
 ·intro i hi v d hv hz
  by_cases h2 : i < sg.length
  ·have hv := hold i h2 v hv
   by_cases hin : i = now
   ·subst hin
    have hvw : v = w := Option.some.inj (hv.symm.trans hw)
    subst hvw
    rw [hnow hi] at hz ⊢
    unfold vB at hz ⊢
    dsimp only at hz ⊢
    by_cases hdc : d.toNat = c.toNat
    ·rw [if_pos hdc, tn hdc]; exact hlast2
    ·rw [if_neg hdc] at hz ⊢; exact hext _ _ (T.yes i h2 _ d hw hz)
   ·rw [hat i hi h2 hin] at hz ⊢
    exact hext _ _ (T.yes i h2 v d hv hz)
  ·obtain ⟨e, rfl⟩ := hend i hi h2
   rw [e] at hz
   exact absurd rfl hz
 ·intro i hi
  by_cases h2 : i < sg.length
  ·by_cases hin : i = now
   ·subst hin; rw [hnow hi]; exact T.fo i h2
   ·rw [hat i hi h2 hin]; exact T.fo i h2
  ·rw [(hend i hi h2).1]; exact ⟨rfl, rfl⟩
 ·intro i hi v hv
  by_cases h2 : i < sg.length
  ·have hv := hold i h2 v hv
   by_cases hin : i = now
   ·subst hin; rw [hnow hi]; exact T.en i h2 v hv
   ·rw [hat i hi h2 hin]; exact T.en i h2 v hv
  ·obtain ⟨e, rfl⟩ := hend i hi h2
   rw [e, hlast v hv, T.out _ hnew]; rfl
 ·intro v hv
  exact T.out v fun h => hv (List.mem_append_left _ h)
theorem sG.ended (T : sG sg ws E) {now : Nat} {w : Nm} (hw : ws[now]? = some w) (e : Nat) (q : Option Addr) (cq : Nat) :
  sG (sg.set now { sg[now]'(T.lt hw) with eq := q, ec := cq, en := (sg[now]'(T.lt hw)).en ++ [e] }) ws (fun v => if v = w then E v ++ [e] else E v) := by
 have hlt := T.lt hw
 have g : ∀ i (hi : i < (sg.set now { sg[now] with eq := q, ec := cq, en := sg[now].en ++ [e] }).length), (sg.set now { sg[now] with eq := q, ec := cq, en := sg[now].en ++ [e] })[i] = if now = i then { sg[now] with eq := q, ec := cq, en := sg[now].en ++ [e] } else sg[i]'(by rw [List.length_set] at hi; exact hi) := fun i hi => List.getElem_set ..
 refine ⟨by rw [List.length_set]; exact T.len, T.nd, T.z, T.pre, ?_, ?_, ?_, ?_, ?_⟩
 ·intro i hi v d hv hz
  rw [g] at hz
  rw [List.length_set] at hi
  split at hz
  ·rename_i h; subst h; exact T.no _ hi v d hv hz
  ·exact T.no i hi v d hv hz
 ·intro i hi v d hv hz
  rw [g] at hz ⊢
  rw [List.length_set] at hi
  by_cases h : now = i
  ·subst h
   rw [if_pos rfl] at hz ⊢
   exact T.yes _ hi v d hv hz
  ·rw [if_neg h] at hz ⊢; exact T.yes i hi v d hv hz
 ·intro i hi
  rw [g]
  rw [List.length_set] at hi
  split
  ·exact T.fo now hlt
  ·exact T.fo i hi
 ·intro i hi v hv
  rw [g]
  rw [List.length_set] at hi
  by_cases h : now = i
  ·subst h
   have hvw : v = w := Option.some.inj (hv.symm.trans hw)
   rw [if_pos rfl, if_pos hvw]
   show sg[now].en ++ [e] = _
   rw [T.en _ hi v hv]
  ·rw [if_neg h]
   have hvw : v ≠ w := fun h' => h (jr T.nd hw (h' ▸ hv))
   rw [if_neg hvw]; exact T.en i hi v hv
 ·intro v hv
  have hvw : v ≠ w := fun h => hv (by rw [h]; exact T.mem hw)
  show (if v = w then _ else _) = _
  rw [if_neg hvw]; exact T.out v hv
end
end Go.Proofs.YtjmfpeiidlpngaaGreatDoor.Au
namespace Go.Proofs.YtjmfpeiidlpngaaGreatDoor.Au
set_option linter.unusedSimpArgs false
set_option linter.unusedVariables false
set_option maxRecDepth 20000
open Go
open Go.IntKind (wrap)
theorem Lv {h : aA} {cs : Array Value} {vs : List Value} {T : TypeId} {K : Addr → aA → Prop} (e : cs = vs.toArray) (hk : ∀ a h', Fr (fun _ => False) h h' → a.block = h.size → Own h' a vs T → K a h') : alV h (.cells cs T) K := by
 subst e; exact bA hk
theorem LU {x : Int} (h1 : 0 ≤ x) (h2 : x < 65536) : wrap .u16 x = x := by
 unfold IntKind.wrap IntKind.bits IntKind.signed
 simp only [Bool.false_and, ge_iff_le]
 rw [if_neg (by simp)]
 omega
def AR (o : Tag) (k : Nat) (x : Nat) : Prop := k < o x ∧ o x < k + 70000
theorem GR (s : Nm) (i : Nat) (hi : i < s.length) : (cI s).take (i + 1) = (cI s).take i ++ [iC s[i]] := by
 rw [vn, vn, show s.take (i + 1) = s.take i ++ [s[i]] by rw [List.take_append_getElem]]
 unfold cI; rw [List.map_append]; rfl
theorem Dp {l w : Nm} {i : Nat} (hi : i < l.length) : w <+: l.take (i + 1) ↔ w <+: l.take i ∨ w = l.take (i + 1) := by
 rw [show l.take (i + 1) = l.take i ++ [l[i]] by rw [List.take_append_getElem]]
 rw [List.prefix_concat_iff]
 exact ⟨fun h => h.symm, fun h => h.symm⟩
section
variable {o : Tag} {k : Nat} {h : aA} {a : Addr} {sg : List St} {pq : Option Addr} {pn pc : Nat} {ws : List Nm} {E : Nm → List Nat}
theorem Lt [Gh] (A : j6 o k h a sg pq pn pc) (T : sG sg ws E) (e : Nat) (he : e < 2 ^ 60) (s : Nm) (hN : ws.length + s.length ≤ 40000) (hE : ∀ w, (E w).length ≤ 1000) {Q : Value → aA → Prop}
  (hk : ∀ o' h' sg' ws', Old h o o' → (∀ x, h.size ≤ x → k < o' x ∧ o' x < k + 70000) → Fr (AR o k) h h' → j6 o' k h' a sg' pq pn pc → sG sg' ws' (fun v => if v = cI s then E v ++ [e] else E v) → (∀ w, w ∈ ws' ↔ w ∈ ws ∨ w <+: cI s) → ws'.length ≤ ws.length + s.length → Q (.tuple #[]) h') :
  aE Tryz.prog iK #[.pointer (some a), .int .i64 e, .string (bs s)] h Q := by
 apply qY
 unfold mc
 rw [bN]
 have hz0 := A.lt
 refine aJ.go (fun n st h' => ∃ (i nw : Nat) (sg' : List St) (ws' : List Nm) (o' : Tag), st.1 = (nw : Int) ∧ st.2 = (i : Int) ∧ i ≤ s.length ∧ n = s.length - i ∧ j6 o' k h' a sg' pq pn pc ∧ sG sg' ws' E ∧ ws'[nw]? = some ((cI s).take i) ∧ (∀ w, w ∈ ws' ↔ w ∈ ws ∨ w <+: (cI s).take i) ∧ ws'.length ≤ ws.length + i ∧ Old h o o' ∧ Fr (AR o k) h h' ∧ (∀ x, h.size ≤ x → x < h'.size → k < o' x ∧ o' x < k + 70000)) s.length
  ⟨0, 0, sg, ws, o, rfl, rfl, by omega, rfl, A, T, by rw [List.take_zero]; exact T.z, fun w => ⟨.inl, fun h => ?_⟩, by omega, Old.refl _ _, Fr.refl _ _, fun x h1 h2 => by omega⟩ ?_
 ·rcases h with h | h
  ·exact h
  ·rw [List.take_zero, List.prefix_nil] at h; rw [h]; exact T.mem T.z
 rintro n ⟨n6, t12⟩ h1 ⟨i, nw, sg1, ws1, o1, hn, ht, hi, rfl, A1, T1, hnw, hmem, hlen, hO1, f1, hr1⟩ Kn hK
 have hn : n6 = (nw : Int) := hn
 have ht : t12 = (i : Int) := ht
 subst hn ht
 dsimp only
 unfold iM
 have hl1 := T1.len
 have hlt := T1.lt hnw
 have z1 := f1.size
 refine ifD (fun e1 => ?_) fun e1 => ?_
 ·have hil : i < s.length := by omega
  refine ixS s i rfl hil ?_
  have hb := nh s[i]
  refine yU _ hb.1 hb.2 ⟨_, rfl, ?_⟩
  rw [← oM]
  have hc256 : (iC s[i]).toNat < 256 := (iC s[i]).toNat_lt
  have hcn : (bP (iC s[i])).toNat * 1 = (iC s[i]).toNat := by unfold bP; omega
  have hsn := GR s i hil
  generalize iC s[i] = c at *
  obtain ⟨q, cq, hcell, hcs⟩ := A1.cell
  obtain ⟨ad, hq, ci⟩ := hcs nw hlt
  subst hq
  refine aS (aD hcell (bS nw rfl hlt (aS (bS c.toNat rfl hc256 ?_))))
  rw [hcn, Int.toNat_natCast]
  refine aB (ci.at (CB _ hc256)) ?_
  have hpl : i < (cI s).length := by rw [jq]; exact hil
  by_cases h0 : sg1[nw].nx c.toNat = 0
  ·rw [h0]
   refine ifE (fun _ => ?_) fun hh => absurd (by decide) hh
   refine aS (aD hcell (aS (aD hcell ?_)))
   refine Lv (vs := stV qj) (by kernel_rfl) fun t43 h2 f2 e2 o2 => ?_
   have z2 := f2.size
   have A2 : j6 (upT o1 h1.size (k + 2)) k h2 a sg1 pq pn pc := A1.fr f2 (fun _ _ h => h.elim) (Old.up (Nat.le_refl _))
   have hO2 : ∀ x, x < h1.size → upT o1 h1.size (k + 2) x = o1 x := fun x hx => dY hx
   refine A2.grow o2 (by omega) (f2.hcell hcell id) fun o3 h3 hO3 f3 hr3 A3 => aS ?_
   have z3 := f3.size
   obtain ⟨q3, c3, hcell3, hcs3⟩ := A3.cell
   have hlt3 : nw < (sg1 ++ [qj]).length := by rw [List.length_append]; omega
   obtain ⟨ad3, hq3, ci3⟩ := hcs3 nw hlt3
   refine aD hcell3 ?_
   subst hq3
   refine bS nw rfl hlt3 (aS (bS c.toNat rfl hc256 ?_))
   rw [LU (by omega) (by omega)]
   have hget : (sg1 ++ [qj])[nw] = sg1[nw] := List.getElem_append_left hlt
   refine A3.put hcell3 rfl nw hlt3 (j := c.toNat) (by omega) (v := .int .u16 (sg1.length : Nat)) rfl { sg1[nw] with nx := vB sg1[nw].nx c.toNat sg1.length } (by rw [hget]; exact H9 _ hc256 _) (by rw [hget]) (by rw [hget]) (by rw [hget]) fun h4 f4 A4 => ?_
   have z4 := f4.size
   rw [wr (by omega) (by omega)]
   have T4 := T1.grow hnw c h0
   have hO13 : Old h o o3 := fun x hx => by rw [hO3 x (by omega), hO2 x (by omega)]; exact hO1 x hx
   refine hK (s.length - (i + 1)) _ _ (by omega) ⟨i + 1, sg1.length, _, _, o3, rfl, rfl, hil, rfl, A4, T4, ?_, fun w => ?_, by rw [List.length_append, List.length_singleton]; omega, hO13, ?_, fun x hx hx4 => ?_⟩
   ·rw [hl1, List.getElem?_append_right (Nat.le_refl _), Nat.sub_self, hsn]; rfl
   ·rw [List.mem_append, hmem, List.mem_singleton, Dp hpl, hsn]
    exact ⟨fun h => by rcases h with (h | h) | h; exact .inl h; exact .inr (.inl h); exact .inr (.inr h), fun h => by rcases h with h | h | h; exact .inl (.inl h); exact .inl (.inr h); exact .inr h⟩
   ·refine ((f1.tr f2 fun _ _ h => h.elim).tr f3 fun x hx hh => ?_).tr f4 fun x hx hh => ?_
    ·rw [hO2 x (by omega), hO1 x hx] at hh; unfold AR; omega
    ·rw [hO13 x hx] at hh; unfold AR; omega
   ·by_cases hx2 : x < h2.size
    ·rw [hO3 x hx2]
     by_cases hx1 : x < h1.size
     ·rw [hO2 x hx1]; exact hr1 x hx hx1
     ·rw [ka (by omega)]; omega
    ·rw [hr3 x (by omega)]; omega
  ·have hy := T1.yes nw hlt _ c hnw h0
   have hylt := T1.lt hy
   rw [wr (x := ((sg1[nw].nx c.toNat : Nat) : Int)) (by omega) (by omega)]
   refine ifE (fun hh => absurd (by omega) h0) fun _ => ?_
   rw [wr (by omega) (by omega)]
   refine hK (s.length - (i + 1)) _ _ (by omega) ⟨i + 1, sg1[nw].nx c.toNat, sg1, ws1, o1, rfl, rfl, hil, rfl, A1, T1, by rw [hsn]; exact hy, fun w => ?_, by omega, hO1, f1, hr1⟩
   rw [hmem, Dp hpl, hsn]
   refine ⟨fun h => by rcases h with h | h; exact .inl h; exact .inr (.inl h), fun h => ?_⟩
   rcases h with h | h | h
   ·exact .inl h
   ·exact .inr h
   ·subst h
    exact (hmem _).1 (T1.mem hy)
 ·have hie : i = s.length := by omega
  subst hie
  rw [List.take_of_length_le (by rw [jq]; exact Nat.le_refl _)] at hnw hmem
  unfold iR
  obtain ⟨q, cq, hcell, hcs⟩ := A1.cell
  obtain ⟨ad, hq, ci⟩ := hcs nw hlt
  subst hq
  refine aS (aD hcell (aS (aD hcell (bS nw rfl hlt (aS ?_)))))
  rw [Int.toNat_natCast]
  refine aD (ci.at (CE _)) ?_
  refine bA (vs := inV e) fun t74 h2 f2 e2 o2 => ?_
  have z2 := f2.size
  have A2 : j6 (upT o1 h1.size (k + 2)) k h2 a sg1 pq pn pc := A1.fr f2 (fun _ _ h => h.elim) (Old.up (Nat.le_refl _))
  have hO2 : ∀ x, x < h1.size → upT o1 h1.size (k + 2) x = o1 x := fun x hx => dY hx
  have hcell2 := f2.hcell hcell id
  have ci2 := ci.fr0 f2
  refine ⟨⟨_, _, _, hcell2, rfl⟩, ⟨_, _, _, hcell2, rfl⟩, ⟨_, _, _, ci2.at (CE _), rfl⟩, ?_⟩
  have hen := T1.en nw hlt _ hnw
  have hel : sg1[nw].en.length ≤ 2 ^ 20 := by rw [hen]; have := hE (cI s); omega
  refine A2.addEnd nw hlt e o2 hel hcell2 fun o3 h3 q' c' hO3 f3 hr3 A3 => ?_
  have z3 := f3.size
  have hO13 : Old h o o3 := fun x hx => by rw [hO3 x (by omega), hO2 x (by omega)]; exact hO1 x hx
  refine hk o3 h3 _ ws1 hO13 (fun x hx => ?_) ((f1.tr f2 fun _ _ h => h.elim).tr f3 fun x hx hh => ?_) A3 (T1.ended hnw e q' c') hmem hlen
  ·by_cases hx2 : x < h2.size
   ·rw [hO3 x hx2]
    by_cases hx1 : x < h1.size
    ·rw [hO2 x hx1]; exact hr1 x hx hx1
    ·rw [ka (by omega)]; omega
   ·rw [hr3 x (by omega)]; omega
  ·rw [hO2 x (by omega), hO1 x hx] at hh; unfold AR; omega
end
end Go.Proofs.YtjmfpeiidlpngaaGreatDoor.Au
namespace Go.Proofs.YtjmfpeiidlpngaaGreatDoor.Au
set_option linter.unusedSimpArgs false
set_option linter.unusedVariables false
set_option maxRecDepth 20000
open Go
open Go.IntKind (wrap)
theorem yO (p : Pt) : (ptV p).length = 2 := rfl
theorem LL : gW Tryz.prog eU bG Tryz.t160 (.agg #[.string ⟨#[]⟩, .bool false]) :=
 ⟨Tryz.underlying84, by kernel_rfl, by kernel_rfl, by kernel_rfl, by decide +kernel⟩
theorem ET [Gh] (s : Sl Pt) {ok : aA → Pt → Prop} {h : aA} (os : bJ 2 ptV ok h s) (okf : ∀ h h' x, Fr (fun _ => False) h h' → ok h x → ok h' x) (hl : s.xs.length ≤ 2 ^ 20) {Q : Value → aA → Prop}
  (hk : ∀ q c h', Fr (fun _ => False) h h' → Row 2 ptV h' q c s.xs → (∀ x, InA q x → h.size ≤ x) → Q (.slice q s.xs.length c) h') :
  aE Tryz.prog cC #[.slice s.p s.xs.length s.cap] h Q := by
 apply lF
 unfold gN
 cases hp : s.p with
 | none =>
  rw [if_pos (by rfl)]
  have he : s.xs = [] := by
   cases hx : s.xs with
   | nil => rfl
   | cons a l =>
    obtain ⟨ad, h1, _⟩ := os.at_ 0 (by rw [hx]; simp)
    rw [hp] at h1; cases h1
  have := hk none 0 h (Fr.refl _ _) (by rw [he]; exact Row.nil) fun x hx => (dJ hx).elim
  rw [he] at this; exact this
 | some ad =>
  rw [if_neg (by simp)]
  refine bA (vs := []) fun t5 h1 f1 e1 o1 => ?_
  have z1 := f1.size
  have R0 : Row 2 ptV h1 (some t5) 0 [] := Row.of_own (L := []) yO o1
  have src := (bJ.fr0 okf f1 os).src yO
  rw [hp] at src
  refine R0.appL LL Tryz.underlying84 (by intro k e; cases e) (by kernel_rfl) (by decide +kernel) yO (fun _ => rfl) src (by simp; omega) fun p' cap' h' R' f hn => ⟨_, _, _, rfl, ?_⟩
  refine hk p' cap' h' (f1.tr f fun x hx hh => ?_) R' fun x hx => ?_
  ·obtain ⟨a', h1, h2⟩ := hh; cases h1; omega
  ·rcases hn x hx with hh | hh
   ·obtain ⟨a', h1, h2⟩ := hh; cases h1; omega
   ·omega
def rb : List Pt → Int
 | [] => 0
 | p :: l => if p.t = [] then 2 else if p.t.length > 64 then 3 else rb l
theorem vr : ∀ {L : List Pt}, rb L = 0 → ∀ p ∈ L, p.t ≠ [] ∧ p.t.length ≤ 64
 | [], _, p, hp => by cases hp
 | q :: L, h, p, hp => by
  unfold rb at h
  split at h
  ·cases h
  ·split at h
   ·cases h
   ·rcases List.mem_cons.1 hp with rfl | hp
    ·exact ⟨by assumption, by omega⟩
    ·exact vr h p hp
end Go.Proofs.YtjmfpeiidlpngaaGreatDoor.Au
namespace Go.Proofs.YtjmfpeiidlpngaaGreatDoor.Au
set_option linter.unusedSimpArgs false
set_option linter.unusedVariables false
set_option maxRecDepth 20000
open Go
theorem E6 {h : aA} {a : Addr} (f : Nat → Nat) : ∀ (n i : Nat) {K : List Value → Prop}, (∀ j, j < n → hcell h (a.add (i + j)) = some (.int .u16 (f (i + j)))) → K ((List.range' i n).map fun c => .int .u16 (f c)) → ldN h a (List.replicate n (.int .u16)) i K
 | 0, i, K, _, hk => hk
 | n + 1, i, K, hc, hk => by
  rw [List.replicate_succ]
  unfold ldN ld1
  refine ⟨_, hc 0 (by omega), ?_⟩
  refine E6 f n (i + 1) (fun j hj => by have := hc (j + 1) (by omega); rw [show i + 1 + j = i + (j + 1) by omega]; exact this) ?_
  rw [List.range'_succ, List.map_cons] at hk
  exact hk
theorem JT : kinds Tryz.prog 20 202 = List.replicate 256 (.int .u16) := by kernel_rfl
theorem Ig {h : aA} {ad : Addr} {s : St} (c : bB h ad (stV s)) {K : List Value → Prop} (hk : K (nxV s.nx)) : ldN h ad (kinds Tryz.prog 20 202) 0 K := by
 rw [JT]
 refine E6 s.nx 256 0 (fun j hj => ?_) ?_
 ·rw [Nat.zero_add]; exact c.at (CB s hj)
 ·unfold nxV at hk; rw [List.range_eq_range'] at hk; exact hk
theorem Hr (f : Nat → Nat) {c : Nat} (hc : c < 256) : (nxV f).toArray[c]? = some (.int .u16 (f c)) := by
 rw [List.getElem?_toArray]
 have h : c < (nxV f).length := by rw [oZ]; exact hc
 rw [List.getElem?_eq_getElem h, Ct]
end Go.Proofs.YtjmfpeiidlpngaaGreatDoor.Au
namespace Go.Proofs.YtjmfpeiidlpngaaGreatDoor.Au
set_option linter.unusedSimpArgs false
set_option linter.unusedVariables false
set_option maxRecDepth 20000
open Go
open Go.IntKind (wrap)
def iX (L : List Pt) (i : Nat) (w : Nm) : List Nat := (List.range i).filter fun j => decide (cI (L.getD j ⟨[], false⟩).t = w)
theorem En (L : List Pt) (i : Nat) (hi : i < L.length) : (fun v => if v = cI L[i].t then iX L i v ++ [i] else iX L i v) = iX L (i + 1) := by
 funext v
 have e : L.getD i ⟨[], false⟩ = L[i] := by rw [List.getD_eq_getElem?_getD, List.getElem?_eq_getElem hi]; rfl
 unfold iX
 rw [List.range_succ, List.filter_append, List.filter_cons, List.filter_nil, e]
 by_cases h : v = cI L[i].t
 ·rw [if_pos h, if_pos (decide_eq_true h.symm)]
 ·rw [if_neg h, if_neg (fun hh => h (of_decide_eq_true hh).symm), List.append_nil]
theorem Bt (L : List Pt) (i : Nat) (w : Nm) : (iX L i w).length ≤ i := by
 unfold iX
 exact Nat.le_trans (List.length_filter_le ..) (by rw [List.length_range]; exact Nat.le_refl _)
theorem Ly (L : List Pt) : sG [qj] [[]] (iX L 0) := by
 have h0 : ∀ {i : Nat}, i < [qj].length → i = 0 := fun h => by simpa using h
 refine ⟨rfl, by simp, rfl, fun w c h => ?_, fun i hi w c hw hz hm => ?_, fun i hi w c hw hz => ?_, fun i hi => ?_, fun i hi w hw => ?_, fun w hw => rfl⟩
 ·simp at h
 ·simp at hm
 ·have := h0 hi; subst this; exact absurd rfl hz
 ·have := h0 hi; subst this; exact ⟨rfl, rfl⟩
 ·have := h0 hi; subst this; rfl
def wd (L : List Pt) (i : Nat) (w : Nm) : Prop := w = [] ∨ ∃ j, ∃ hj : j < L.length, j < i ∧ w <+: cI L[j].t
theorem KM [Gh] {o : Tag} {k : Nat} {h : aA} {a : Addr} {pq : Option Addr} {pn pc : Nat} {q : Option Addr} {cap : Nat} {L : List Pt} (hL : L.length ≤ 512) (hp : ∀ p ∈ L, p.t.length ≤ 64) (S : ∀ h', Fr (AR o k) h h' → Hd h' q L) (A : j6 o k h a [qj] pq pn pc) {Q : Value → aA → Prop}
  (hk : ∀ o' h' sg ws, Old h o o' → (∀ x, h.size ≤ x → x < h'.size → k < o' x ∧ o' x < k + 70000) → Fr (AR o k) h h' → j6 o' k h' a sg pq pn pc → sG sg ws (iX L L.length) → (∀ w, w ∈ ws ↔ wd L L.length w) → ws.length ≤ 40000 → iL a Q h') :
  aJ (fun (s : Int) h Kn => gE a q L.length cap ((L.length : Nat) : Int) Q s h Kn) 0 h := by
 have z0 := A.lt
 refine aJ.go (fun n st h' => ∃ (i : Nat) (sg : List St) (ws : List Nm) (o' : Tag), st = (i : Int) ∧ i ≤ L.length ∧ n = L.length - i ∧ j6 o' k h' a sg pq pn pc ∧ sG sg ws (iX L i) ∧ (∀ w, w ∈ ws ↔ wd L i w) ∧ ws.length ≤ 1 + 64 * i ∧ Old h o o' ∧ Fr (AR o k) h h' ∧ (∀ x, h.size ≤ x → x < h'.size → k < o' x ∧ o' x < k + 70000)) L.length
  ⟨0, [qj], [[]], o, rfl, by omega, rfl, A, Ly L, fun w => ?_, by simp, Old.refl _ _, Fr.refl _ _, fun x h1 h2 => by omega⟩ ?_
 ·unfold wd
  rw [List.mem_singleton]
  refine ⟨.inl, fun h => ?_⟩
  rcases h with h | ⟨j, _, hj, _⟩
  ·exact h
  ·omega
 rintro n - h1 ⟨i, sg, ws, o1, rfl, hi, rfl, A1, T1, hm1, hlen, hO1, f1, hr1⟩ Kn hK
 unfold gE
 have z1 := f1.size
 refine ifD (fun e => ?_) fun e => ?_
 ·have hil : i < L.length := by omega
  refine (S h1 f1).get i rfl hil fun ad ci => ?_
  rw [Int.toNat_natCast]
  refine aY (ci.at0 rfl) (aG (ci.at (j := 1) rfl) ?_)
  refine bA (vs := [.string (bs []), .bool false]) fun t8 h2 f2 e2 o2 => ?_
  refine jQ o2 (ws := [.string (bs L[i].t), .bool L[i].nc]) (by rfl) (by rfl) fun h3 f3 s3 o3 => ?_
  have F3 : Fr (fun _ => False) h1 h3 := f2.tr f3 fun b hb hi => by omega
  have z3 := F3.size
  refine aY (o3.cells.at0 rfl) ?_
  have A3 : j6 (upT o1 h1.size (k + 2)) k h3 a sg pq pn pc := A1.fr F3 (fun _ _ h => h.elim) (Old.up (Nat.le_refl _))
  have hO3 : ∀ x, x < h1.size → upT o1 h1.size (k + 2) x = o1 x := fun x hx => dY hx
  have hpi := hp _ (List.getElem_mem hil)
  refine Lt A3 T1 i (by omega) L[i].t (by omega) (fun w => by have := Bt L i w; omega) fun o4 h4 sg4 ws4 hO4 hr4 f4 A4 T4 hm4 hl4 => ⟨rfl, ?_⟩
  have z4 := f4.size
  rw [wr (by omega) (by omega)]
  rw [En L i hil] at T4
  refine hK (L.length - (i + 1)) _ _ (by omega) ⟨i + 1, sg4, ws4, o4, rfl, hil, rfl, A4, T4, fun w => ?_, by omega, fun x hx => by rw [hO4 x (by omega), hO3 x (by omega)]; exact hO1 x hx, (f1.tr F3 fun _ _ h => h.elim).tr f4 fun x hx hh => ?_, fun x hx hx4 => ?_⟩
  ·rw [hm4, hm1]
   unfold wd
   constructor
   ·rintro ((h | ⟨j, hj, hji, hw⟩) | h)
    ·exact .inl h
    ·exact .inr ⟨j, hj, by omega, hw⟩
    ·exact .inr ⟨i, hil, by omega, h⟩
   ·rintro (h | ⟨j, hj, hji, hw⟩)
    ·exact .inl (.inl h)
    ·by_cases hj2 : j = i
     ·subst hj2; exact .inr hw
     ·exact .inl (.inr ⟨j, hj, by omega, hw⟩)
  ·unfold AR at hh ⊢; rw [hO3 x (by omega), hO1 x hx] at hh; exact hh
  ·by_cases hx3 : x < h3.size
   ·rw [hO4 x hx3]
    by_cases hx1 : x < h1.size
    ·rw [hO3 x hx1]; exact hr1 x hx hx1
    ·rw [ka (by omega)]; omega
   ·exact hr4 x (by omega)
 ·have : i = L.length := by omega
  subst this
  exact hk o1 h1 sg ws hO1 hr1 f1 A1 T1 hm1 (by omega)
end Go.Proofs.YtjmfpeiidlpngaaGreatDoor.Au
namespace Go.Proofs.YtjmfpeiidlpngaaGreatDoor.Au
set_option linter.unusedSimpArgs false
set_option linter.unusedVariables false
set_option maxRecDepth 20000
open Go
open Go.IntKind (wrap)
theorem LN {o : Tag} {k m : Nat} (n0 n1 n2 n3 m' : Nat) : ∀ x, n0 ≤ x → x < m → k ≤ upT (upT (upT (upT o n0 k) n1 (k + 2)) n2 k) n3 (k + 1) x ∧ upT (upT (upT (upT o n0 k) n1 (k + 2)) n2 k) n3 (k + 1) x < k + 70000 := fun x hx _ => by
 unfold upT
 split
 ·split
  ·split
   ·rw [if_neg (by omega)]; omega
   ·omega
  ·omega
 ·omega
theorem LS {o : Tag} {k m : Nat} (n0 n1 n2 n3 m' : Nat) : ∀ x, n0 ≤ x → x < m → k ≤ upT (upT (upT (upT o n0 k) n1 k) n2 (k + 2)) n3 (k + 1) x ∧ upT (upT (upT (upT o n0 k) n1 k) n2 (k + 2)) n3 (k + 1) x < k + 70000 := fun x hx _ => by
 unfold upT
 split
 ·split
  ·split
   ·rw [if_neg (by omega)]; omega
   ·omega
  ·omega
 ·omega
theorem GM (p : Pt) (l : List Pt) : rb (p :: l) = if p.t = [] then 2 else if p.t.length > 64 then 3 else rb l := rfl
theorem Gq [Gh] (s : Sl Pt) {ok : aA → Pt → Prop} {h : aA} (os : bJ 2 ptV ok h s) (okf : ∀ h h' x, Fr (fun _ => False) h h' → ok h x → ok h' x) (hl : s.xs.length ≤ 2 ^ 20) (o : Tag) (k : Nat) (hold : ∀ x, x < h.size → o x ≤ k) {Q : Value → aA → Prop}
  (hbad : ∀ h', Fr (fun _ => False) h h' → s.xs.length > 512 → Q (.tuple #[.pointer none, .int .i64 3]) h')
  (herr : ∀ h', Fr (fun _ => False) h h' → s.xs.length ≤ 512 → rb s.xs ≠ 0 → Q (.tuple #[.pointer none, .int .i64 (rb s.xs)]) h')
  (hk : ∀ a o' h' sg ws pq pc, Old h o o' → (∀ x, h.size ≤ x → x < h'.size → k ≤ o' x ∧ o' x < k + 70000) → Fr (fun _ => False) h h' → j6 o' k h' a sg pq s.xs.length pc → Row 2 ptV h' pq pc s.xs → (∀ x, InA pq x → h.size ≤ x ∧ o' x = k) → sG sg ws (iX s.xs s.xs.length) → (∀ w, w ∈ ws ↔ wd s.xs s.xs.length w) → ws.length ≤ 40000 → s.xs.length ≤ 512 → rb s.xs = 0 → iL a Q h') :
  aE Tryz.prog kv #[.slice s.p s.xs.length s.cap] h Q := by
 apply wK
 unfold rr
 refine ifD (fun e => hbad h (Fr.refl _ _) (by omega)) fun e => ?_
 have hl512 : s.xs.length ≤ 512 := by omega
 have S : ∀ h', Fr (fun _ => False) h h' → Hd h' s.p s.xs := fun h' f i hi => by
  obtain ⟨ad, h1, h2, _⟩ := os.at_ i hi; exact ⟨ad, h1, h2.fr0 f⟩
 refine aJ.go (fun n st h' => ∃ i : Nat, st = (i : Int) ∧ i ≤ s.xs.length ∧ n = s.xs.length - i ∧ Fr (fun _ => False) h h' ∧ rb s.xs = rb (s.xs.drop i)) s.xs.length ⟨0, rfl, by omega, rfl, Fr.refl _ _, by rw [List.drop_zero]⟩ ?_
 rintro n - h1 ⟨i, rfl, hi, rfl, f1, he⟩ Kn hK
 unfold mQ
 refine ifD (fun e2 => ?_) fun e2 => ?_
 ·have hil : i < s.xs.length := by omega
  rw [List.drop_eq_getElem_cons hil] at he
  rw [GM] at he
  refine (S h1 f1).get i rfl hil fun ad ci => ?_
  rw [Int.toNat_natCast]
  refine aY (ci.at0 rfl) (aG (ci.at (j := 1) rfl) ?_)
  refine bA (vs := [.string (bs []), .bool false]) fun t5 h2 f2 e2 o2 => ?_
  refine jQ o2 (ws := [.string (bs s.xs[i].t), .bool s.xs[i].nc]) (by rfl) (by rfl) fun h3 f3 s3 o3 => ?_
  have F3 : Fr (fun _ => False) h h3 := f1.trans (f2.tr f3 fun b hb hi => by omega)
  refine aY (o3.cells.at0 rfl) (ifS (m := []) (fun e3 => ?_) fun e3 => ?_)
  ·rw [if_pos e3] at he
   have := herr h3 F3 hl512
   rw [he] at this; exact this (by decide)
  rw [if_neg e3] at he
  refine aY (o3.cells.at0 rfl) ?_
  rw [bN]
  refine ifD (fun e4 => ?_) fun e4 => ?_
  ·rw [if_pos (by omega)] at he
   have := herr h3 F3 hl512
   rw [he] at this; exact this (by decide)
  rw [if_neg (by omega)] at he
  rw [wr (by omega) (by omega)]
  exact hK (s.xs.length - (i + 1)) _ _ (by omega) ⟨i + 1, rfl, hil, rfl, F3, he⟩
 ·have hie : i = s.xs.length := by omega
  subst hie
  rw [List.drop_length] at he
  have he : rb s.xs = 0 := he
  have hps : ∀ p ∈ s.xs, p.t.length ≤ 64 := fun p hp => (vr he p hp).2
  have os1 := bJ.fr0 okf f1 os
  have z1 := f1.size
  have hst : (List.replicate 1 (Value.agg (stV qj).toArray).cells.toList).flatten = [qj].flatMap stV := by
   show (stV qj ++ []) = stV qj ++ []
   rfl
  have hby : 1 * (Tryz.t204).bytes ≤ 2 ^ 48 := by decide +kernel
  unfold mG
  have fin : ∀ {h4 : aA} {a : Addr} {o4 : Tag} {pq : Option Addr} {pc : Nat}, Fr (fun _ => False) h h4 → Old h o o4 → (∀ x, h.size ≤ x → x < h4.size → k ≤ o4 x ∧ o4 x < k + 70000) → j6 o4 k h4 a [qj] pq s.xs.length pc → Row 2 ptV h4 pq pc s.xs → (∀ x, InA pq x → h.size ≤ x ∧ o4 x = k) →
    aJ (fun (st : Int) h Kn => gE a s.p s.xs.length s.cap ((s.xs.length : Nat) : Int) Q st h Kn) 0 h4 := fun {h4 a o4 pq pc} f4 hO4 hr4 A4 R4 hq4 => by
   have z4 := f4.size
   have hno : ∀ x, x < h.size → ¬ AR o4 k x := fun x hx hh => by unfold AR at hh; rw [hO4 x hx] at hh; have := hold x hx; omega
   refine KM hl512 hps (fun h' f' => S h' (f4.tr f' fun x hx hh => hno x hx hh)) A4 fun o5 h5 sg ws hO5 hr5 f5 A5 T5 hm5 hl5 => ?_
   have z5 := f5.size
   refine hk a o5 h5 sg ws pq pc (fun x hx => by rw [hO5 x (by omega)]; exact hO4 x hx) (fun x hx hx5 => ?_) (f4.tr f5 fun x hx hh => hno x hx hh) A5 (R4.fr f5 fun x hx hh => by have := hq4 x hx; unfold AR at hh; omega) (fun x hx => ?_) T5 hm5 hl5 hl512 he
   ·by_cases hx4 : x < h4.size
    ·rw [hO5 x hx4]; exact hr4 x hx hx4
    ·have := hr5 x (by omega) hx5; omega
   ·have := hq4 x hx
    rw [hO5 x (R4.lt hx)]; exact this
  constructor
  ·refine yK H6 1 rfl hby fun t28 h3 f3 e3 o3 => ⟨_, _, _, rfl, ?_⟩
   rw [hst] at o3
   have z3 := f3.size
   have l3 := o3.lt
   have Q3 := Row.of_own rz o3
   refine ET s (bJ.fr0 okf f3 os1) okf hl fun pq pc h4 f4 R4 hq4 => ⟨_, _, _, rfl, ?_⟩
   have z4 := f4.size
   refine bA (vs := [.slice (some t28) 1 1, .slice pq s.xs.length pc]) fun t32 h5 f5 e5 o5 => ?_
   have z5 := f5.size
   refine fin (o4 := upT (upT (upT (upT o h.size k) h1.size (k + 2)) h3.size k) h4.size (k + 1)) (((f1.trans f3).trans f4).trans f5) (fun x hx => by rw [dY (by omega), dY (by omega), dY (by omega), dY (by omega)]) (LN _ _ _ _ 0) ⟨⟨some t28, 1, o5, (Q3.fr0 f4).fr0 f5, fun x hx => ?_⟩, fun i hi => ?_, ?_⟩ (R4.fr0 f5) fun x hx => ?_
   ·obtain ⟨ad, h1, h2⟩ := hx; cases h1
    rw [dY (by omega), dY (by omega), ka (by omega)]
   ·have : i = 0 := by simpa using hi
    subst this
    exact ⟨Row.nil, fun x hx => (dJ hx).elim⟩
   ·rw [ka (by omega)]
   ·have h1 := hq4 x hx
    have h2 := R4.lt hx
    exact ⟨by omega, by rw [dY h2, ka (by omega)]⟩
  ·refine ET s os1 okf hl fun pq pc h3 f3 R3 hq3 => ⟨_, _, _, rfl, ?_⟩
   have z3 := f3.size
   refine yK H6 1 rfl hby fun t28 h4 f4 e4 o4 => ⟨_, _, _, rfl, ?_⟩
   rw [hst] at o4
   have z4 := f4.size
   have l4 := o4.lt
   have Q4 := Row.of_own rz o4
   refine bA (vs := [.slice (some t28) 1 1, .slice pq s.xs.length pc]) fun t32 h5 f5 e5 o5 => ?_
   have z5 := f5.size
   refine fin (o4 := upT (upT (upT (upT o h.size k) h1.size k) h3.size (k + 2)) h4.size (k + 1)) (((f1.trans f3).trans f4).trans f5) (fun x hx => by rw [dY (by omega), dY (by omega), dY (by omega), dY (by omega)]) (LS _ _ _ _ 0) ⟨⟨some t28, 1, o5, Q4.fr0 f5, fun x hx => ?_⟩, fun i hi => ?_, ?_⟩ ((R3.fr0 f4).fr0 f5) fun x hx => ?_
   ·obtain ⟨ad, h1, h2⟩ := hx; cases h1
    rw [dY (by omega), ka (by omega)]
   ·have : i = 0 := by simpa using hi
    subst this
    exact ⟨Row.nil, fun x hx => (dJ hx).elim⟩
   ·rw [ka (by omega)]
   ·have h1 := hq3 x hx
    have h2 := R3.lt hx
    exact ⟨by omega, by rw [dY (by omega), dY h2, ka (by omega)]⟩
end Go.Proofs.YtjmfpeiidlpngaaGreatDoor.Au
namespace Go.Proofs.YtjmfpeiidlpngaaGreatDoor.Au
set_option linter.unusedSimpArgs false
set_option linter.unusedVariables false
set_option maxRecDepth 20000
open Go
structure Lk (sg : List St) (ws : List Nm) (E : Nm → List Nat) (D : Nat → Prop) (Qs : List Nat) : Prop where
 len : sg.length = ws.length
 nd : ws.Nodup
 z : ws[0]? = some []
 pre : ∀ w c, w ++ [c] ∈ ws → w ∈ ws
 root : D 0
 no : ∀ i (hi : i < sg.length) w (c : UInt8), ws[i]? = some w → ¬ D i → sg[i].nx c.toNat = 0 → w ++ [c] ∉ ws
 yes : ∀ i (hi : i < sg.length) w (c : UInt8), ws[i]? = some w → ¬ D i → sg[i].nx c.toNat ≠ 0 → ws[sg[i].nx c.toNat]? = some (w ++ [c])
 dn : ∀ i (hi : i < sg.length) w (c : UInt8), ws[i]? = some w → D i → ws[sg[i].nx c.toNat]? = some (ls ws (w ++ [c]))
 fa : ∀ i (hi : i < sg.length) w, ws[i]? = some w → D i ∨ i ∈ Qs → ws[sg[i].fa]? = some (fl ws w)
 ou : ∀ i (hi : i < sg.length) w, ws[i]? = some w → D i → ws[sg[i].ou]? = some (uu ws E w)
 en : ∀ i (hi : i < sg.length) w, ws[i]? = some w → sg[i].en = E w
 apart : ∀ i ∈ Qs, ¬ D i ∧ i < sg.length
 qnd : Qs.Nodup
 child : ∀ i j w c, ws[i]? = some (w ++ [c]) → ws[j]? = some w → D j → D i ∨ i ∈ Qs
 ord : ∀ p i q, Qs = p ++ i :: q → ∀ w, ws[i]? = some w → ∀ j v, ws[j]? = some v → v.length < w.length → D j ∨ j ∈ p
theorem Lk.all {sg : List St} {ws : List Nm} {E : Nm → List Nat} {D : Nat → Prop} (L : Lk sg ws E D []) : ∀ (n : Nat) (w : Nm), w.length ≤ n → ∀ i, ws[i]? = some w → D i := by
 intro n
 induction n with
 | zero =>
  intro w hw i hi
  have : w = [] := List.length_eq_zero_iff.1 (Nat.le_zero.1 hw)
  subst this
  rw [jr L.nd hi L.z]; exact L.root
 | succ n ih =>
  intro w hw i hi
  rcases List.eq_nil_or_concat w with h | ⟨u, c, h⟩
  ·subst h; rw [jr L.nd hi L.z]; exact L.root
  ·rw [List.concat_eq_append] at h
   subst h
   rw [List.length_append, List.length_singleton] at hw
   have hu := L.pre u c (List.mem_of_getElem? hi)
   obtain ⟨j, hj⟩ := List.getElem?_of_mem hu
   rcases L.child i j u c hi hj (ih u (by omega) j hj) with h | h
   ·exact h
   ·cases h
theorem Lk.words {sg : List St} {ws : List Nm} {E : Nm → List Nat} {D : Nat → Prop} {Qs : List Nat} (L : Lk sg ws E D Qs) : Pre ws := ⟨List.mem_of_getElem? L.z, L.pre⟩
theorem Lk.back {sg : List St} {ws : List Nm} {E : Nm → List Nat} {D : Nat → Prop} {i : Nat} {q : List Nat} (L : Lk sg ws E D (i :: q)) {w : Nm} (hw : ws[i]? = some w) (hi : i < sg.length) : ws[sg[i].fa]? = some (fl ws w) ∧ D sg[i].fa := by
 have hf := L.fa i hi w hw (.inr List.mem_cons_self)
 have hne : w ≠ [] := fun h => by
  subst h
  have := jr L.nd hw L.z
  subst this
  exact (L.apart 0 List.mem_cons_self).1 L.root
 refine ⟨hf, ?_⟩
 rcases L.ord [] i q rfl w hw _ _ hf (xJ w hne) with h | h
 ·exact h
 ·cases h
end Go.Proofs.YtjmfpeiidlpngaaGreatDoor.Au
namespace Go.Proofs.YtjmfpeiidlpngaaGreatDoor.Au
set_option linter.unusedSimpArgs false
set_option linter.unusedVariables false
set_option maxRecDepth 20000
open Go
def gt (sg : List St) (i : Nat) : St := sg.getD i qj
theorem gQ {sg : List St} {i : Nat} (hi : i < sg.length) : sg[i] = gt sg i := by
 unfold gt; rw [List.getD_eq_getElem?_getD, List.getElem?_eq_getElem hi]; rfl
theorem pN {sg : List St} {i : Nat} (hi : i < sg.length) (x : St) (j : Nat) : gt (sg.set i x) j = if i = j then x else gt sg j := by
 unfold gt
 rw [List.getD_eq_getElem?_getD, List.getD_eq_getElem?_getD, List.getElem?_set]
 by_cases h : i = j
 ·subst h; rw [if_pos rfl, if_pos rfl, if_pos hi]; rfl
 ·rw [if_neg h, if_neg h]
def oL (f : Nat → Nat) (n : Nat) : List Nat := ((List.range n).filter fun d => decide (f d ≠ 0)).map f
theorem mY (f : Nat → Nat) (n : Nat) : oL f (n + 1) = if f n = 0 then oL f n else oL f n ++ [f n] := by
 unfold oL
 rw [List.range_succ, List.filter_append, List.filter_cons, List.filter_nil]
 by_cases h : f n = 0
 ·rw [if_pos h, if_neg (by simp [h]), List.append_nil]
 ·rw [if_neg h, if_pos (by simp [h]), List.map_append]; rfl
theorem qA {f : Nat → Nat} {n i : Nat} : i ∈ oL f n ↔ ∃ d, d < n ∧ f d ≠ 0 ∧ f d = i := by
 unfold oL
 rw [List.mem_map]
 constructor
 ·rintro ⟨d, h1, h2⟩
  rw [List.mem_filter, List.mem_range] at h1
  exact ⟨d, h1.1, of_decide_eq_true h1.2, h2⟩
 ·rintro ⟨d, h1, h2, h3⟩
  exact ⟨d, List.mem_filter.2 ⟨List.mem_range.2 h1, decide_eq_true h2⟩, h3⟩
structure Inn (s0 sg : List St) (now : Nat) (f0 bk : Nat → Nat) (o' c : Nat) : Prop where
 len : sg.length = s0.length
 en : ∀ i, (gt sg i).en = (gt s0 i).en
 ou : ∀ i, (gt sg i).ou = if i = now then o' else (gt s0 i).ou
 nx : ∀ i d, d < 256 → (gt sg i).nx d = if i = now then (if d < c ∧ f0 d = 0 then bk d else f0 d) else (gt s0 i).nx d
 fa1 : ∀ d, d < c → f0 d ≠ 0 → (gt sg (f0 d)).fa = bk d
 fa0 : ∀ i, (∀ d, d < c → f0 d ≠ 0 → f0 d ≠ i) → (gt sg i).fa = (gt s0 i).fa
section
variable {s0 sg : List St} {now : Nat} {f0 bk : Nat → Nat} {o' c : Nat}
theorem Inn.no (I : Inn s0 sg now f0 bk o' c) (hc : c < 256) (hn : now < sg.length) (h0 : f0 c = 0) : Inn s0 (sg.set now { gt sg now with nx := vB (gt sg now).nx c (bk c) }) now f0 bk o' (c + 1) := by
 refine ⟨by rw [List.length_set]; exact I.len, fun i => ?_, fun i => ?_, fun i d hd => ?_, fun d hd hf => ?_, fun i hi => ?_⟩
 ·rw [pN hn]; split
  ·rename_i h; subst h; exact I.en now
  ·exact I.en i
 ·rw [pN hn]; split
  ·rename_i h; subst h; exact I.ou now
  ·exact I.ou i
 ·rw [pN hn]
  by_cases h : now = i
  ·subst h
   rw [if_pos rfl, if_pos rfl]
   show (if d = c then bk c else _) = _
   by_cases hdc : d = c
   ·subst hdc
    rw [if_pos rfl, if_pos ⟨by omega, h0⟩]
   ·rw [if_neg hdc, I.nx now d hd, if_pos rfl]
    by_cases h1 : d < c ∧ f0 d = 0
    ·rw [if_pos h1, if_pos ⟨by omega, h1.2⟩]
    ·rw [if_neg h1, if_neg (fun hh => h1 ⟨by omega, hh.2⟩)]
  ·rw [if_neg h, I.nx i d hd, if_neg (fun hh => h hh.symm), if_neg (fun hh => h hh.symm)]
 ·have hd2 : d < c := by
   by_cases h : d = c
   ·subst h; exact absurd h0 hf
   ·omega
  rw [pN hn]; split
  ·rename_i h
   show (gt sg now).fa = _
   have := I.fa1 d hd2 hf
   rw [← h] at this; exact this
  ·exact I.fa1 d hd2 hf
 ·have := I.fa0 i fun d hd => hi d (by omega)
  rw [pN hn]; split
  ·rename_i h; subst h; exact this
  ·exact this
theorem Inn.yes (I : Inn s0 sg now f0 bk o' c) (hc : c < 256) (hn : f0 c < sg.length) (h0 : f0 c ≠ 0) (hu : ∀ d, d < c → f0 d ≠ 0 → f0 d ≠ f0 c) : Inn s0 (sg.set (f0 c) { gt sg (f0 c) with fa := bk c }) now f0 bk o' (c + 1) := by
 refine ⟨by rw [List.length_set]; exact I.len, fun i => ?_, fun i => ?_, fun i d hd => ?_, fun d hd hf => ?_, fun i hi => ?_⟩
 ·rw [pN hn]; split
  ·rename_i h; subst h; exact I.en _
  ·exact I.en i
 ·rw [pN hn]; split
  ·rename_i h; rw [← h]; exact I.ou _
  ·exact I.ou i
 ·have e : (gt (sg.set (f0 c) { gt sg (f0 c) with fa := bk c }) i).nx d = (gt sg i).nx d := by
   rw [pN hn]; split
   ·rename_i h; rw [← h]
   ·rfl
  rw [e, I.nx i d hd]
  by_cases h : i = now
  ·rw [if_pos h, if_pos h]
   by_cases h1 : d < c ∧ f0 d = 0
   ·rw [if_pos h1, if_pos ⟨by omega, h1.2⟩]
   ·rw [if_neg h1, if_neg (fun hh => h1 ⟨by
     by_cases hdc : d = c
     ·subst hdc; exact absurd hh.2 h0
     ·omega, hh.2⟩)]
  ·rw [if_neg h, if_neg h]
 ·by_cases hdc : d = c
  ·subst hdc; rw [pN hn, if_pos rfl]
  ·rw [pN hn, if_neg (hu d (by omega) hf).symm]
   exact I.fa1 d (by omega) hf
 ·rw [pN hn, if_neg (hi c (by omega) h0)]
  exact I.fa0 i fun d hd => hi d (by omega)
end
structure Lq (sg : List St) (ws : List Nm) (E : Nm → List Nat) (D : Nat → Prop) (Qs : List Nat) : Prop extends Lk sg ws E D Qs where
 up : ∀ i j w c, ws[i]? = some (w ++ [c]) → ws[j]? = some w → D i ∨ i ∈ Qs → D j
theorem Ao {d : Nat} (hd : d < 256) : ∃ c : UInt8, c.toNat = d := ⟨UInt8.ofNat d, by rw [UInt8.toNat_ofNat']; omega⟩
section
variable {sg : List St} {ws : List Nm} {E : Nm → List Nat} {D : Nat → Prop} {now : Nat} {q : List Nat}
theorem Lk.lt {Qs : List Nat} (L : Lk sg ws E D Qs) {i : Nat} {w : Nm} (h : ws[i]? = some w) : i < sg.length := by
 rw [L.len]; exact (List.getElem?_eq_some_iff.1 h).1
theorem Lk.word {Qs : List Nat} (L : Lk sg ws E D Qs) {i : Nat} (h : i < sg.length) : ∃ w, ws[i]? = some w :=
 ⟨_, List.getElem?_eq_getElem (by rw [← L.len]; exact h)⟩
theorem Lq.pop {s0 : List St} (L : Lq s0 ws E D (now :: q)) {w : Nm} (hw : ws[now]? = some w) {o' : Nat} (ho : ws[o']? = some (uu ws E w)) (I : Inn s0 sg now (gt s0 now).nx (gt s0 (gt s0 now).fa).nx o' 256) :
  Lq sg ws E (fun i => D i ∨ i = now) (q ++ oL (gt s0 now).nx 256) := by
 have P := L.words
 have hap := L.apart now List.mem_cons_self
 have hnow := hap.2
 have hb := L.back hw hnow
 rw [gQ hnow] at hb
 generalize hbe : (gt s0 now).fa = b at *
 have hbl := L.lt hb.1
 have hne : w ≠ [] := fun h => by
  subst h
  have := jr L.nd hw L.z
  subst this; exact hap.1 L.root
 generalize hf0 : (gt s0 now).nx = f0 at *
 have kyes : ∀ c : UInt8, f0 c.toNat ≠ 0 → ws[f0 c.toNat]? = some (w ++ [c]) := fun c hc => by
  have := L.yes now hnow w c hw hap.1 (by rw [gQ hnow, hf0]; exact hc)
  rw [gQ hnow, hf0] at this; exact this
 have kno : ∀ c : UInt8, f0 c.toNat = 0 → w ++ [c] ∉ ws := fun c hc => L.no now hnow w c hw hap.1 (by rw [gQ hnow, hf0]; exact hc)
 have kid : ∀ i, i ∈ oL f0 256 → ∃ c : UInt8, f0 c.toNat = i ∧ ws[i]? = some (w ++ [c]) := fun i hi => by
  obtain ⟨d, h1, h2, h3⟩ := qA.1 hi
  obtain ⟨c, rfl⟩ := Ao h1
  subst h3
  exact ⟨c, rfl, kyes c h2⟩
 have kapart : ∀ i, i ∈ oL f0 256 → ¬ D i ∧ i ∉ now :: q := fun i hi => by
  obtain ⟨c, _, h2⟩ := kid i hi
  exact ⟨fun h => hap.1 (L.up i now w c h2 hw (.inl h)), fun h => hap.1 (L.up i now w c h2 hw (.inr h))⟩
 have bk : ∀ c : UInt8, ws[(gt s0 b).nx c.toNat]? = some (ls ws (fl ws w ++ [c])) := fun c => by
  have := L.dn b hbl _ c hb.1 hb.2
  rw [gQ hbl] at this; exact this
 have hqn := L.qnd
 rw [List.nodup_cons] at hqn
 have len := I.len
 have hshort : ∀ j v, ws[j]? = some v → v.length ≤ w.length → (D j ∨ j = now) ∨ j ∈ q := fun j v hj hv => by
  by_cases hlt : v.length < w.length
  ·rcases L.ord [] now q rfl w hw j v hj hlt with h | h
   ·exact .inl (.inl h)
   ·cases h
  ·rcases List.eq_nil_or_concat v with h | ⟨u, c, h⟩
   ·subst h; exact .inl (.inl (by rw [jr L.nd hj L.z]; exact L.root))
   ·rw [List.concat_eq_append] at h
    subst h
    rw [List.length_append, List.length_singleton] at hv
    obtain ⟨m, hm⟩ := List.getElem?_of_mem (L.pre u c (List.mem_of_getElem? hj))
    have hDm : D m := by
     rcases L.ord [] now q rfl w hw m u hm (by omega) with h | h
     ·exact h
     ·cases h
    rcases L.child j m u c hj hm hDm with h | h
    ·exact .inl (.inl h)
    ·rcases List.mem_cons.1 h with h | h
     ·exact .inl (.inr h)
     ·exact .inr h
 refine ⟨⟨by rw [len]; exact L.len, L.nd, L.z, L.pre, .inl L.root, ?_, ?_, ?_, ?_, ?_, ?_, ?_, ?_, ?_, ?_⟩, ?_⟩
 ·intro i hi v c hv hD hz
  rw [gQ hi, I.nx i _ c.toNat_lt, if_neg (fun h => hD (.inr h)), ← gQ (by omega)] at hz
  exact L.no i (by omega) v c hv (fun h => hD (.inl h)) hz
 ·intro i hi v c hv hD hz
  rw [gQ hi, I.nx i _ c.toNat_lt, if_neg (fun h => hD (.inr h)), ← gQ (by omega)] at hz ⊢
  exact L.yes i (by omega) v c hv (fun h => hD (.inl h)) hz
 ·intro i hi v c hv hD
  rw [gQ hi, I.nx i _ c.toNat_lt]
  by_cases hin : i = now
  ·subst hin
   have hvw : v = w := Option.some.inj (hv.symm.trans hw)
   subst hvw
   rw [if_pos rfl]
   by_cases h0 : f0 c.toNat = 0
   ·rw [if_pos ⟨c.toNat_lt, h0⟩, bk c, ← Jv P v hne c (kno c h0)]
   ·rw [if_neg (fun hh => h0 hh.2), kyes c h0, E7 (List.mem_of_getElem? (kyes c h0))]
  ·rw [if_neg hin, ← gQ (by omega)]
   exact L.dn i (by omega) v c hv (hD.resolve_right hin)
 ·intro i hi v hv hm
  rw [gQ hi]
  by_cases hk : i ∈ oL f0 256
  ·obtain ⟨c, h1, h2⟩ := kid i hk
   have hvw : v = w ++ [c] := Option.some.inj (hv.symm.trans h2)
   subst hvw
   obtain ⟨d, hd1, hd2, hd3⟩ := qA.1 hk
   obtain ⟨c', rfl⟩ := Ao hd1
   have h3 := kyes c' hd2
   rw [hd3, h2] at h3
   have hcc : c = c' := by
    have := (List.append_inj' (Option.some.inj h3) rfl).2
    exact (List.cons.inj this).1
   subst hcc
   have := I.fa1 c.toNat c.toNat_lt hd2
   rw [h1] at this
   rw [this, bk c, Dv P w hne c]
  ·rw [I.fa0 i fun d hd hf hh => hk (qA.2 ⟨d, hd, hf, hh⟩), ← gQ (by omega)]
   refine L.fa i (by omega) v hv ?_
   rcases hm with (h | h) | h
   ·exact .inl h
   ·exact .inr (h ▸ List.mem_cons_self)
   ·rcases List.mem_append.1 h with h | h
    ·exact .inr (List.mem_cons_of_mem _ h)
    ·exact absurd h hk
 ·intro i hi v hv hD
  rw [gQ hi, I.ou]
  by_cases hin : i = now
  ·subst hin
   have hvw : v = w := Option.some.inj (hv.symm.trans hw)
   rw [if_pos rfl, hvw]; exact ho
  ·rw [if_neg hin, ← gQ (by omega)]
   exact L.ou i (by omega) v hv (hD.resolve_right hin)
 ·intro i hi v hv
  rw [gQ hi, I.en, ← gQ (by omega)]
  exact L.en i (by omega) v hv
 ·intro i hi
  rcases List.mem_append.1 hi with h | h
  ·have h1 := L.apart i (List.mem_cons_of_mem _ h)
   exact ⟨fun hh => hh.elim h1.1 fun e => hqn.1 (e ▸ h), by omega⟩
  ·obtain ⟨c, _, h2⟩ := kid i h
   have h3 := kapart i h
   exact ⟨fun hh => hh.elim h3.1 fun e => h3.2 (e ▸ List.mem_cons_self), by rw [len]; exact L.lt h2⟩
 ·refine List.nodup_append.2 ⟨hqn.2, ?_, fun a ha b hb hab => ?_⟩
  ·unfold oL
   refine List.pairwise_map.2 ?_
   have hp : (List.range 256).Pairwise fun a b => a < b := List.pairwise_lt_range
   rw [List.pairwise_filter]
   refine hp.imp_of_mem fun {a b} ha hb hab h1 h2 he => ?_
   obtain ⟨x, rfl⟩ := Ao (List.mem_range.1 ha)
   obtain ⟨y, rfl⟩ := Ao (List.mem_range.1 hb)
   have e1 := kyes x (of_decide_eq_true h1)
   have e2 := kyes y (of_decide_eq_true h2)
   rw [he, e2] at e1
   have := (List.append_inj' (Option.some.inj e1) rfl).2
   have := (List.cons.inj this).1
   subst this; omega
  ·subst hab; exact (kapart a hb).2 (List.mem_cons_of_mem _ ha)
 ·intro i j v c hi hj hD
  by_cases hjn : j = now
  ·subst hjn
   have hvw : v = w := Option.some.inj (hj.symm.trans hw)
   subst hvw
   by_cases h0 : f0 c.toNat = 0
   ·exact absurd (List.mem_of_getElem? hi) (kno c h0)
   ·have := jr L.nd (kyes c h0) hi
    exact .inr (List.mem_append_right _ (qA.2 ⟨c.toNat, c.toNat_lt, h0, this⟩))
  ·rcases L.child i j v c hi hj (hD.resolve_right hjn) with h | h
   ·exact .inl (.inl h)
   ·rcases List.mem_cons.1 h with h | h
    ·exact .inl (.inr h)
    ·exact .inr (List.mem_append_left _ h)
 ·intro p i q' he v hv j u hj hlt
  rcases List.append_eq_append_iff.1 he with ⟨a', h1, h2⟩ | ⟨c', h1, h2⟩
  ·
   have hik : i ∈ oL f0 256 := by rw [h2]; simp
   obtain ⟨c, _, h3⟩ := kid i hik
   have hvw : v = w ++ [c] := Option.some.inj (hv.symm.trans h3)
   subst hvw
   rw [List.length_append, List.length_singleton] at hlt
   rcases hshort j u hj (by omega) with h | h
   ·exact .inl h
   ·exact .inr (by rw [h1]; exact List.mem_append_left _ h)
  ·cases c' with
   | nil =>
    rw [List.nil_append] at h2
    have hik : i ∈ oL f0 256 := by rw [← h2]; simp
    obtain ⟨c, _, h3⟩ := kid i hik
    have hvw : v = w ++ [c] := Option.some.inj (hv.symm.trans h3)
    subst hvw
    rw [List.length_append, List.length_singleton] at hlt
    rcases hshort j u hj (by omega) with h | h
    ·exact .inl h
    ·rw [List.append_nil] at h1
     exact .inr (by rw [← h1]; exact h)
   | cons x c' =>
    rw [List.cons_append, List.cons.injEq] at h2
    obtain ⟨rfl, h2⟩ := h2
    rcases L.ord (now :: p) i c' (by rw [h1]; rfl) v hv j u hj hlt with h | h
    ·exact .inl (.inl h)
    ·rcases List.mem_cons.1 h with h | h
     ·exact .inl (.inr h)
     ·exact .inr h
 ·intro i j v c hi hj hD
  rcases hD with (h | h) | h
  ·exact .inl (L.up i j v c hi hj (.inl h))
  ·exact .inl (L.up i j v c hi hj (.inr (h ▸ List.mem_cons_self)))
  ·rcases List.mem_append.1 h with h | h
   ·exact .inl (L.up i j v c hi hj (.inr (List.mem_cons_of_mem _ h)))
   ·obtain ⟨d, _, h3⟩ := kid i h
    have := (List.append_inj' (Option.some.inj (hi.symm.trans h3)) rfl).1
    subst this
    exact .inr (jr L.nd hj hw)
theorem sG.start (T : sG sg ws E) : Lq sg ws E (fun i => i ∈ [0]) (oL (gt sg 0).nx 256) := by
 have P : Pre ws := ⟨List.mem_of_getElem? T.z, T.pre⟩
 have h0 := T.lt T.z
 generalize hf0 : (gt sg 0).nx = f0
 have kyes : ∀ c : UInt8, f0 c.toNat ≠ 0 → ws[f0 c.toNat]? = some [c] := fun c hc => by
  have := T.yes 0 h0 [] c T.z (by rw [gQ h0, hf0]; exact hc)
  rw [gQ h0, hf0] at this; exact this
 have kno : ∀ c : UInt8, f0 c.toNat = 0 → [c] ∉ ws := fun c hc => T.no 0 h0 [] c T.z (by rw [gQ h0, hf0]; exact hc)
 have kid : ∀ i, i ∈ oL f0 256 → ∃ c : UInt8, f0 c.toNat = i ∧ ws[i]? = some [c] := fun i hi => by
  obtain ⟨d, h1, h2, h3⟩ := qA.1 hi
  obtain ⟨c, rfl⟩ := Ao h1
  subst h3
  exact ⟨c, rfl, kyes c h2⟩
 have z : ∀ {i : Nat}, i ∈ [0] → i = 0 := fun h => List.mem_singleton.1 h
 have nz : ∀ {i : Nat} {c : UInt8}, ws[i]? = some [c] → i ≠ 0 := fun h e => by subst e; have := Option.some.inj (h.symm.trans T.z); cases this
 have lsn : ls ws [] = [] := rfl
 refine ⟨⟨T.len, T.nd, T.z, T.pre, List.mem_singleton.2 rfl, fun i hi v c hv _ => T.no i hi v c hv, fun i hi v c hv _ => T.yes i hi v c hv, ?_, ?_, ?_, T.en, ?_, ?_, ?_, ?_⟩, ?_⟩
 ·intro i hi v c hv hD
  have := z hD
  subst this
  have hvn : v = [] := Option.some.inj (hv.symm.trans T.z)
  subst hvn
  rw [gQ hi, hf0]
  by_cases hc : f0 c.toNat = 0
  ·rw [hc, T.z]
   congr 1
   show [] = ls ws [c]
   unfold ls; rw [if_neg (kno c hc)]; rfl
  ·rw [kyes c hc]
   congr 1
   exact (E7 (List.mem_of_getElem? (kyes c hc))).symm
 ·intro i hi v hv hm
  rw [(T.fo i hi).1, T.z]
  congr 1
  rcases hm with h | h
  ·have := z h
   subst this
   have hvn : v = [] := Option.some.inj (hv.symm.trans T.z)
   subst hvn; rfl
  ·obtain ⟨c, _, h2⟩ := kid i h
   have hvn : v = [c] := Option.some.inj (hv.symm.trans h2)
   subst hvn; rfl
 ·intro i hi v hv hD
  have := z hD
  subst this
  have hvn : v = [] := Option.some.inj (hv.symm.trans T.z)
  subst hvn
  rw [(T.fo 0 hi).2, T.z, sF]
 ·intro i hi
  obtain ⟨c, _, h2⟩ := kid i hi
  exact ⟨fun h => nz h2 (z h), T.lt h2⟩
 ·unfold oL
  refine List.pairwise_map.2 ?_
  have hp : (List.range 256).Pairwise fun a b => a < b := List.pairwise_lt_range
  rw [List.pairwise_filter]
  refine hp.imp_of_mem fun {a b} ha hb hab h1 h2 he => ?_
  obtain ⟨x, rfl⟩ := Ao (List.mem_range.1 ha)
  obtain ⟨y, rfl⟩ := Ao (List.mem_range.1 hb)
  have e1 := kyes x (of_decide_eq_true h1)
  have e2 := kyes y (of_decide_eq_true h2)
  rw [he, e2] at e1
  have := (List.cons.inj (Option.some.inj e1)).1
  subst this; omega
 ·intro i j v c hi hj hD
  have := z hD
  subst this
  have hvn : v = [] := Option.some.inj (hj.symm.trans T.z)
  subst hvn
  by_cases hc : f0 c.toNat = 0
  ·exact absurd (List.mem_of_getElem? hi) (kno c hc)
  ·exact .inr (qA.2 ⟨c.toNat, c.toNat_lt, hc, jr T.nd (kyes c hc) hi⟩)
 ·intro p i q' he v hv j u hj hlt
  obtain ⟨c, _, h2⟩ := kid i (by rw [he]; simp)
  have hvn : v = [c] := Option.some.inj (hv.symm.trans h2)
  subst hvn
  have : u = [] := List.length_eq_zero_iff.1 (by simpa using hlt)
  subst this
  exact .inl (List.mem_singleton.2 (jr T.nd hj T.z))
 ·intro i j v c hi hj hD
  rcases hD with h | h
  ·have := z h
   subst this
   have := Option.some.inj (hi.symm.trans T.z)
   simp at this
  ·obtain ⟨d, _, h2⟩ := kid i h
   have := (List.append_inj' (s₁ := v) (s₂ := []) (Option.some.inj (hi.symm.trans h2)) rfl).1
   subst this
   exact List.mem_singleton.2 (jr T.nd hj T.z)
structure zG (sg : List St) (ws : List Nm) (E : Nm → List Nat) : Prop where
 len : sg.length = ws.length
 nd : ws.Nodup
 z : ws[0]? = some []
 pre : ∀ w c, w ++ [c] ∈ ws → w ∈ ws
 nx : ∀ i (hi : i < sg.length) w (c : UInt8), ws[i]? = some w → ws[sg[i].nx c.toNat]? = some (ls ws (w ++ [c]))
 ou : ∀ i (hi : i < sg.length) w, ws[i]? = some w → ws[sg[i].ou]? = some (uu ws E w)
 en : ∀ i (hi : i < sg.length) w, ws[i]? = some w → sg[i].en = E w
theorem Lk.done (L : Lk sg ws E D []) : zG sg ws E :=
 ⟨L.len, L.nd, L.z, L.pre, fun i hi w c hw => L.dn i hi w c hw (L.all _ w (Nat.le_refl _) i hw), fun i hi w hw => L.ou i hi w hw (L.all _ w (Nat.le_refl _) i hw), L.en⟩
end
end Go.Proofs.YtjmfpeiidlpngaaGreatDoor.Au
namespace Go.Proofs.YtjmfpeiidlpngaaGreatDoor
set_option linter.unusedSimpArgs false
set_option linter.unusedVariables false
set_option maxRecDepth 20000
open Go
def Dc (h : aA) (a : Option Addr) (cap sz : Nat) (cs : List Value) : Prop :=
 match a with
 | none => cs = [] ∧ cap = 0
 | some ad => ad.spot = none ∧ ∃ ds t fr, I9 ds.size fr ∧ h[ad.block]? = some (.cells ds t fr) ∧ ad.off + cap * sz ≤ ds.size ∧ ad.off + cs.length ≤ ds.size ∧ ∀ i (hi : i < cs.length), ds[ad.off + i]? = some cs[i]
theorem Dc.fr {S : Nat → Prop} {h h' : aA} {a : Option Addr} {cap sz : Nat} {cs : List Value} (ho : Dc h a cap sz cs) (hf : Fr S h h') (hs : ∀ b, InA a b → ¬ S b) : Dc h' a cap sz cs := by
 cases a with
 | none => exact ho
 | some ad =>
  obtain ⟨h2, ds, t, fr, hfr, hg, hr⟩ := ho
  exact ⟨h2, ds, t, fr, hfr, hf.get hg (hs _ ⟨ad, rfl, rfl⟩), hr⟩
theorem Dc.cells {h : aA} {ad : Addr} {cap sz : Nat} {cs : List Value} (ho : Dc h (some ad) cap sz cs) : bB h ad cs := by
 obtain ⟨h2, ds, t, fr, hfr, hg, _, _, hc⟩ := ho
 intro j hj
 obtain ⟨b, o, s⟩ := ad
 simp only at h2 hg hc
 subst h2
 rw [gT, kN hg]; exact hc j hj
section
variable {P : Program} {h : aA}
theorem CP {sT xT ty el : TypeId} {consts : Array Bool} {i : TypeInfo} {z : Value} {d : TypeDesc} (t : gW P sT el i z) (hX : P.underlying xT = some d) (hd : ∀ k, d ≠ .int k)
  {a : Option Addr} {n cap m : Nat} {cs xs : List Value} {x : Value} (ho : Dc h a cap i.size cs) (hn : cs.length = n * i.size) (hnc : n ≤ cap) (s : Src h i.size x m xs) (hv : ∀ v ∈ xs, eQ v = true)
  (hlim : (8 * (n + m) + 4000) * i.bytes ≤ 2 ^ 48) {K : Value → aA → Prop}
  (hk : ∀ (a' : Option Addr) (cap' : Nat) (h' : aA), Dc h' a' cap' i.size (cs ++ xs) → n + m ≤ cap' → Fr (InA a) h h' → (∀ b, InA a' b → InA a b ∨ h.size ≤ b) → K (.slice a' (n + m) cap') h') :
  dU P .append #[sT, xT] ty consts #[.slice a n cap, x] h K := by
 have hxl := s.len
 unfold dU builtin
 simp only [bind]
 rw [aQ]
 unfold Builtin.append_
 simp only [List.getElem?_toArray, List.getElem?_cons_zero, List.getElem?_cons_succ, bind]
 rw [aQ]
 refine bT t.und ?_
 simp only
 rw [aQ]
 refine r4 (by rw [t.info]; rfl) ?_
 have hsz : gV P el = i.size := by simp [gV, t.info]
 rw [hsz, aQ]
 refine bT hX ?_
 have hfalse : (match d with | .int _ => true | _ => false) = false := by
  cases d <;> first | rfl | exact absurd rfl (hd _)
 simp only [pure, Sem.bind, hfalse]
 simp only [Bool.false_eq_true, if_false]
 rw [aQ]
 refine Fk s ?_
 split
 case isTrue hle =>
  rw [aQ]
  refine qt s ?_
  cases a with
  | none =>
   obtain ⟨rfl, rfl⟩ := ho
   have hm : m = 0 := by omega
   have hn0 : n = 0 := by omega
   subst hm hn0
   have : xs = [] := by rw [← List.length_eq_zero_iff, hxl]; simp
   subst this
   exact hk none 0 h ⟨rfl, rfl⟩ (by omega) (Fr.refl _ _) (fun b hb => .inl hb)
  | some ad =>
   obtain ⟨h2, ds, ty', fr, hfr, hg, hcap, hlen, hc⟩ := ho
   obtain ⟨b, o, sp⟩ := ad
   simp only at h2 hg hcap hlen hc
   subst h2
   simp only
   rw [aQ]
   have hadd : ∀ j, (Addr.add (Addr.add ⟨b, o, none⟩ (n * i.size)) j) = ⟨b, (o + n * i.size) + j, none⟩ := fun j => by rw [gT, gT]
   have hfit : (o + n * i.size) + xs.length ≤ ds.size := by
    have : (n + m) * i.size ≤ cap * i.size := Nat.mul_le_mul_right _ hle
    rw [Nat.add_mul] at this
    omega
   refine sB hadd xs 0 ds h hg hfr hv (by omega) ?_
   simp only [Nat.add_zero, pure, wpH, nxK]
   refine hk _ _ _ ⟨rfl, _, ty', fr, by rw [iI]; exact hfr, lU hg, ?_, ?_, ?_⟩ hle (Fr.set _ _ ⟨_, rfl, rfl⟩) (fun b hb => .inl hb)
   ·rw [iI]; exact hcap
   ·rw [iI, List.length_append]; show o + _ ≤ _; omega
   ·intro j hj
    rw [qD _ _ _ hfit]
    rw [List.length_append] at hj
    show (if _ then _ else ds[o + j]?) = _
    by_cases hjn : j < cs.length
    ·rw [if_neg (by show ¬ (_ ≤ o + j ∧ _); omega), hc j hjn, List.getElem_append_left hjn]
    ·rw [if_pos (by show _ ≤ o + j ∧ o + j < _; omega), List.getElem_append_right (by omega), List.getElem?_eq_getElem (by show o + j - _ < _; omega)]
     congr 2; show o + j - _ = _; omega
 case isFalse hgt =>
  have hgt' : cap < n + m := by omega
  rw [aQ]
  have hp : (2 : Nat) ^ 48 = 281474976710656 := by decide
  have hb1 : 1 ≤ i.bytes := t.bytes
  have hneed : 8 * (n + m) + 4000 ≤ 2 ^ 48 := Nat.le_trans (Nat.le_mul_of_pos_right _ t.bytes) hlim
  refine kF t.info ?_
  have c1 : ¬ (((n + m : Nat) : Int) > IntKind.i64.max ∧ (False ∨ i.bytes = 0)) := by
   rintro ⟨_, h | h⟩
   ·exact h
   ·omega
  rw [if_neg c1]
  rw [aQ]
  refine kF t.info ?_
  have c2 : ¬ (Builtin.nextslicecap (n + m) cap * i.bytes > 2 ^ 48) := by
   have := Nat.mul_le_mul_right i.bytes (zn hgt')
   omega
  rw [if_neg c2]
  rw [aQ]
  unfold choose
  refine ⟨fun q => ?_, fun hq => by simp [Question.forced] at hq⟩
  simp only [wpH, Question.cut]
  rw [aQ]
  refine kF t.info ?_
  have room : ∀ {K : Unit → aA → Prop} {b : Nat} {h : aA}, K () h → wpH P (askRoom b) K h := fun hk => by
   unfold askRoom; split <;> exact hk
  rw [aQ]
  refine room ?_
  rw [aQ]
  have sold : Src h i.size (.slice a n cap) n cs := by
   cases a with
   | none =>
    obtain ⟨rfl, rfl⟩ := ho
    have : n = 0 := by omega
    subst this; exact .nil _
   | some ad => exact .sl ad n cap cs hn ho.cells
  refine qt sold ?_
  rw [aQ]
  refine qt s ?_
  rw [aQ]
  have zr : ∀ {K : Value → aA → Prop} {h : aA}, K z h → wpH P (zeroValue el) K h := fun hk => by
   unfold zeroValue; simp only [bind]; rw [aQ]; refine kF t.info ?_; rw [t.zero]; exact hk
  refine zr ?_
  rw [aQ]
  unfold newRow newObj
  simp only [bind, Sem.bind, wpH, pure, nxK]
  refine hk _ _ _ ⟨rfl, _, _, (0, 0), .inl rfl, dD, ?_, ?_, ?_⟩ (by omega) (Fr.push _ _ _) (fun b hb => ?_)
  ·simp only [Array.size_append, qS, t.size]
   simp only [List.size_toArray, hn, hxl, Nat.zero_add]
   rw [← Nat.add_mul, ← Nat.add_mul]
   exact Nat.mul_le_mul_right _ (by omega)
  ·simp only [Array.size_append, List.size_toArray, List.length_append]; omega
  ·intro j hj
   have hja : j < (cs.toArray ++ xs.toArray).size := by simpa using hj
   rw [Nat.zero_add, Array.getElem?_append_left hja]
   simp only [List.append_toArray, List.getElem?_toArray]
   exact List.getElem?_eq_getElem hj
  ·obtain ⟨ad, he, rfl⟩ := hb
   cases he
   exact .inr (Nat.le_refl _)
end
structure Que {α : Type} (sz : Nat) (vals : α → List Value) (h : aA) (p : Option Addr) (cap : Nat) (L : List α) : Prop where
 own : Dc h p cap sz (L.flatMap vals)
 le : L.length ≤ cap
section
variable {α : Type} {sz : Nat} {vals : α → List Value} {h : aA} {p : Option Addr} {cap : Nat} {L : List α}
theorem Que.nil : Que sz vals h none 0 ([] : List α) := ⟨⟨rfl, rfl⟩, Nat.le_refl _⟩
theorem Que.fr {S : Nat → Prop} {h' : aA} (R : Que sz vals h p cap L) (f : Fr S h h') (hs : ∀ b, InA p b → ¬ S b) : Que sz vals h' p cap L := ⟨R.own.fr f hs, R.le⟩
theorem Que.fr0 {h' : aA} (f : Fr (fun _ => False) h h') (R : Que sz vals h p cap L) : Que sz vals h' p cap L := R.fr f fun _ _ => id
theorem Que.cellsAt (R : Que sz vals h p cap L) (hv : ∀ x, (vals x).length = sz) (h0 : 0 < sz) (i : Nat) (hi : i < L.length) : ∃ ad, p = some ad ∧ bB h (ad.add (i * sz)) (vals L[i]) := by
 cases p with
 | none =>
  have := R.own.1
  rw [List.flatMap_eq_nil_iff] at this
  have h1 := hv L[i]
  rw [this _ (List.getElem_mem hi)] at h1
  simp at h1; omega
 | some ad =>
  refine ⟨ad, rfl, fun j hj => ?_⟩
  rw [lY]
  refine R.own.cells.at ?_
  rw [uN hv L i j hi (by rw [hv] at hj; exact hj), List.getElem?_eq_getElem hj]
theorem Que.idx (R : Que sz vals h p cap L) (hv : ∀ x, (vals x).length = sz) (h0 : 0 < sz) {n : Int} (i : Nat) (hn : n = i) (hi : i < L.length) {K : Addr → Prop} (hk : ∀ ad, bB h (ad.add (i * sz)) (vals L[i]) → K ad) : bR n L.length (nn p fun a => K a) := by
 refine bS i hn hi ?_
 obtain ⟨ad, rfl, c⟩ := R.cellsAt hv h0 i hi
 exact aS (hk ad c)
theorem Que.pop {x : α} {L : List α} (R : Que sz vals h p cap (x :: L)) (hv : ∀ x, (vals x).length = sz) (h0 : 0 < sz) {K : Option Addr → Nat → Nat → Prop} (hk : ∀ p' cap', (∀ b, InA p' b → InA p b) → Que sz vals h p' cap' L → K p' L.length cap') :
  gL sz p (x :: L).length cap (some 1) none none K := by
 have hle := R.le
 rw [List.length_cons] at hle
 have hx := hv x
 unfold gL
 refine ⟨by omega, by rw [List.length_cons]; omega, ?_⟩
 have e1 : (1 : Int).toNat = 1 := rfl
 rw [e1, List.length_cons, Nat.add_sub_cancel]
 cases p with
 | none => exact absurd R.own.2 (by omega)
 | some ad =>
  obtain ⟨h2, ds, t, fr, hfr, hg, hcap, hlen, hc⟩ := R.own
  rw [List.flatMap_cons, List.length_append, hx] at hlen
  by_cases hc1 : cap = 1
  ·rw [if_pos hc1]
   have hL : L = [] := List.length_eq_zero_iff.1 (by omega)
   subst hL
   exact hk _ _ (fun b hb => hb) ⟨⟨h2, ds, t, fr, hfr, hg, by subst hc1; omega, by simp at hlen ⊢; omega, fun i hi => absurd hi (Nat.not_lt_zero _)⟩, Nat.zero_le _⟩
  ·rw [if_neg hc1]
   obtain ⟨b, o, sp⟩ := ad
   simp only at h2 hg hcap hlen hc
   subst h2
   have ea : (Option.map (fun x => Addr.add x (1 * sz)) (some (⟨b, o, none⟩ : Addr))) = some ⟨b, o + sz, none⟩ := by
    show some (Addr.add _ _) = _
    rw [gT, Nat.one_mul]
   rw [ea]
   refine hk _ _ (fun x hx => by obtain ⟨ad, he, hb⟩ := hx; cases he; exact ⟨_, rfl, hb⟩) ⟨⟨rfl, ds, t, fr, hfr, hg, ?_, ?_, fun i hi => ?_⟩, by omega⟩
   ·have : cap * sz = sz + (cap - 1) * sz := by
     obtain ⟨c, rfl⟩ : ∃ c, cap = c + 1 := ⟨cap - 1, by omega⟩
     rw [Nat.succ_mul, Nat.add_sub_cancel]; omega
    show o + sz + _ ≤ _
    omega
   ·show o + sz + _ ≤ _; omega
   ·have := hc (sz + i) (by rw [List.flatMap_cons, List.length_append, hx]; omega)
    show ds[o + sz + i]? = _
    rw [Nat.add_assoc, this]
    congr 1
    rw [List.getElem_append_right' (vals x) hi]
    simp only [hx, List.flatMap_cons]
    congr 1
    omega
theorem Que.appL {P : Program} {sT xT ty el : TypeId} {consts : Array Bool} {i : TypeInfo} {z : Value} {d : TypeDesc} (t : gW P sT el i z) (hX : P.underlying xT = some d) (hd : ∀ k, d ≠ .int k) (hz : i.size = sz) (hb : i.bytes ≤ 2000) (hv : ∀ x, (vals x).length = sz) (hc : ∀ x, (vals x).all eQ = true)
  (R : Que sz vals h p cap L) {M : List α} {x : Value} (s : Src h sz x M.length (M.flatMap vals)) (hl : L.length + M.length ≤ 2 ^ 30) {K : Value → aA → Prop}
  (hk : ∀ p' cap' h', Que sz vals h' p' cap' (L ++ M) → Fr (InA p) h h' → (∀ b, InA p' b → InA p b ∨ h.size ≤ b) → K (.slice p' (L ++ M).length cap') h') :
  dU P .append #[sT, xT] ty consts #[.slice p L.length cap, x] h K := by
 subst hz
 refine CP t hX hd (m := M.length) (xs := M.flatMap vals) R.own (mz hv L) R.le s (AV hc M) (lim hb hl) fun p' c' h' o' hc' f hn => ?_
 have el : L.length + M.length = (L ++ M).length := by simp
 rw [el] at hc' ⊢
 refine hk p' c' h' ⟨?_, hc'⟩ f hn
 rw [List.flatMap_append]; exact o'
theorem Que.app {P : Program} {sT xT ty el T : TypeId} {consts : Array Bool} {i : TypeInfo} {z : Value} {d : TypeDesc} (t : gW P sT el i z) (hX : P.underlying xT = some d) (hd : ∀ k, d ≠ .int k) (hz : i.size = sz) (hb : i.bytes ≤ 2000) (hv : ∀ x, (vals x).length = sz) (hc : ∀ x, (vals x).all eQ = true)
  (R : Que sz vals h p cap L) {e : α} {b : Addr} (ob : Own h b (vals e) T) (c : Nat) (hl : L.length ≤ 2 ^ 29) {K : Value → aA → Prop}
  (hk : ∀ p' cap' h', Que sz vals h' p' cap' (L ++ [e]) → Fr (InA p) h h' → (∀ b, InA p' b → InA p b ∨ h.size ≤ b) → K (.slice p' (L ++ [e]).length cap') h') :
  dU P .append #[sT, xT] ty consts #[.slice p L.length cap, .slice (some b) 1 c] h K := by
 have s : Src h sz (.slice (some b) 1 c) [e].length ([e].flatMap vals) := by
  have : [e].flatMap vals = vals e := by simp
  rw [this]; exact Src.sl b 1 c (vals e) (by rw [hv]; simp) ob.cells
 exact R.appL t hX hd hz hb hv hc s (by simp only [List.length_singleton]; omega) hk
end
end Go.Proofs.YtjmfpeiidlpngaaGreatDoor
namespace Go.Proofs.YtjmfpeiidlpngaaGreatDoor.Au
set_option linter.unusedSimpArgs false
set_option linter.unusedVariables false
set_option maxRecDepth 20000
open Go
open Go.IntKind (wrap)
def Dj (n : Nat) : List Value := [.int .u16 n]
theorem wM (n : Nat) : (Dj n).length = 1 := rfl
theorem Hy : gW Tryz.prog lI zu Tryz.t170 (.int .u16 0) := ⟨Tryz.underlying205, by kernel_rfl, by kernel_rfl, by kernel_rfl, by decide⟩
theorem zh (f : Nat → Nat) (n : Nat) : (oL f n).length ≤ n := by
 unfold oL
 rw [List.length_map]
 exact Nat.le_trans (List.length_filter_le ..) (by rw [List.length_range]; exact Nat.le_refl _)
theorem zB {l : List Nat} {n : Nat} (h : l.Nodup) (hl : ∀ x ∈ l, x < n) : l.length ≤ n := by
 induction n generalizing l with
 | zero =>
  cases l with
  | nil => exact Nat.le_refl _
  | cons a l => exact absurd (hl a List.mem_cons_self) (Nat.not_lt_zero _)
 | succ n ih =>
  have h1 := ih (h.erase n) fun x hx => by
   have h2 := (List.Nodup.mem_erase_iff h).1 hx
   have := hl x h2.2
   have := h2.1
   omega
  rw [List.length_erase] at h1
  split at h1 <;> omega
section
variable {o : Tag} {k : Nat} {h : aA} {a : Addr} {sg : List St} {pq : Option Addr} {pn pc : Nat} {ws : List Nm} {E : Nm → List Nat}
theorem JL [Gh] {h0 : aA} {o : Tag} {s0 : List St} {now b : Nat} {q : List Nat} {p : Option Addr} {cap : Nat} {ad : Addr} {ca : Nat}
  (hlen : s0.length ≤ 40000) (hq : q.length ≤ 40000) (A : j6 o k h a s0 pq pn pc) (hc : hcell h a = some (.slice (some ad) s0.length ca)) (hn : now < s0.length) (hb : b < s0.length) (hnb : now ≠ b)
  (hk0 : ∀ d, d < 256 → (gt s0 now).nx d < s0.length) (hkb : ∀ d, d < 256 → (gt s0 b).nx d < s0.length) (hu : ∀ c d, c < 256 → d < 256 → (gt s0 now).nx c ≠ 0 → (gt s0 now).nx c = (gt s0 now).nx d → c = d)
  (Qu : Que 1 Dj h p cap q) (hz : h0.size ≤ h.size) (hnew : ∀ x, InA p x → h0.size ≤ x) (ho : ∀ x, h0.size ≤ x → o x = k)
  {Q : Value → aA → Prop} {Kn : (Option Addr) × Nat × Nat → aA → Prop}
  (hk : ∀ h' sg p' cap', Fr (fun x => o x = k + 2 ∨ h0.size ≤ x) h h' → j6 o k h' a sg pq pn pc → Inn s0 sg now (gt s0 now).nx (gt s0 b).nx (gt s0 now).ou 256 → Que 1 Dj h' p' cap' (q ++ oL (gt s0 now).nx 256) → (∀ x, InA p' x → h0.size ≤ x) → Kn (p', (q ++ oL (gt s0 now).nx 256).length, cap') h') :
  cG (some a) p q.length cap (ad.add (now * 259)) (ad.add (b * 259)) Q Kn h := by
 unfold cG
 obtain ⟨q', c', hc2, hcs⟩ := A.cell
 have e := hc.symm.trans hc2
 simp only [Option.some.injEq, Value.slice.injEq] at e
 obtain ⟨rfl, _, rfl⟩ := e
 obtain ⟨ad', hq', ci⟩ := hcs now hn
 cases hq'
 refine Ig ci ?_
 rw [gQ hn]
 generalize hf0 : (gt s0 now).nx = f0 at *
 refine aJ.go (fun n st h' => ∃ (c : Nat) (sg : List St) (p' : Option Addr) (cap' : Nat), st.1 = p' ∧ st.2.1 = (q ++ oL f0 c).length ∧ st.2.2.1 = cap' ∧ st.2.2.2 = (c : Int) ∧ c ≤ 256 ∧ n = 256 - c ∧ Fr (fun x => o x = k + 2 ∨ h0.size ≤ x) h h' ∧ j6 o k h' a sg pq pn pc ∧ hcell h' a = some (.slice (some ad) s0.length ca) ∧ Inn s0 sg now f0 (gt s0 b).nx (gt s0 now).ou c ∧ Que 1 Dj h' p' cap' (q ++ oL f0 c) ∧ (∀ x, InA p' x → h0.size ≤ x)) 256
  ⟨0, s0, p, cap, rfl, by simp [oL], rfl, rfl, by omega, rfl, Fr.refl _ _, A, hc, ⟨rfl, fun _ => rfl, fun i => ?_, fun i d hd => ?_, fun d hd => absurd hd (Nat.not_lt_zero _), fun i hi => rfl⟩, by simpa [oL] using Qu, hnew⟩ ?_
 ·by_cases h : i = now
  ·rw [if_pos h, h]
  ·rw [if_neg h]
 ·rw [if_neg (fun hh : d < 0 ∧ f0 d = 0 => Nat.not_lt_zero _ hh.1)]
  by_cases h : i = now
  ·rw [if_pos h, h, hf0]
  ·rw [if_neg h]
 rintro n ⟨qa, qn, qc, t74⟩ h1 ⟨c, sg, p1, cap1, e1, e2, e3, e4, hc256, rfl, f1, A1, hc1, I1, Q1, hn1⟩ Kn5 hK
 dsimp only at e1 e2 e3 e4
 subst e1 e2 e3 e4
 dsimp only
 unfold im
 have z1 := f1.size
 have hl1 := I1.len
 refine ifD (fun e => ?_) fun e => ?_
 ·have hc' : c < 256 := by omega
  refine bS c rfl hc' ⟨_, Hr f0 hc', _, rfl, ?_⟩
  obtain ⟨q2, c2, hc3, hcs1⟩ := A1.cell
  have e := hc1.symm.trans hc3
  simp only [Option.some.injEq, Value.slice.injEq] at e
  obtain ⟨rfl, _, rfl⟩ := e
  obtain ⟨adb, hab, cb⟩ := hcs1 b (by omega)
  cases hab
  have hbv : sg[b].nx c = (gt s0 b).nx c := by
   rw [gQ (by omega), I1.nx b c hc', if_neg hnb.symm]
  rw [Int.toNat_natCast]
  have hkb' := hkb c hc'
  have hk0' := hk0 c hc'
  have rd : hcell h1 ((ad.add (b * 259)).add (c * 1)) = some (.int .u16 ((gt s0 b).nx c : Nat)) := by
   rw [Nat.mul_one, ← hbv]
   exact cb.at (CB _ hc')
  refine ifE (fun h0' => ?_) fun h0' => ?_
  ·have h0' : f0 c = 0 := by omega
   refine bS c rfl hc' (aB rd (bS c rfl hc' ?_))
   rw [Nat.mul_one]
   refine A1.put hc3 rfl now (by omega) (j := c) (by omega) (v := .int .u16 ((gt s0 b).nx c : Nat)) rfl { gt sg now with nx := vB (gt sg now).nx c ((gt s0 b).nx c) } (by rw [gQ]; exact H9 _ hc' _) (by rw [gQ]) (by rw [gQ]) (by rw [gQ]) fun h2 f2 A2 => ?_
   rw [wr (by omega) (by omega)]
   refine hK (256 - (c + 1)) _ _ (by omega) ⟨c + 1, _, qa, qc, rfl, ?_, rfl, rfl, by omega, rfl, f1.tr f2 fun x hx hh => .inl hh, A2, ?_, I1.no hc' (by omega) h0', ?_, hn1⟩
   ·rw [mY, if_pos h0']
   ·exact f2.hcell hc1 fun hh => by have := A1.tag; omega
   ·rw [mY, if_pos h0']
    exact Q1.fr f2 fun x hx hh => by have := ho x (hn1 x hx); omega
  ·have h0' : f0 c ≠ 0 := fun h => h0' (by omega)
   refine aS (aD hc1 (bS c rfl hc' (aB rd (bS (f0 c) rfl (by omega) (aS ?_)))))
   rw [Int.toNat_natCast]
   refine A1.put hc3 rfl (f0 c) (by omega) (j := 256) (by omega) (v := .int .u16 ((gt s0 b).nx c : Nat)) rfl { gt sg (f0 c) with fa := (gt s0 b).nx c } (by rw [gQ]; exact K8 _ _) (by rw [gQ]) (by rw [gQ]) (by rw [gQ]) fun h2 f2 A2 => ?_
   have z2 := f2.size
   refine bA (vs := Dj (f0 c)) fun t106 h3 f3 e3 o3 => ?_
   have z3 := f3.size
   have Q3 := (Q1.fr f2 fun x hx hh => by have := ho x (hn1 x hx); omega).fr0 f3
   have hkl := zh f0 c
   refine Q3.app Hy Tryz.underlying205 (by intro k e; cases e) (by kernel_rfl) (by decide +kernel) wM (fun _ => rfl) o3 1 (by rw [List.length_append]; omega) fun p4 cap4 h4 Q4 f4 hn4 => ⟨_, _, _, rfl, ?_⟩
   have A4 : j6 o k h4 a (sg.set (f0 c) { gt sg (f0 c) with fa := (gt s0 b).nx c }) pq pn pc := (A2.fr0 f3).fr f4 (fun x hx hh => by have := ho x (hn1 x hh); omega) (Old.refl _ _)
   rw [wr (by omega) (by omega)]
   refine hK (256 - (c + 1)) _ _ (by omega) ⟨c + 1, _, p4, cap4, rfl, ?_, rfl, rfl, by omega, rfl, ((f1.tr f2 fun x hx hh => .inl hh).tr f3 fun _ _ h => h.elim).tr f4 fun x hx hh => .inr (hn1 x hh), A4, ?_, I1.yes hc' (by omega) h0' fun d hd hf hh => ?_, ?_, fun x hx => ?_⟩
   ·rw [mY, if_neg h0', ← List.append_assoc]
   ·have := A1.tag
    exact f4.hcell (f3.hcell (f2.hcell hc1 fun hh => by omega) id) fun hh => by have := ho _ (hn1 _ hh); omega
   ·have := hu d c (by omega) hc' hf hh; omega
   ·rw [mY, if_neg h0', ← List.append_assoc]; exact Q4
   ·rcases hn4 x hx with h | h
    ·exact hn1 x h
    ·omega
 ·have : c = 256 := by omega
  subst this
  exact hk h1 sg qa qc f1 A1 I1 Q1 hn1
theorem Kl [Gh] (A : j6 o k h a sg pq pn pc) (T : sG sg ws E) (hN : ws.length ≤ 40000) {Q : Value → aA → Prop}
  (hk : ∀ o' h' sg', Old h o o' → (∀ x, h.size ≤ x → o' x = k) → Fr (fun x => o x = k + 2) h h' → j6 o' k h' a sg' pq pn pc → zG sg' ws E → Q (.tuple #[]) h') :
  aE Tryz.prog iz #[.pointer (some a)] h Q := by
 apply qU
 unfold lK
 have hlen := T.len
 have h0 := T.lt T.z
 have hza := A.lt
 have tg := A.tag
 have hO : Old h o (upT o h.size k) := Old.up (Nat.le_refl _)
 have hup : ∀ x, h.size ≤ x → upT o h.size k x = k := fun x hx => ka hx
 have A' : j6 (upT o h.size k) k h a sg pq pn pc := A.fr (Fr.refl _ _) (fun _ _ h => False.elim h) hO
 have hlo : ∀ x, x < h.size → upT o h.size k x = o x := fun x hx => dY hx
 clear A
 generalize upT o h.size k = o1 at *
 obtain ⟨q, ca, hc, hcs⟩ := A'.cell
 obtain ⟨ad, had, ci⟩ := hcs 0 h0
 subst had
 refine aS (aD hc (bS 0 rfl h0 (aS (Ig ci ?_))))
 rw [gQ h0]
 have St0 := T.start
 have hk0 : ∀ d, d < 256 → (gt sg 0).nx d < sg.length := fun d hd => by
  by_cases hz : (gt sg 0).nx d = 0
  ·rw [hz]; exact h0
  ·exact (St0.apart _ (qA.2 ⟨d, hd, hz, rfl⟩)).2
 generalize hf0 : (gt sg 0).nx = f0 at *
 refine aJ.go (fun n st h' => ∃ (c : Nat) (p' : Option Addr) (cap' : Nat), st.1 = p' ∧ st.2.1 = (oL f0 c).length ∧ st.2.2.1 = cap' ∧ st.2.2.2 = (c : Int) ∧ c ≤ 256 ∧ n = 256 - c ∧ Fr (fun _ => False) h h' ∧ Que 1 Dj h' p' cap' (oL f0 c) ∧ (∀ x, InA p' x → h.size ≤ x)) 256
  ⟨0, none, 0, rfl, rfl, rfl, rfl, by omega, rfl, Fr.refl _ _, Que.nil, fun x hx => (dJ hx).elim⟩ ?_
 rintro n ⟨qa, qn, qc, t17⟩ h1 ⟨c, p1, cap1, e1, e2, e3, e4, hc256, rfl, f1, Q1, hn1⟩ Kn1 hK
 dsimp only at e1 e2 e3 e4
 subst e1 e2 e3 e4
 dsimp only
 unfold ip
 have z1 := f1.size
 refine ifD (fun e => ?_) fun e => ?_
 ·have hc' : c < 256 := by omega
  refine bS c rfl hc' ⟨_, Hr f0 hc', _, rfl, ?_⟩
  have hk0' := hk0 c hc'
  rw [Int.toNat_natCast]
  refine oS (fun hh => ?_) fun hh => ?_
  ·have hh : f0 c ≠ 0 := fun h => hh (by rw [h]; rfl)
   refine bA (vs := Dj (f0 c)) fun t24 h2 f2 e2 o2 => ?_
   have z2 := f2.size
   have hkl := zh f0 c
   refine (Q1.fr0 f2).app Hy Tryz.underlying205 (by intro k e; cases e) (by kernel_rfl) (by decide +kernel) wM (fun _ => rfl) o2 1 (by omega) fun p4 cap4 h4 Q4 f4 hn4 => ⟨_, _, _, rfl, ?_⟩
   rw [wr (by omega) (by omega)]
   refine hK (256 - (c + 1)) _ _ (by omega) ⟨c + 1, p4, cap4, rfl, ?_, rfl, rfl, by omega, rfl, (f1.trans f2).tr f4 fun x hx hh => by have := hn1 x hh; omega, ?_, fun x hx => ?_⟩
   ·rw [mY, if_neg hh]
   ·rw [mY, if_neg hh]; exact Q4
   ·rcases hn4 x hx with h | h
    ·exact hn1 x h
    ·omega
  ·have hh : f0 c = 0 := by omega
   rw [wr (by omega) (by omega)]
   refine hK (256 - (c + 1)) _ _ (by omega) ⟨c + 1, qa, qc, rfl, ?_, rfl, rfl, by omega, rfl, f1, ?_, hn1⟩
   ·rw [mY, if_pos hh]
   ·rw [mY, if_pos hh]; exact Q1
 have : c = 256 := by omega
 subst this
 clear e hK
 unfold ix
 have hend : ∀ h' sg', Fr (fun x => o1 x = k + 2 ∨ h.size ≤ x) h h' → j6 o1 k h' a sg' pq pn pc → zG sg' ws E → Q (.tuple #[]) h' := fun h' sg' f A D =>
  hk o1 h' sg' hO hup ⟨f.size, fun x hx hs => f.same x hx fun hh => hh.elim (fun e => hs (by rw [← hlo x hx]; exact e)) fun e => absurd hx (by omega)⟩ A D
 have hbq := zh f0 256
 refine aJ.go (fun n st h' => ∃ (Ds Qs : List Nat) (sg' : List St) (p' : Option Addr) (cap' : Nat), st.1 = p' ∧ st.2.1 = Qs.length ∧ st.2.2 = cap' ∧ Ds.Nodup ∧ (∀ i ∈ Ds, i < sg.length) ∧ sg'.length = sg.length ∧ n = sg.length - Ds.length ∧ Fr (fun x => o1 x = k + 2 ∨ h.size ≤ x) h h' ∧ j6 o1 k h' a sg' pq pn pc ∧ Lq sg' ws E (· ∈ Ds) Qs ∧ Que 1 Dj h' p' cap' Qs ∧ (∀ x, InA p' x → h.size ≤ x)) (sg.length - 1)
  ⟨[0], oL f0 256, sg, qa, qc, rfl, rfl, rfl, by simp, fun i hi => by rw [List.mem_singleton.1 hi]; exact h0, rfl, rfl, f1.mono fun _ h => h.elim, A'.fr0 f1, St0, Q1, hn1⟩ ?_
 rintro n ⟨qa, qn, qc⟩ h2 ⟨Ds, Qs, s2, p2, cap2, e1, e2, e3, hdn, hdl, hl2, rfl, f2, A2, L2, Q2, hn2⟩ Kn3 hK
 dsimp only at e1 e2 e3
 subst e1 e2 e3
 dsimp only
 unfold iq
 have z2 := f2.size
 refine ifD (fun e => ?_) fun e => ?_
 ·cases Qs with
  | nil => exact absurd e (by simp)
  | cons now q' =>
   have hap := L2.apart now List.mem_cons_self
   have hnow := hap.2
   obtain ⟨w, hw⟩ := L2.word hnow
   have hb := L2.back hw hnow
   rw [gQ hnow] at hb
   have hbl := L2.lt hb.1
   have hol := L2.ou _ hbl _ hb.1 hb.2
   have hQl : (now :: q').length ≤ sg.length := zB L2.qnd fun x hx => by have := (L2.apart x hx).2; omega
   rw [List.length_cons] at hQl
   obtain ⟨q3, c3, hc3, hcs3⟩ := A2.cell
   obtain ⟨ad3, hq3, cn⟩ := hcs3 now hnow
   subst hq3
   have hne : now ≠ (gt s2 now).fa := fun h => hap.1 (by rw [h]; exact hb.2)
   refine Q2.idx wM (by decide) 0 rfl (by simp) fun ad4 c4 => ?_
   refine aB (c4.at0 rfl) ?_
   refine Q2.pop wM (by decide) fun p5 cap5 hi5 Q5 => ?_
   have hgn : s2[now] = gt s2 now := gQ hnow
   have hQl5 : q'.length ≤ 40000 := by omega
   have hbe : s2[now].fa = (gt s2 now).fa := by rw [hgn]
   have hwne : w ≠ [] := fun h => by
    subst h
    have := jr L2.nd hw L2.z
    subst this; exact hap.1 L2.root
   have fin : ∀ h4 o', Fr (fun x => o1 x = k + 2 ∨ h.size ≤ x) h2 h4 → (∀ x, x < h2.size → h.size ≤ x → h4[x]? = h2[x]?) → hcell h4 a = some (.slice (some ad3) s2.length c3) → j6 o1 k h4 a (s2.set now { gt s2 now with ou := o' }) pq pn pc → ws[o']? = some (uu ws E w) →
     cG (some a) p5 q'.length cap5 (ad3.add (now * 259)) (ad3.add ((gt s2 now).fa * 259)) Q Kn3 h4 := fun h4 o' f4 hs4 hc4 A4 ho' => by
    have z4 := f4.size
    have f40 : Fr (fun x => x < h.size) h2 h4 := ⟨z4, fun x hx hs => hs4 x hx (by omega)⟩
    have g : ∀ i, gt (s2.set now { gt s2 now with ou := o' }) i = if now = i then { gt s2 now with ou := o' } else gt s2 i := pN hnow _
    have gn : gt (s2.set now { gt s2 now with ou := o' }) now = { gt s2 now with ou := o' } := by rw [g, if_pos rfl]
    have gb : gt (s2.set now { gt s2 now with ou := o' }) (gt s2 now).fa = gt s2 (gt s2 now).fa := by rw [g, if_neg hne]
    have ls : (s2.set now { gt s2 now with ou := o' }).length = s2.length := List.length_set
    have yes : ∀ c : UInt8, (gt s2 now).nx c.toNat ≠ 0 → ws[(gt s2 now).nx c.toNat]? = some (w ++ [c]) := fun c hc => by
     have := L2.yes now hnow w c hw hap.1 (by rw [hgn]; exact hc)
     rw [hgn] at this; exact this
    refine JL (h0 := h) (by rw [ls]; omega) hQl5 A4 (by rw [ls]; exact hc4) (by rw [ls]; exact hnow) (by rw [ls]; exact hbl) hne (fun d hd => ?_) (fun d hd => ?_) (fun c d hc hd hz he => ?_) (Q5.fr f40 fun x hx hh => by have := hn2 x (hi5 x hx); omega) (by omega) (fun x hx => hn2 x (hi5 x hx)) hup fun h6 s6 p6 cap6 f6 A6 I6 Q6 hn6 => ?_
    ·rw [gn, ls]
     obtain ⟨c, rfl⟩ := Ao hd
     by_cases hz : (gt s2 now).nx c.toNat = 0
     ·show (gt s2 now).nx _ < _; rw [hz]; omega
     ·exact L2.lt (yes c hz)
    ·rw [gb, ls]
     obtain ⟨c, rfl⟩ := Ao hd
     have := L2.dn _ hbl _ c hb.1 hb.2
     rw [gQ hbl] at this
     exact L2.lt this
    ·rw [gn] at hz he
     obtain ⟨x, rfl⟩ := Ao hc
     obtain ⟨y, rfl⟩ := Ao hd
     have hz : (gt s2 now).nx x.toNat ≠ 0 := hz
     have he : (gt s2 now).nx x.toNat = (gt s2 now).nx y.toNat := he
     have e1 := yes x hz
     have e2 := yes y (by rw [← he]; exact hz)
     rw [he, e2] at e1
     have := (List.append_inj' (Option.some.inj e1) rfl).2
     rw [(List.cons.inj this).1]
    ·rw [gn, gb] at I6
     have I : Inn s2 s6 now (gt s2 now).nx (gt s2 (gt s2 now).fa).nx o' 256 := by
      refine ⟨by rw [I6.len, ls], fun i => ?_, fun i => ?_, fun i d hd => ?_, I6.fa1, fun i hi => ?_⟩
      ·rw [I6.en, g]; split
       ·rename_i hh; rw [← hh]
       ·rfl
      ·rw [I6.ou]; split
       ·rfl
       ·rename_i hh; rw [g, if_neg (fun h => hh h.symm)]
      ·rw [I6.nx i d hd]; split
       ·rfl
       ·rename_i hh; rw [g, if_neg (fun h => hh h.symm)]
      ·rw [I6.fa0 i hi, g]; split
       ·rename_i hh; rw [← hh]
       ·rfl
     have L6 := L2.pop hw ho' I
     rw [gn] at Q6
     have e6 : (gt (s2.set now { gt s2 now with ou := o' }) now).nx = (gt s2 now).nx := by rw [gn]
     rw [e6]
     have hdn6 : (now :: Ds).Nodup := List.nodup_cons.2 ⟨hap.1, hdn⟩
     have hdl6 : ∀ i ∈ now :: Ds, i < sg.length := fun i hi => by
      rcases List.mem_cons.1 hi with h | h
      ·omega
      ·exact hdl i h
     have hdle := zB hdn6 hdl6
     rw [List.length_cons] at hdle
     have eD : (fun i => i ∈ Ds ∨ i = now) = (fun i => i ∈ now :: Ds) := by
      funext i; rw [List.mem_cons]; exact propext or_comm
     rw [eD] at L6
     exact hK (sg.length - (now :: Ds).length) _ _ (by rw [List.length_cons]; omega) ⟨now :: Ds, _, s6, p6, cap6, rfl, rfl, rfl, hdn6, hdl6, by rw [I.len]; exact hl2, rfl, (f2.trans (f4.mono fun _ h => h)).tr f6 fun x hx hh => hh, A6, L6, Q6, hn6⟩
   refine aS (aD hc3 (bS now rfl hnow (aS (aS (aD hc3 ?_)))))
   rw [Int.toNat_natCast]
   have efa : (stV s2[now])[256]? = some (.int .u16 ((gt s2 now).fa : Nat)) := by rw [← hbe]; exact KW _
   refine aB (cn.at efa) (bS _ rfl hbl (aS (aB (cn.at efa) ?_)))
   rw [Int.toNat_natCast]
   have nqt : ∀ x, h.size ≤ x → o1 x ≠ k + 2 := fun x hx => by have := hup x hx; omega
   refine A2.put hc3 rfl now hnow (j := 257) (by omega) (v := .int .u16 ((gt s2 now).fa : Nat)) rfl { gt s2 now with ou := (gt s2 now).fa } (by rw [hgn]; exact HA _ _) (by rw [hgn]) (by rw [hgn]) (by rw [hgn]) fun h3 f3 A3 => ?_
   have z3 := f3.size
   have hca3 := f3.hcell hc3 fun hh => by have := A2.tag; omega
   obtain ⟨q7, c7, hc7, hcs7⟩ := A3.cell
   have e7 := hca3.symm.trans hc7
   simp only [Option.some.injEq, Value.slice.injEq] at e7
   obtain ⟨rfl, _, rfl⟩ := e7
   obtain ⟨ad7, had7, cb⟩ := hcs7 (gt s2 now).fa (by rw [List.length_set]; exact hbl)
   cases had7
   rw [List.getElem_set_ne hne] at cb
   refine aD (cb.at (CE _)) ?_
   have hen := L2.en _ hbl _ hb.1
   refine ifE (fun h0e => ?_) fun h0e => ?_
   ·refine aB (cb.at (Hs _)) ?_
    refine A3.put hc7 rfl now (by rw [List.length_set]; exact hnow) (j := 257) (by omega) (v := .int .u16 (s2[(gt s2 now).fa].ou : Nat)) rfl { gt s2 now with ou := s2[(gt s2 now).fa].ou } (by rw [List.getElem_set_self]; exact HA _ _) (by rw [List.getElem_set_self]) (by rw [List.getElem_set_self]) (by rw [List.getElem_set_self]) fun h4 f4 A4 => ?_
    rw [List.set_set] at A4
    refine fin h4 _ ((f3.mono fun _ h => .inl h).trans (f4.mono fun _ h => .inl h)) (fun x hx hh => ?_) (f4.hcell hca3 fun hh => by have := A2.tag; omega) A4 ?_
    ·rw [f4.same x (by omega) (nqt x hh), f3.same x hx (nqt x hh)]
    ·rw [vp E hwne, if_neg (by rw [← hen]; intro h; apply h; exact List.length_eq_zero_iff.1 (by omega))]
     exact hol
   ·refine fin h3 _ (f3.mono fun _ h => .inl h) (fun x hx hh => f3.same x hx (nqt x hh)) hca3 A3 ?_
    rw [vp E hwne, if_pos (by rw [← hen]; intro h; rw [h] at h0e; exact h0e rfl)]
    exact hb.1
 ·have : Qs = [] := List.length_eq_zero_iff.1 (by omega)
  subst this
  exact hend h2 s2 f2 A2 L2.done
end
end Go.Proofs.YtjmfpeiidlpngaaGreatDoor.Au
namespace Go.Proofs.YtjmfpeiidlpngaaGreatDoor.Au
set_option linter.unusedSimpArgs false
set_option linter.unusedVariables false
set_option maxRecDepth 20000
open Go
open Go.IntKind (wrap)
structure FR (h : aA) (a : Addr) (sg : List St) (L : List Pt) : Prop where
 blk : ∃ q cq pq pc, bB h a [.slice q sg.length cq, .slice pq L.length pc] ∧ (∀ i (hi : i < sg.length), ∃ ad, q = some ad ∧ bB h (ad.add (i * 259)) (stV sg[i])) ∧ Hd h pq L
 ends : ∀ i (hi : i < sg.length), Row 1 inV h sg[i].eq sg[i].ec sg[i].en
def Gv (N : Nat) (h : aA) (a : Addr) (sg : List St) (L : List Pt) : Prop := N ≤ h.size ∧ ∀ h', Fr (fun x => N ≤ x) h h' → FR h' a sg L
theorem Gv.fr {S : Nat → Prop} {N : Nat} {h h' : aA} {a : Addr} {sg : List St} {L : List Pt} (A : Gv N h a sg L) (f : Fr S h h') (hs : ∀ x, x < h.size → S x → N ≤ x) : Gv N h' a sg L :=
 ⟨Nat.le_trans A.1 f.size, fun h2 f2 => A.2 h2 ((f.mono' hs).trans f2)⟩
theorem Gv.now {N : Nat} {h : aA} {a : Addr} {sg : List St} {L : List Pt} (A : Gv N h a sg L) : FR h a sg L := A.2 h (Fr.refl _ _)
structure xo (N : Nat) (h : aA) (a : Addr) (sg : List St) (ws : List Nm) (L : List Pt) : Prop where
 s : Gv N h a sg L
 d : zG sg ws (iX L L.length)
 w : ∀ w, w ∈ ws ↔ wd L L.length w
 n : ws.length ≤ 40000
 m : L.length ≤ 512
 ok : rb L = 0
theorem xo.fr {S : Nat → Prop} {N : Nat} {h h' : aA} {a : Addr} {sg : List St} {ws : List Nm} {L : List Pt} (A : xo N h a sg ws L) (f : Fr S h h') (hs : ∀ x, x < h.size → S x → N ≤ x) : xo N h' a sg ws L := { A with s := A.s.fr f hs }
theorem xo.fr0 {N : Nat} {h h' : aA} {a : Addr} {sg : List St} {ws : List Nm} {L : List Pt} (f : Fr (fun _ => False) h h') (A : xo N h a sg ws L) : xo N h' a sg ws L := A.fr f fun _ _ h => h.elim
end Go.Proofs.YtjmfpeiidlpngaaGreatDoor.Au
namespace Go.Proofs.YtjmfpeiidlpngaaGreatDoor
set_option linter.unusedSimpArgs false
set_option linter.unusedVariables false
set_option maxRecDepth 20000
open Go
open Go.IntKind (wrap)
def Kp (B : Nat → Prop) (h : aA) (P : aA → Prop) : Prop := ∀ h', Fr (fun x => ¬ B x) h h' → P h'
theorem Kp.now {B : Nat → Prop} {h : aA} {P : aA → Prop} (k : Kp B h P) : P h := k h (Fr.refl _ _)
theorem Kp.fr {B B' S : Nat → Prop} {h h' : aA} {P : aA → Prop} (s : Kp B h P) (f : Fr S h h') (h1 : ∀ x, x < h.size → B x → ¬ S x) (h2 : ∀ x, x < h.size → B x → B' x) : Kp B' h' P := fun h'' f2 =>
 s h'' ⟨Nat.le_trans f.size f2.size, fun x hx hn => by
  have hB : B x := Classical.byContradiction hn
  rw [f2.same x (Nat.lt_of_lt_of_le hx f.size) (fun hh => hh (h2 x hx hB)), f.same x hx (h1 x hx hB)]⟩
theorem Kp.fr0 {B : Nat → Prop} {h h' : aA} {P : aA → Prop} (f : Fr (fun _ => False) h h') (s : Kp B h P) : Kp B h' P := s.fr f (fun _ _ _ => id) fun _ _ => id
theorem Kp.and {B : Nat → Prop} {h : aA} {P P' : aA → Prop} (s : Kp B h P) (s' : Kp B h P') : Kp B h (fun h' => P h' ∧ P' h') := fun h' f => ⟨s h' f, s' h' f⟩
def HLe (h h' : aA) : Prop := ∀ a v, hcell h a = some v → hcell h' a = some v
theorem HLe.cells {h h' : aA} (l : HLe h h') {a : Addr} {vs : List Value} (c : bB h a vs) : bB h' a vs := fun j hj => l _ _ (c j hj)
theorem bJ.hle {α : Type} {sz : Nat} {vals : α → List Value} {ok : aA → α → Prop} {h h' : aA} {s : Sl α} (l : HLe h h') (hok : ∀ x, ok h x → ok h' x) (o : bJ sz vals ok h s) : bJ sz vals ok h' s :=
 ⟨o.len, o.cap, fun i hi => by obtain ⟨ad, h1, h2, h3⟩ := o.at_ i hi; exact ⟨ad, h1, l.cells h2, hok _ h3⟩⟩
theorem HLe.group {h h' : aA} (l : HLe h h') {r : bI} (o : bI.ok h r) : bI.ok h' r :=
 ⟨o.k0, o.k1.hle l fun _ h => h, o.k2.hle l fun _ h => ⟨h.k0, h.k1⟩, o.k3.hle l fun _ h => h.hle l fun _ h => h, o.k4.hle l fun _ h => h⟩
theorem HLe.groups {h h' : aA} (l : HLe h h') {g : Sl bI} (o : bJ 5 bI.vals bI.ok h g) : bJ 5 bI.vals bI.ok h' g := o.hle l fun _ h => l.group h
theorem E9 {m : Nat} {h h' : aA} {mm : List (Int × Value)} (I : vz (zC .i64) h m mm) (f : Fr (fun x => x = m ∨ h.size ≤ x) h h') : HLe h h' := by
 intro a v hv
 obtain ⟨es, c, hm, _, _⟩ := I
 unfold E0 at hm
 have hb : a.block < h.size := by
  rcases Nat.lt_or_ge a.block h.size with hb | hb
  ·exact hb
  ·unfold hcell at hv
   rw [Array.getElem?_eq_none hb] at hv
   cases hv
 have hne : a.block ≠ m := fun e => by
  unfold hcell at hv
  rw [e, hm] at hv
  cases hv
 unfold hcell at hv ⊢
 rw [f.same _ hb fun hh => by rcases hh with hh | hh; exact hne hh; omega]
 exact hv
namespace Au
structure Jy (sg : List St) (ws : List Nm) (L : List Pt) : Prop where
 d : zG sg ws (iX L L.length)
 w : ∀ w, w ∈ ws ↔ wd L L.length w
 n : ws.length ≤ 40000
 m : L.length ≤ 512
 ok : rb L = 0
theorem H8 [Gh] (s : Sl Pt) {ok : aA → Pt → Prop} {h : aA} (os : bJ 2 ptV ok h s) (okf : ∀ h h' x, Fr (fun _ => False) h h' → ok h x → ok h' x) (hl : s.xs.length ≤ 512) (he : rb s.xs = 0) {Q : Value → aA → Prop}
  (hk : ∀ a h' sg ws, Fr (fun _ => False) h h' → Kp (fun x => h.size ≤ x) h' (fun h'' => FR h'' a sg s.xs) → Jy sg ws s.xs → Q (.tuple #[.pointer (some a), .int .i64 0]) h') :
  aE Tryz.prog kv #[.slice s.p s.xs.length s.cap] h Q := by
 refine Gq s os okf (by omega) (fun x => 0) 0 (fun _ _ => Nat.le_refl _) (fun h' f hn => by omega) (fun h' f hn he' => absurd he he') fun a o' h' sg ws pq pc hO hr f A R hpq T hw hN hm he => ?_
 unfold iL
 refine Kl A T hN fun o2 h2 sg2 hO2 hr2 f2 A2 D => ⟨rfl, ?_⟩
 have R2 := R.fr f2 fun x hx hh => by have := (hpq x hx).2; omega
 have old : ∀ x, x < h.size → o2 x = 0 := fun x hx => by
  have := f.size
  rw [hO2 x (by omega), hO x hx]
 refine hk a h2 sg2 ws (f.tr f2 fun x hx hh => by have := hO x hx; simp only at this; omega) (fun h3 f3 => ?_) ⟨D, hw, hN, hm, he⟩
 have A3 := A2.fr (o' := o2) f3 (fun x hx hh => .inl (by rw [old x (by omega)]; exact Nat.le_refl _)) (Old.refl _ _)
 have R3 := R2.fr f3 fun x hx hh => hh (hpq x hx).1
 obtain ⟨q, c, ow, Q, _⟩ := A3.ex
 exact ⟨⟨q, c, pq, pc, ow.cells, fun i hi => Q.cellsAt rz (by omega) i hi, fun i hi => R3.cellsAt yO (by omega) i hi⟩, fun i hi => (A3.ends i hi).1⟩
theorem Jy.auto {N : Nat} {h : aA} {a : Addr} {sg : List St} {ws : List Nm} {L : List Pt} (d : Jy sg ws L) (k : Kp (fun x => x < N) h fun h' => FR h' a sg L) (hN : N ≤ h.size) : xo N h a sg ws L :=
 ⟨⟨hN, fun h' f => k h' (f.mono fun x hx => by omega)⟩, d.d, d.w, d.n, d.m, d.ok⟩
end Au
end Go.Proofs.YtjmfpeiidlpngaaGreatDoor
namespace Go.Proofs.YtjmfpeiidlpngaaGreatDoor
set_option linter.unusedSimpArgs false
set_option linter.unusedVariables false
set_option maxRecDepth 20000
open Go
open Go.IntKind (wrap)
def Cd (r : bK) : Au.Pt := ⟨r.Text, r.Nocase⟩
def ptS (s : Sl bK) : Sl Au.Pt := ⟨s.p, s.cap, s.xs.map Cd⟩
theorem Ky {h : aA} {s : Sl bK} (o : bJ 2 bK.vals bK.ok h s) : bJ 2 Au.ptV (fun _ _ => True) h (ptS s) := by
 refine ⟨by show (s.xs.map Cd).length ≤ _; rw [List.length_map]; exact o.1, by show (s.xs.map Cd).length ≤ _; rw [List.length_map]; exact o.cap, fun i hi => ?_⟩
 have hi' : i < s.xs.length := by have : i < (s.xs.map Cd).length := hi; rwa [List.length_map] at this
 obtain ⟨ad, h1, h2, _⟩ := o.at_ i hi'
 refine ⟨ad, h1, ?_, trivial⟩
 have e : (s.xs.map Cd)[i]'(by rw [List.length_map]; exact hi') = Cd s.xs[i] := List.getElem_map ..
 show bB h (ad.add (i * 2)) (Au.ptV ((s.xs.map Cd)[i]'(by rw [List.length_map]; exact hi')))
 rw [e]; exact h2
def adV (a : Addr) : List Value := [.pointer (some a)]
theorem vj (a : Addr) : (adV a).length = 1 := rfl
theorem zt (a : Addr) : (adV a).all eQ = true := rfl
theorem EO : gW Tryz.prog bD fD Tryz.t92 (.pointer none) := ⟨Tryz.underlying91, by kernel_rfl, by kernel_rfl, by kernel_rfl, by decide +kernel⟩
theorem Fy {h : aA} {K : Value → aA → Prop} (hk : K (.slice none 0 0) h) : wpH Tryz.prog (zeroValue bD) K h := B7 (i := Tryz.t91) (by kernel_rfl) (by kernel_rfl) hk
abbrev Gr := bI
def GpB (B : Nat → Prop) (h : aA) (a : Addr) (g : Gr) : Prop := ∃ au sg ws, Kp B h (fun h' => bB h' a (g.vals ++ [.pointer (some au)]) ∧ bI.ok h' g) ∧ Kp B h (fun h' => Au.FR h' au sg (ptS g.Patterns).xs) ∧ Au.Jy sg ws (ptS g.Patterns).xs
theorem GpB.fr {B B' S : Nat → Prop} {h h' : aA} {a : Addr} {g : Gr} (G : GpB B h a g) (f : Fr S h h') (h1 : ∀ x, x < h.size → B x → ¬ S x) (h2 : ∀ x, x < h.size → B x → B' x) : GpB B' h' a g := by
 obtain ⟨au, sg, ws, k1, k2, d⟩ := G
 exact ⟨au, sg, ws, k1.fr f h1 h2, k2.fr f h1 h2, d⟩
structure Gps (B : Nat → Prop) (h : aA) (av : List Addr) (gs : List Gr) : Prop where
 len : av.length = gs.length
 at_ : ∀ i (h1 : i < av.length) (h2 : i < gs.length), GpB B h av[i] gs[i]
theorem Gps.fr {B B' S : Nat → Prop} {h h' : aA} {av : List Addr} {gs : List Gr} (G : Gps B h av gs) (f : Fr S h h') (h1 : ∀ x, x < h.size → B x → ¬ S x) (h2 : ∀ x, x < h.size → B x → B' x) : Gps B' h' av gs := ⟨G.len, fun i a b => (G.at_ i a b).fr f h1 h2⟩
theorem Gps.nil {B : Nat → Prop} {h : aA} : Gps B h [] [] := ⟨rfl, fun i h => absurd h (Nat.not_lt_zero _)⟩
theorem Gps.snoc {B : Nat → Prop} {h : aA} {av : List Addr} {gs : List Gr} (G : Gps B h av gs) {a : Addr} {g : Gr} (n : GpB B h a g) : Gps B h (av ++ [a]) (gs ++ [g]) := by
 refine ⟨by simp [G.len], fun i h1 h2 => ?_⟩
 have hl := G.len
 rw [List.length_append, List.length_singleton] at h1 h2
 by_cases hi : i < av.length
 ·rw [List.getElem_append_left hi, List.getElem_append_left (by omega)]; exact G.at_ i hi (by omega)
 ·have : i = av.length := by omega
  subst this
  rw [List.getElem_append_right (Nat.le_refl _), List.getElem_append_right (by omega)]
  simpa using n
theorem Hp {κ : Type} [DecidableEq κ] (m : List (κ × Value)) (a b : κ) (v : Value) : pH (CL m a v) b = if b = a then some v else pH m b := by
 by_cases hs : (pH m a).isSome
 ·unfold CL; rw [if_pos hs]
  obtain ⟨e, he, hk⟩ := sk.1 hs
  induction m with
  | nil => cases he
  | cons x m ih =>
   unfold pH at ih ⊢
   rw [List.map_cons, List.find?_cons, List.find?_cons]
   by_cases hxa : x.1 = a
   ·rw [if_pos hxa]
    by_cases hb : b = a
    ·subst hb; simp [hxa]
    ·have h1 : ¬ x.1 = b := fun e => hb (e.symm.trans hxa)
     simp only [h1, decide_false, hb, if_false]
     rw [List.find?_map]
     have : ((fun e : κ × Value => decide (e.1 = b)) ∘ fun e => if e.1 = a then (e.1, v) else e) = fun e => decide (e.1 = b) := by
      funext e; simp only [Function.comp]; split <;> rfl
     rw [this, Option.map_map]
     cases hf : m.find? (fun e => decide (e.1 = b)) with
     | none => rfl
     | some y =>
      have := List.find?_some hf
      have hya : ¬ y.1 = a := fun e => hb ((of_decide_eq_true this).symm.trans e)
      simp [hya]
   ·rw [if_neg hxa]
    by_cases hxb : x.1 = b
    ·have : ¬ b = a := fun e => hxa (hxb.trans e)
     simp [hxb, this]
    ·simp only [hxb, decide_false]
     rcases List.mem_cons.1 he with rfl | he
     ·exact absurd hk hxa
     ·exact ih (sk.2 ⟨e, he, hk⟩) he
 ·unfold CL; rw [if_neg hs]
  have hn : pH m a = none := by cases h : pH m a with
   | none => rfl
   | some _ => rw [h] at hs; simp at hs
  unfold pH at hn ⊢
  rw [List.find?_append]
  by_cases hb : b = a
  ·subst hb
   rw [if_pos rfl]
   cases hf : m.find? (fun e => decide (e.1 = b)) with
   | none => simp
   | some y => rw [hf] at hn; cases hn
  ·rw [if_neg hb]
   have h1 : ¬ a = b := fun e => hb e.symm
   cases hf : m.find? (fun e => decide (e.1 = b)) with
   | none => simp [h1]
   | some y => simp
structure GsI (h2 : aA) (m : Nat) (gs : List Gr) (h : aA) (mm : List (Int × Value)) (o : Nat → Option Int) : Prop where
 fr : Fr (fun x => x = m ∨ h2.size ≤ x) h2 h
 map : vz (zC .i64) h m mm
 o0 : ∀ x, o x ≠ none → h2.size ≤ x ∧ x < h.size
 lt : m < h2.size
 kd : ∀ kind : Int, ∃ p c av, (pH mm kind).getD (.slice none 0 0) = .slice p (av : List Addr).length c ∧ Row 1 adV h p c av ∧ (∀ x, InA p x → o x = some kind) ∧ Gps (fun x => x ≠ m ∧ o x = none) h av (gs.filter fun g => g.Kind = kind)
theorem GsI.fr0 {h2 : aA} {m : Nat} {gs : List Gr} {h h' : aA} {mm : List (Int × Value)} {o : Nat → Option Int} (I : GsI h2 m gs h mm o) (f : Fr (fun _ => False) h h') : GsI h2 m gs h' mm o := by
 refine ⟨I.fr.tr f fun _ _ hh => hh.elim, I.map.fr f id, fun x hx => ?_, I.lt, fun kind => ?_⟩
 ·have := I.o0 x hx; have := f.size; omega
 ·obtain ⟨p, c, av, e, R, ho, G⟩ := I.kd kind
  exact ⟨p, c, av, e, R.fr0 f, ho, G.fr f (fun _ _ _ => id) fun _ _ => id⟩
theorem GsI.size {h2 : aA} {m : Nat} {gs : List Gr} {h : aA} {mm : List (Int × Value)} {o : Nat → Option Int} (I : GsI h2 m gs h mm o) : h2.size ≤ h.size := I.fr.size
theorem GsI.put [Gh] {h2 : aA} {m : Nat} {gs : List Gr} {h : aA} {mm : List (Int × Value)} {o : Nat → Option Int} (I : GsI h2 m gs h mm o) (g : Gr) {a t84 : Addr} {T : TypeId} (ob : Own h t84 [.pointer (some a)] T) (G : GpB (fun x => x ≠ m ∧ o x = none) h a g) (hl : gs.length ≤ 2 ^ 20) {p : Option Addr} {n c : Nat} (hg : (pH mm g.Kind).getD (.slice none 0 0) = .slice p n c) {s4 t11 : Addr}
  (own : ∀ h' S, Fr S h h' → (∀ x, S x → o x ≠ none) → hcell h' (s4.add 1) = some (.map (some m)) ∧ hcell h' t11 = some (.int .i64 g.Kind)) {K : aA → Prop}
  (hk : ∀ h' mm' o', Fr (fun x => x = m ∨ o x ≠ none) h h' → GsI h2 m (gs ++ [g]) h' mm' o' → K h') :
  dU Tryz.prog .append #[bD, bD] bD #[false, false] #[.slice p n c, .slice (some t84) 1 1] h fun v h23 => ∃ t85a : Option Addr, ∃ t85n : Nat, ∃ t85c : Nat, v = .slice t85a t85n t85c ∧ (ldM h23 (Addr.add s4 1) fun t970 => (.map t970 : Value) = .map (some m)) ∧ (ldI h23 t11 .i64 fun t972 => (.int .i64 t972 : Value) = .int .i64 g.Kind) ∧ rj Tryz.prog bO (.map (some m)) (.int .i64 g.Kind) (.slice t85a t85n t85c) h23 fun h24 => K h24 := by
 obtain ⟨p', c', av, e, R, ho, Gs⟩ := I.kd g.Kind
 rw [hg] at e
 simp only [Value.slice.injEq] at e
 obtain ⟨rfl, rfl, rfl⟩ := e
 have zI := I.size
 have zm := I.lt
 have hfl : (gs.filter fun x => x.Kind = g.Kind).length ≤ gs.length := List.length_filter_le _ _
 refine R.app EO Tryz.underlying91 (by intro k e; cases e) (by kernel_rfl) (by decide +kernel) vj zt ob 1 (by rw [Gs.len]; omega) fun p3 c3 h3 R3 f3 hn3 => ⟨_, _, _, rfl, ?_⟩
 have z3 := f3.size
 obtain ⟨c1, c2⟩ := own h3 _ f3 fun x hx => by rw [ho x hx]; simp
 refine ⟨lM c1 rfl, aB c2 rfl, ?_⟩
 have nm : ¬ InA p m := fun hh => by have := (I.o0 m (by rw [ho m hh]; simp)); omega
 have nm3 : ¬ InA p3 m := fun hh => by
  rcases hn3 m hh with h | h
  ·exact nm h
  ·omega
 refine Bb Ee Tryz.underlying76 (I.map.fr f3 nm) g.Kind (.slice p3 (av ++ [a]).length c3) fun h4 f4 z4 M4 => ?_
 have F : Fr (fun x => InA p x ∨ x = m) h h4 := (f3.mono fun _ => .inl).trans (f4.mono fun _ => .inr)
 refine hk h4 _ (fun x => @ite _ (InA p3 x) (Classical.propDecidable _) (some g.Kind) (o x)) (F.mono fun x hx => ?_) ⟨I.fr.tr F fun x hx hh => ?_, M4, fun x hx => ?_, zm, fun kind => ?_⟩
 ·rcases hx with h | h
  ·exact .inr (by rw [ho x h]; simp)
  ·exact .inl h
 ·rcases hh with h | h
  ·have := I.o0 x (by rw [ho x h]; simp); exact .inr this.1
  ·exact .inl h
 ·have z4' := f4.size
  split at hx
  ·rename_i hin
   have := R3.lt hin
   rcases hn3 x hin with h | h
   ·have := I.o0 x (by rw [ho x h]; simp); omega
   ·omega
  ·have := I.o0 x hx; omega
 ·have hB : ∀ x, x < h.size → (x ≠ m ∧ o x = none) → ¬ (InA p x ∨ x = m) := fun x hx ⟨b1, b2⟩ hh => by
   rcases hh with hh | hh
   ·rw [ho x hh] at b2; cases b2
   ·exact b1 hh
  have hB2 : ∀ x, x < h.size → (x ≠ m ∧ o x = none) → (x ≠ m ∧ (@ite _ (InA p3 x) (Classical.propDecidable _) (some g.Kind) (o x)) = none) := fun x hx ⟨b1, b2⟩ => by
   refine ⟨b1, ?_⟩
   rw [if_neg fun hh => ?_]
   ·exact b2
   ·rcases hn3 x hh with h | h
    ·rw [ho x h] at b2; cases b2
    ·omega
  rw [Hp]
  by_cases hkd : kind = g.Kind
  ·subst hkd
   rw [if_pos rfl]
   refine ⟨p3, c3, av ++ [a], rfl, R3.fr f4 fun x hx hh => nm3 (hh ▸ hx), fun x hx => if_pos hx, ?_⟩
   rw [List.filter_append]
   have := (Gs.fr F hB hB2).snoc (G.fr F hB hB2)
   simpa using this
  ·rw [if_neg hkd]
   obtain ⟨pk, ck, ak, ek, Rk, hok, Gk⟩ := I.kd kind
   refine ⟨pk, ck, ak, ek, Rk.fr F fun x hx hh => ?_, fun x hx => ?_, ?_⟩
   ·rcases hh with hh | hh
    ·have h1 := ho x hh; rw [hok x hx] at h1; exact hkd (by simpa using h1)
    ·have := I.o0 x (by rw [hok x hx]; simp); omega
   ·rw [if_neg fun hh => ?_]
    ·exact hok x hx
    ·rcases hn3 x hh with h | h
     ·have h1 := ho x h; rw [hok x hx] at h1; exact hkd (by simpa using h1)
     ·have := Rk.lt hx; omega
   ·rw [List.filter_append, List.filter_cons_of_neg (by simpa using fun e => hkd e.symm), List.filter_nil, List.append_nil]
    exact Gk.fr F hB hB2
end Go.Proofs.YtjmfpeiidlpngaaGreatDoor
namespace Go.Proofs.YtjmfpeiidlpngaaGreatDoor
set_option linter.unusedSimpArgs false
set_option linter.unusedVariables false
set_option maxRecDepth 20000
open Go
open Go.IntKind (wrap)
theorem GsI.nil {h2 : aA} {m : Nat} (I : vz (zC .i64) h2 m []) : GsI h2 m [] h2 [] fun _ => none :=
 ⟨Fr.refl _ _, I, fun x hx => absurd rfl hx, I.lt, fun kind => ⟨none, 0, [], rfl, Row.nil, fun x hx => (Fp.zM hx).elim, Gps.nil⟩⟩
set_option maxHeartbeats 1000000 in
theorem J6 [Gh] (g : Sl Gr) {h2 : aA} (ok : bJ 5 bI.vals bI.ok h2 g) {m : Nat} (I0 : vz (zC .i64) h2 m []) {A : Addr} {vA : Value} (oA0 : Own h2 A [vA, .map (some m)] po) (nAm : A.block ≠ m) (hl : g.xs.length ≤ 40)
  (hb : ∀ gr ∈ g.xs, gr.Patterns.xs.length ≤ 512 ∧ Au.rb (ptS gr.Patterns).xs = 0) {Q : Value → aA → Prop}
  (hk : ∀ h mm o, GsI h2 m g.xs h mm o → Q (.tuple #[.pointer (some A), .int .i64 0]) h) :
  aJ (fun (s : Int) h Kn => fX A g.p g.xs.length g.cap ((g.xs.length : Nat) : Int) Q s h Kn) 0 h2 := by
 refine aJ.mk (fun st h' => ∃ (k : Nat) (mm : List (Int × Value)) (o : Nat → Option Int), st = (k : Int) ∧ k ≤ g.xs.length ∧ GsI h2 m (g.xs.take k) h' mm o)
  (fun st _ => g.xs.length - st.toNat) ⟨0, [], fun _ => none, rfl, by omega, GsI.nil I0⟩ ?_
 rintro st h1 ⟨k, mm, o, rfl, hkl, I⟩
 unfold fX
 refine ifD (fun hlt => ?_) (fun hge => ?_)
 ·have hi : k < g.xs.length := by omega
  have ok1 := (E9 I0 I.fr).groups ok
  have hbk := hb _ (List.getElem_mem hi)
  have nA2 := oA0.lt
  have lm := I.lt
  have zI := I.size
  have oA : Own h1 A [vA, .map (some m)] po := oA0.fr I.fr fun hh => by rcases hh with hh | hh; exact nAm hh; omega
  refine eN ok1 k rfl hi fun ad cc okr => ?_
  rw [Int.toNat_natCast]
  refine (aB (cc.at0 rfl) (aD (cc.at rfl) (aD (cc.at rfl) (aD (cc.at rfl) (aD (cc.at rfl) ?_)))))
  refine rm rfl rfl fun t11 h3 f3 ht11 o11 => ?_
  have z3 := f3.size
  refine aD (o11.cells.at (j := 2) rfl) ?_
  rw [show g.xs[k].Patterns.xs.length = (ptS g.xs[k].Patterns).xs.length from (List.length_map ..).symm]
  refine Au.H8 (ptS g.xs[k].Patterns) (Ky (bI.ok_fr _ _ _ f3 okr).k2) (fun _ _ _ _ _ => trivial) (by show (g.xs[k].Patterns.xs.map Cd).length ≤ 512; rw [List.length_map]; exact hbk.1) hbk.2 fun a h4 sg ws f4 kx D => ⟨_, _, rfl, ?_⟩
  have z4 := f4.size
  have l11 := o11.lt
  have oA := (oA.fr0 f3).fr0 f4
  have o11 : Own h4 t11 g.xs[k].vals mU := o11.fr0 f4
  have I4 := (I.fr0 f3).fr0 f4
  refine lM (oA.cells.at (j := 1) rfl) (aB (o11.cells.at0 rfl) (lM (oA.cells.at (j := 1) rfl) (aB (o11.cells.at0 rfl) ?_)))
  refine (aB (o11.cells.at0 rfl) (aD (o11.cells.at rfl) (aD (o11.cells.at rfl) (aD (o11.cells.at rfl) (aD (o11.cells.at rfl) ?_)))))
  obtain ⟨p, c, av, hval, _, _, _⟩ := I4.kd g.xs[k].Kind
  have key : ∀ hx (t83 : Addr), Fr (fun _ => False) h4 hx → Own hx t83 (g.xs[k].vals ++ [.pointer (some a)]) kE → h4.size ≤ t83.block → GpB (fun x => x ≠ m ∧ o x = none) hx t83 g.xs[k] := by
   intro hx t83 fx o83 n83
   have on : ∀ x, h1.size ≤ x → o x = none := fun x hx => Classical.byContradiction fun hh => by have := (I.o0 x hh).2; omega
   refine ⟨a, sg, ws, fun h' f' => ⟨(o83.fr f' fun hh => hh ⟨by omega, on _ (by omega)⟩).cells, ?_⟩, (kx.fr0 fx).fr (Fr.refl (fun _ => False) _) (fun _ _ _ => id) fun x hx hh => ⟨by omega, on x (by omega)⟩, D⟩
   refine (E9 I0 ?_).group (by obtain ⟨_, _, _, o⟩ := ok.at_ k hi; exact o)
   have Ix := I4.fr0 fx
   refine Ix.fr.tr f' fun x hx hh => ?_
   refine Classical.byContradiction fun hn => hh ⟨fun e => hn (.inl e), Classical.byContradiction fun h5 => hn (.inr (I.o0 x h5).1)⟩
  have fin : ∀ hx (t83 t84 : Addr) {T : TypeId}, Fr (fun _ => False) h4 hx → Own hx t83 (g.xs[k].vals ++ [.pointer (some a)]) kE → h4.size ≤ t83.block → Own hx t84 [.pointer (some t83)] T →
    dU Tryz.prog .append #[bD, bD] bD #[false, false] #[.slice p av.length c, .slice (some t84) 1 1] hx fun v h23 => ∃ t85a : Option Addr, ∃ t85n : Nat, ∃ t85c : Nat, v = .slice t85a t85n t85c ∧ (ldM h23 (Addr.add A 1) fun t970 => (.map t970 : Value) = .map (some m)) ∧ (ldI h23 t11 .i64 fun t972 => (.int .i64 t972 : Value) = .int .i64 g.xs[k].Kind) ∧ rj Tryz.prog bO (.map (some m)) (.int .i64 g.xs[k].Kind) (.slice t85a t85n t85c) h23 fun h24 => (∃ (k' : Nat) (mm : List (Int × Value)) (o : Nat → Option Int), wrap .i64 ((k : Int) + 1) = (k' : Int) ∧ k' ≤ g.xs.length ∧ GsI h2 m (g.xs.take k') h24 mm o) ∧ g.xs.length - (wrap .i64 ((k : Int) + 1)).toNat < g.xs.length - (k : Int).toNat := by
   intro hx t83 t84 T fx o83 n83 o84
   refine (I4.fr0 fx).put g.xs[k] o84 (key hx t83 fx o83 n83) (by rw [List.length_take]; omega) hval (fun h' S f' hS => ?_) fun h' mm' o' f' I' => ?_
   ·have oAx := (oA.fr0 fx).fr f' fun hh => by have := (I.o0 _ (hS _ hh)).1; omega
    have o11x := (o11.fr0 fx).fr f' fun hh => by have := (I.o0 _ (hS _ hh)).2; omega
    exact ⟨oAx.cells.at (j := 1) rfl, o11x.cells.at0 rfl⟩
   ·rw [wr (by omega) (by omega)]
    refine ⟨⟨k + 1, mm', o', by omega, by omega, ?_⟩, by omega⟩
    rw [show g.xs.take (k + 1) = g.xs.take k ++ [g.xs[k]] by rw [List.take_append_getElem]]
    exact I'
  refine ⟨?_, ?_⟩
  ·refine wL Ee Tryz.underlying76 Fy I4.map g.xs[k].Kind false ?_
   rw [if_neg (by decide)]
   refine ⟨_, _, _, hval, (lM (oA.cells.at (j := 1) rfl) rfl), (aB (o11.cells.at0 rfl) rfl), (by refine (aB (o11.cells.at0 rfl) (aD (o11.cells.at rfl) (aD (o11.cells.at rfl) (aD (o11.cells.at rfl) (aD (o11.cells.at rfl) ?_))))); rfl), ?_⟩
   refine bA (vs := g.xs[k].vals ++ [.pointer (some a)]) fun t83 h5 f5 e5 o83 => ?_
   have z5 := f5.size
   have oA := oA.fr0 f5
   have o11 := o11.fr0 f5
   refine ⟨(lM (oA.cells.at (j := 1) rfl) rfl), (aB (o11.cells.at0 rfl) rfl), (lM (oA.cells.at (j := 1) rfl) rfl), (aB (o11.cells.at0 rfl) rfl), ?_⟩
   refine bA (vs := [.pointer (some t83)]) fun t84 h6 f6 e6 o84 => ?_
   have oA := oA.fr0 f6
   have o11 := o11.fr0 f6
   refine ⟨(lM (oA.cells.at (j := 1) rfl) rfl), (aB (o11.cells.at0 rfl) rfl), (lM (oA.cells.at (j := 1) rfl) rfl), (aB (o11.cells.at0 rfl) rfl), ?_⟩
   exact fin h6 t83 t84 (f5.trans f6) (o83.fr0 f6) (by omega) o84
  ·refine bA (vs := g.xs[k].vals ++ [.pointer (some a)]) fun t83 h5 f5 e5 o83 => ?_
   have z5 := f5.size
   have oA := oA.fr0 f5
   have o11 := o11.fr0 f5
   refine ⟨(lM (oA.cells.at (j := 1) rfl) rfl), (aB (o11.cells.at0 rfl) rfl), (lM (oA.cells.at (j := 1) rfl) rfl), (aB (o11.cells.at0 rfl) rfl), ?_, ?_⟩
   ·refine wL Ee Tryz.underlying76 Fy (I4.map.fr f5 id) g.xs[k].Kind false ?_
    rw [if_neg (by decide)]
    refine ⟨_, _, _, hval, (lM (oA.cells.at (j := 1) rfl) rfl), (aB (o11.cells.at0 rfl) rfl), (by refine (aB (o11.cells.at0 rfl) (aD (o11.cells.at rfl) (aD (o11.cells.at rfl) (aD (o11.cells.at rfl) (aD (o11.cells.at rfl) ?_))))); rfl), ?_⟩
    refine bA (vs := [.pointer (some t83)]) fun t84 h6 f6 e6 o84 => ?_
    have oA := oA.fr0 f6
    have o11 := o11.fr0 f6
    refine ⟨(lM (oA.cells.at (j := 1) rfl) rfl), (aB (o11.cells.at0 rfl) rfl), (lM (oA.cells.at (j := 1) rfl) rfl), (aB (o11.cells.at0 rfl) rfl), ?_⟩
    exact fin h6 t83 t84 (f5.trans f6) (o83.fr0 f6) (by omega) o84
   ·refine bA (vs := [.pointer (some t83)]) fun t84 h6 f6 e6 o84 => ?_
    have oA := oA.fr0 f6
    have o11 := o11.fr0 f6
    refine ⟨(lM (oA.cells.at (j := 1) rfl) rfl), (aB (o11.cells.at0 rfl) rfl), (lM (oA.cells.at (j := 1) rfl) rfl), (aB (o11.cells.at0 rfl) rfl), ?_⟩
    refine wL Ee Tryz.underlying76 Fy ((I4.map.fr f5 id).fr f6 id) g.xs[k].Kind false ?_
    rw [if_neg (by decide)]
    refine ⟨_, _, _, hval, (lM (oA.cells.at (j := 1) rfl) rfl), (aB (o11.cells.at0 rfl) rfl), (by refine (aB (o11.cells.at0 rfl) (aD (o11.cells.at rfl) (aD (o11.cells.at rfl) (aD (o11.cells.at rfl) (aD (o11.cells.at rfl) ?_))))); rfl), ?_⟩
    exact fin h6 t83 t84 (f5.trans f6) (o83.fr0 f6) (by omega) o84
 ·have : k = g.xs.length := by omega
  subst this
  rw [List.take_length] at I
  exact hk h1 mm o I
end Go.Proofs.YtjmfpeiidlpngaaGreatDoor
namespace Go.Proofs.YtjmfpeiidlpngaaGreatDoor
set_option linter.unusedSimpArgs false
set_option linter.unusedVariables false
set_option maxRecDepth 20000
open Go
open Go.IntKind (wrap)
def wx (N : Nat) (h : aA) (s : Addr) (bs : List Bd) (gs : List Gr) : Prop := N ≤ h.size ∧ ∃ p1 c1 m mm, Kp (fun x => x < N) h (fun h' => bB h' s [.slice p1 bs.length c1, .map (some m)] ∧ Row 25 aF.vals h' p1 c1 bs ∧ (∀ b ∈ bs, aF.ok h' b) ∧ vz (zC .i64) h' m mm) ∧
 ∀ kind : Int, ∃ p c av, (pH mm kind).getD (.slice none 0 0) = .slice p (av : List Addr).length c ∧ Kp (fun x => x < N) h (fun h' => Row 1 adV h' p c av) ∧ Gps (fun x => x < N) h av (gs.filter fun g => g.Kind = kind)
theorem wx.fr {N : Nat} {S : Nat → Prop} {h h' : aA} {s : Addr} {bs : List Bd} {gs : List Gr} (T : wx N h s bs gs) (f : Fr S h h') (hs : ∀ x, x < h.size → S x → N ≤ x) : wx N h' s bs gs := by
 obtain ⟨hN, p1, c1, m, mm, k1, k2⟩ := T
 have h1 : ∀ x, x < h.size → x < N → ¬ S x := fun x hx hn hh => by have := hs x hx hh; omega
 refine ⟨Nat.le_trans hN f.size, p1, c1, m, mm, k1.fr f h1 fun _ _ => id, fun kind => ?_⟩
 obtain ⟨p, c, av, e, k, G⟩ := k2 kind
 exact ⟨p, c, av, e, k.fr f h1 fun _ _ => id, G.fr f h1 fun _ _ => id⟩
theorem wx.fr0 {N : Nat} {h h' : aA} {s : Addr} {bs : List Bd} {gs : List Gr} (f : Fr (fun _ => False) h h') (T : wx N h s bs gs) : wx N h' s bs gs := T.fr f fun _ _ h => h.elim
structure Snd (b : Bd) : Prop where
 ck : Au.vo b.Rule
 l1 : b.Src.xs.length ≤ 6
 l2 : b.Dst.xs.length ≤ 6
 l3 : b.SrcPorts.xs.length ≤ 6
 l4 : b.DstPorts.xs.length ≤ 6
theorem Snd.len {b : Bd} (s : Snd b) : Ks b := by
 obtain ⟨c, h1, h2, h3, h4⟩ := s
 have := c.src; have := c.dst; have := c.sp; have := c.dp; have := c.trn; have := c.conn; have := c.tesn; have := c.flon
 exact ⟨by omega, by omega, by omega, by omega, by omega, by omega, by omega, by omega, by omega, by omega, by omega, by omega⟩
theorem Snd.short {b : Bd} (s : Snd b) : Fp.Hj b.Rule := ⟨⟨by have := s.ck.conn; omega, fun c hc => by have := s.ck.con c hc; omega⟩, by have := s.ck.trn; omega⟩
theorem Snd.wipe {b b' : Bd} (s : Snd b) (e : wipe b' = wipe b) : Snd b' := by
 have hs : ∀ b : Bd, Snd (Go.Proofs.YtjmfpeiidlpngaaGreatDoor.wipe b) ↔ Snd b := fun b => ⟨fun ⟨c, h1, h2, h3, h4⟩ => ⟨⟨c.act, c.proto, c.sid, c.prio, c.dir, c.kind, c.msg, c.trn, c.conn, c.tesn, c.flon, c.src, c.dst, c.sp, c.dp, c.tr, c.con, c.tes, c.flo⟩, h1, h2, h3, h4⟩,
  fun ⟨c, h1, h2, h3, h4⟩ => ⟨⟨c.act, c.proto, c.sid, c.prio, c.dir, c.kind, c.msg, c.trn, c.conn, c.tesn, c.flon, c.src, c.dst, c.sp, c.dp, c.tr, c.con, c.tes, c.flo⟩, h1, h2, h3, h4⟩⟩
 exact (hs b').1 (e ▸ (hs b).2 s)
theorem As {P : List Fp.Grp → Prop} (l : List Fp.Ru) (ha : ∀ k gs, ∀ r ∈ l, P gs → P (Fp.yB k r gs)) : ∀ (l' : List Fp.Ru), (∀ r ∈ l', r ∈ l) → ∀ k gs, P gs → P (Fp.fT l' k gs)
 | [], _, _, _, h => h
 | r :: l', hl, k, gs, h => by
  rw [Fp.fT]
  exact As l ha l' (fun x hx => hl x (List.mem_cons_of_mem _ hx)) _ _ (ha k gs r (hl r (by simp)) h)
def FK (gs : List Fp.Grp) : Prop := ∀ g ∈ gs, ∀ p ∈ g.pats, 1 ≤ p.1.length ∧ p.1.length ≤ 64
theorem Do {cs : List Fp.Cn} (sh : ∀ c ∈ cs, 1 ≤ c.Pattern.length ∧ c.Pattern.length ≤ 64) {p : List UInt8 × Bool} (hp : Fp.uy cs = some p) : 1 ≤ p.1.length ∧ p.1.length ≤ 64 := by
 unfold Fp.uy at hp
 split at hp
 ·cases hp
 ·rename_i hneg
  have hlt := Fp.tA cs
  simp only [Option.some.injEq] at hp
  subst hp
  have hk : (Fp.fN cs).toNat < cs.length := by omega
  have e : cs.getD (Fp.fN cs).toNat Fp.noC = cs[(Fp.fN cs).toNat] := by rw [List.getD_eq_getElem?_getD, List.getElem?_eq_getElem hk]; rfl
  have := sh _ (List.getElem_mem hk)
  simp only [e]
  split
  ·simpa using this
  ·exact this
theorem FK.add {gs : List Fp.Grp} (s : FK gs) (k : Nat) (r : Fp.Ru) (sh : ∀ c ∈ r.Contents.xs, 1 ≤ c.Pattern.length ∧ c.Pattern.length ≤ 64) : FK (Fp.yB k r gs) := by
 have hs : FK (Fp.tY r gs) := by
  intro g hg
  unfold Fp.tY at hg
  split at hg
  ·rcases List.mem_append.1 hg with hg | hg
   ·exact s g hg
   ·rw [List.mem_singleton.1 hg]; intro p hp; cases hp
  ·exact s g hg
 intro g hg
 rcases Fp.mT hg with hg | ⟨y, hy, rfl⟩
 ·exact hs g hg
 ·unfold Fp.rX
  split
  ·exact hs y hy
  ·rename_i p hp
   split
   ·intro q hq
    rcases List.mem_append.1 hq with hq | hq
    ·exact hs y hy q hq
    ·rw [List.mem_singleton.1 hq]; exact Do sh hp
   ·exact hs y hy
theorem wT (l : List Fp.Ru) : ∀ n k gs, k + n = l.length → Fp.se k gs → Fp.se l.length (Fp.fT (l.drop k) k gs)
 | 0, k, gs, e, s => by rw [List.drop_eq_nil_of_le (by omega), Fp.fT]; rw [← e]; exact s
 | n + 1, k, gs, e, s => by
  rw [Fp.yv l k (by omega)]
  exact wT l n (k + 1) _ (by omega) (s.add _)
theorem HB (l : List Fp.Ru) : Fp.se l.length (Fp.ph l) := by
 have := wT l l.length 0 [] (by omega) ⟨Nat.le_refl _, fun g hg => by cases hg⟩
 rwa [List.drop_zero] at this
theorem LA (l : List Fp.Ru) (sh : ∀ r ∈ l, ∀ c ∈ r.Contents.xs, 1 ≤ c.Pattern.length ∧ c.Pattern.length ≤ 64) : FK (Fp.ph l) :=
 As l (fun k gs r hr h => h.add k r (sh r hr)) l (fun _ h => h) 0 [] fun g hg => by cases hg
theorem A7 : ∀ L : List Au.Pt, (∀ p ∈ L, 1 ≤ p.t.length ∧ p.t.length ≤ 64) → Au.rb L = 0
 | [], _ => rfl
 | p :: L, h => by
  have := h p (by simp)
  unfold Au.rb
  rw [if_neg (fun e => by rw [e] at this; simp at this), if_neg (by omega)]
  exact A7 L fun q hq => h q (List.mem_cons_of_mem _ hq)
theorem vQ : ∀ (l : List Fp.Ru) k gs, Fp.fT (l.map J9) k gs = Fp.fT l k gs
 | [], _, _ => rfl
 | r :: l, k, gs => by rw [List.map_cons, Fp.fT, Fp.fT, vQ l]; rfl
def iE (l : List Bd) : List Fp.Grp := Fp.ph (l.map (·.Rule))
theorem qp {l l' : List Bd} (e : l.map wipe = l'.map wipe) : iE l = iE l' := by
 have h : ∀ l : List Bd, iE l = Fp.ph ((l.map wipe).map (·.Rule)) := fun l => by
  unfold iE Fp.ph
  rw [← vQ, List.map_map, List.map_map]; rfl
 rw [h, h, e]
theorem xw {l l' : List Bd} (e : l.map wipe = l'.map wipe) {b : Bd} (hb : b ∈ l) : ∃ b' ∈ l', wipe b = wipe b' := by
 have : wipe b ∈ l'.map wipe := e ▸ List.mem_map_of_mem hb
 obtain ⟨b', h1, h2⟩ := List.mem_map.1 this
 exact ⟨b', h1, h2.symm⟩
theorem Bq [Gh] (l : Sl Bd) {h : aA} (ok : bJ 25 aF.vals aF.ok h l) (hl : l.xs.length ≤ 40) (sd : ∀ b ∈ l.xs, Snd b) {Q : Value → aA → Prop}
  (hbad : ∀ h', Fr (fun _ => False) h h' → ¬ (l.xs.map va).Nodup → Q (.tuple #[.pointer none, .int .i64 7]) h')
  (hk : ∀ s h' bs gs, Fr (fun _ => False) h h' → wx h'.size h' s bs gs → bs.map wipe = l.xs.map wipe → gs.map Fp.fP = iE l.xs → (l.xs.map va).Nodup → Q (.tuple #[.pointer (some s), .int .i64 0]) h') :
  aE Tryz.prog kj #[.slice l.p l.xs.length l.cap] h Q := by
 apply wR
 unfold rk
 refine ifD (fun e => by omega) fun _ => ?_
 refine DC (zC .i64) fun m h1 f1 em M1 => ?_
 refine bA (vs := [.slice none 0 0, .map (some m)]) fun A h2 f2 e2 oA => ?_
 refine DC (zC .i64) fun seen h3 f3 es M3 => ?_
 have z1 := f1.size; have z2 := f2.size; have z3 := f3.size
 have lm := M1.lt; have lA := oA.lt
 have f03 := (f1.trans f2).trans f3
 refine Gc l ok hl (fun b hb => (sd b hb).len) (A := A) (m := m) (seen := seen) ⟨by omega, f03, oA.fr0 f3, Row.nil, Row.nil, (M1.fr f2 id).fr f3 id, M3, rfl, fun b hb => (List.not_mem_nil hb).elim, fun x hx => (dJ hx).elim, fun x hx => (dJ hx).elim, by omega, List.nodup_nil⟩ hbad fun h4 p1 c1 p2 c2 bs C => ?_
 have z4 := C.fr.size
 have blen : bs.length = l.xs.length := C.len
 have okb : ∀ b ∈ bs, aF.ok h4 b := fun b hb => (C.st b hb).now
 have sdb : ∀ b ∈ bs, Snd b := fun b hb => by
  obtain ⟨b', hb', e⟩ := xw (l' := l.xs) (by rw [C.wp, List.take_length]) hb
  exact (sd b' hb').wipe e
 have wp : bs.map wipe = l.xs.map wipe := by rw [C.wp, List.take_length]
 unfold kA
 have okr : bJ 21 aO.vals aO.ok h4 ⟨p2, c2, bs.map (·.Rule)⟩ := C.r2.sl Dk (by omega) (by rw [List.length_map]; omega) fun r hr => by
  obtain ⟨b, hb, rfl⟩ := List.mem_map.1 hr
  exact (okb b hb).k0
 have call : ∀ (R : Sl aO), R = ⟨p2, c2, bs.map (·.Rule)⟩ → (∀ (g : Sl bI) h', Fr (fun _ => False) h4 h' → Fp.El h' g → g.xs.map Fp.fP = Fp.ph R.xs → aJ (fun (s : Int) h Kn => fX A g.p g.xs.length g.cap ((g.xs.length : Nat) : Int) Q s h Kn) 0 h') →
   aE Tryz.prog iZ #[.slice R.p R.xs.length R.cap] h4 fun v h16 => ∃ t55a : Option Addr, ∃ t55n : Nat, ∃ t55c : Nat, v = .slice t55a t55n t55c ∧ aJ (fun (s : Int) h Kn => fX A t55a t55n t55c ((t55n : Nat) : Int) Q s h Kn) 0 h16 := fun R hR hK => by
  refine Fp.Hg R (hR ▸ okr) (by rw [hR]; show (bs.map _).length ≤ 40; rw [List.length_map]; omega) (fun r hr => ?_) fun g h5 f5 okg eg => ⟨_, _, _, rfl, hK g h5 f5 okg eg⟩
  rw [hR] at hr
  obtain ⟨b, hb, rfl⟩ := List.mem_map.1 hr
  exact (sdb b hb).short
 refine (fun call => ?_) (call _ rfl fun g h5 f5 okg eg => ?_)
 ·rw [show (⟨p2, c2, bs.map (·.Rule)⟩ : Sl aO).xs.length = l.xs.length by show (bs.map _).length = _; rw [List.length_map]; exact blen] at call
  exact call
 have z5 := f5.size
 have sm : Fp.se bs.length (iE bs) := by have := HB (bs.map (·.Rule)); rwa [List.length_map] at this
 have pg : FK (iE bs) := LA _ fun r hr c hc => by
  obtain ⟨b, hb, rfl⟩ := List.mem_map.1 hr
  have := (sdb b hb).ck.con c hc; omega
 have eg' : g.xs.map Fp.fP = iE bs := eg
 have glen : g.xs.length ≤ 40 := by
  have h1 := congrArg List.length eg'
  rw [List.length_map] at h1
  have := sm.len; omega
 refine J6 g okg (C.mm.fr f5 id) (vA := .slice p1 l.xs.length c1) (C.own.fr0 f5) C.nA.2.2.2.1 glen (fun gr hgr => ?_) fun h6 mm o I => ?_
 ·have hm : Fp.fP gr ∈ iE bs := by rw [← eg']; exact List.mem_map_of_mem hgr
  have h1 := (sm.g _ hm).1
  have h2 := pg _ hm
  have e1 : (Fp.fP gr).pats.length = gr.Patterns.xs.length := List.length_map ..
  refine ⟨by omega, A7 _ fun p hp => ?_⟩
  obtain ⟨q, hq, rfl⟩ := List.mem_map.1 hp
  exact h2 (q.Text, q.Nocase) (List.mem_map_of_mem hq)
 ·have zI := I.size
  have l1 : ∀ x, InA p1 x → x < h4.size := fun x hx => C.r1.lt hx
  have lA4 := C.own.lt
  have hF : Fr (fun x => x = m ∨ h5.size ≤ x) h5 h6 := I.fr
  have big : ∀ h7, Fr (fun x => ¬ x < h6.size) h6 h7 → Fr (fun _ => False) h6 h7 := fun h7 f => f.mono' fun x hx hh => hh hx
  have nA := C.nA
  have sub : Fr (fun _ => False) h h6 := (C.fr.trans f5).tr hF fun x hx hh => by omega
  refine hk A h6 bs g.xs sub ⟨Nat.le_refl _, p1, c1, m, mm, fun h7 f7 => ?_, fun kind => ?_⟩ wp (eg'.trans (qp wp)) (by have := C.nd; rwa [List.take_length] at this)
  ·have f7' := big h7 f7
   have oA6 := ((C.own.fr0 f5).fr hF fun hh => by omega).fr0 f7'
   refine ⟨?_, (((C.r1.fr0 f5).fr hF fun x hx hh => by have := l1 x hx; have := C.n1 x hx; omega).fr0 f7'), fun b hb => ?_, I.map.fr f7' id⟩
   ·have := oA6.cells
    rwa [← blen] at this
   ·refine ((((C.st b hb).fr (B' := fun x => x ≠ m) f5 (fun _ _ _ => id) fun x hx hh => hh.2.2.1).fr (B' := fun x => x ≠ m) hF (fun x hx h1 hh => ?_) fun x hx hh => hh).fr (B' := fun x => x ≠ m) f7' (fun _ _ _ => id) fun x hx hh => hh).now
    rcases hh with hh | hh
    ·exact h1 hh
    ·omega
  ·obtain ⟨p, c, av, e, R, ho, G⟩ := I.kd kind
   exact ⟨p, c, av, e, fun h7 f7 => R.fr0 (big h7 f7), G.fr (Fr.refl (fun _ => False) _) (fun _ _ _ => id) fun x hx _ => hx⟩
end Go.Proofs.YtjmfpeiidlpngaaGreatDoor
namespace Go.Proofs.YtjmfpeiidlpngaaGreatDoor.Au
set_option linter.unusedSimpArgs false
set_option linter.unusedVariables false
set_option maxRecDepth 20000
open Go
open Go.IntKind (wrap)
structure x4 (h : aA) (c a : Addr) (now at' : Nat) (tl : Nm) (p : Option Addr) (cap : Nat) : Prop where
 own : Own h c [.pointer (some a), .int .u16 now, .int .i64 at', .slice p tl.length cap] fZ
 row : Row 1 bV h p cap tl
 nc : ¬ InA p c.block
theorem x4.fr {S : Nat → Prop} {h h' : aA} {c a : Addr} {now at' : Nat} {tl : Nm} {p : Option Addr} {cap : Nat} (C : x4 h c a now at' tl p cap) (f : Fr S h h') (h1 : ¬ S c.block) (h2 : ∀ x, InA p x → ¬ S x) : x4 h' c a now at' tl p cap :=
 ⟨C.own.fr f h1, C.row.fr f h2, C.nc⟩
theorem x4.fr0 {h h' : aA} {c a : Addr} {now at' : Nat} {tl : Nm} {p : Option Addr} {cap : Nat} (f : Fr (fun _ => False) h h') (C : x4 h c a now at' tl p cap) : x4 h' c a now at' tl p cap := C.fr f id fun _ _ => id
def spB (L : List Pt) (tl : Nm) (j : Nat) : Bool := (L.getD j ⟨[], false⟩).nc || decide (tl.drop (tl.length - (L.getD j ⟨[], false⟩).t.length) = (L.getD j ⟨[], false⟩).t)
theorem BN (L : List Pt) (j : Nat) (hj : j < L.length) : L.getD j ⟨[], false⟩ = L[j] := by rw [List.getD_eq_getElem?_getD, List.getElem?_eq_getElem hj]; rfl
theorem Dq {h : aA} {p : Option Addr} {cap : Nat} {l : Nm} (R : Row 1 bV h p cap l) (k : Nat) {n : Int} (hn : n = k) (hk : k ≤ l.length) {K : Option Addr → Nat → Nat → Prop}
  (hK : ∀ p' c', (∀ ad, p' = some ad → bB h ad (eJ (l.drop k))) → (p' = none → l.drop k = []) → K p' (l.drop k).length c') : gL 1 p l.length cap (some n) none none K := by
 subst hn
 unfold gL
 refine ⟨by omega, by omega, ?_⟩
 rw [Int.toNat_natCast, ← List.length_drop]
 have hle := R.le
 have hb := R.own
 rw [vk] at hb
 by_cases hc : cap = k
 ·have e : l.drop k = [] := List.drop_eq_nil_of_le (by omega)
  rw [if_pos hc]
  exact hK _ _ (fun ad _ => by rw [e]; intro j hj; exact absurd hj (Nat.not_lt_zero _)) fun _ => e
 ·rw [if_neg hc]
  cases p with
  | none => exact hK _ _ (fun ad he => by cases he) fun _ => by have := hb.1; simp [eJ] at this; rw [this]; simp
  | some ad =>
   refine hK _ _ (fun ad' he => ?_) fun he => by cases he
   simp only [Option.map_some, Option.some.injEq, Nat.mul_one] at he
   subst he
   have := hb.cells.sub k
   unfold eJ at this ⊢
   rw [← List.map_drop] at this; exact this
theorem Je [Gh] {h : aA} {c a : Addr} {sg : List St} {L : List Pt} {now at' : Nat} {tl : Nm} {p : Option Addr} {cap : Nat} (A : FR h a sg L) (C : x4 h c a now at' tl p cap) (j : Nat) (hj : j < L.length) (hlen : L[j].t.length ≤ tl.length) (htl : tl.length ≤ 64) {Q : Value → aA → Prop}
  (hk : ∀ h', Fr (fun _ => False) h h' → Q (.bool (spB L tl j)) h') : aE Tryz.prog l7 #[.pointer (some c), .int .i64 j] h Q := by
 apply rV
 unfold mB
 obtain ⟨q, cq, pq, pc, ca, _, S⟩ := A.blk
 have cc := C.own.cells
 unfold spB at hk
 rw [BN L j hj] at hk
 refine aS (aU (cc.at0 rfl) (aS (aD (ca.at rfl) (S.get j rfl hj fun ad ci => ?_))))
 rw [Int.toNat_natCast]
 refine aY (ci.at0 rfl) (aG (ci.at (j := 1) rfl) ?_)
 refine bA (vs := [.string (bs []), .bool false]) fun t5 h1 f1 e1 o1 => ?_
 refine jQ o1 (ws := [.string (bs L[j].t), .bool L[j].nc]) (by rfl) (by rfl) fun h2 f2 s2 o2 => ?_
 have F2 : Fr (fun _ => False) h h2 := f1.tr f2 fun b hb hi => by omega
 have c2 := o2.cells
 refine aG (c2.at (j := 1) rfl) (ifB (fun e => ?_) fun e => ?_)
 ·rw [e] at hk; exact hk h2 F2
 rw [e, Bool.false_or] at hk
 have cc2 := cc.fr0 F2
 refine aS (aD (cc2.at rfl) (aS (aD (cc2.at rfl) (aY (c2.at0 rfl) ?_))))
 rw [bN, wr (by omega) (by omega)]
 refine Dq (C.row.fr0 F2) (tl.length - L[j].t.length) (by omega) (by omega) fun p' c' h3 h4 => ?_
 refine aY (c2.at0 rfl) ?_
 refine sY Tryz.underlying98 Tryz.underlying9 Tryz.underlying5 rfl h3 h4 ⟨_, rfl, aY (c2.at0 rfl) rfl, ?_⟩
 refine Qeq (hk h2 F2) ?_
 congr 1
 show _ = ((bs (tl.drop (tl.length - L[j].t.length))).toList == (bs L[j].t).toList)
 rw [j5, j5]
 rw [Bool.eq_iff_iff, decide_eq_true_iff, beq_iff_eq]
theorem LO [Gh] {h : aA} {p : Option Addr} {cap : Nat} {L : List Nat} (R : Row 1 inV h p cap L) {e : Nat} {b : Addr} {T : TypeId} (ob : Own h b (inV e) T) (hl : L.length ≤ 2 ^ 29) {K : Value → aA → Prop}
  (hk : ∀ p' cap' h', Row 1 inV h' p' cap' (L ++ [e]) → Fr (InA p) h h' → (∀ b, InA p' b → InA p b ∨ h.size ≤ b) → K (.slice p' (L ++ [e]).length cap') h') :
  dU Tryz.prog .append #[bL, bL] bL #[false, false] #[.slice p L.length cap, .slice (some b) 1 1] h K :=
 R.app ti Tryz.underlying46 (by intro k e; cases e) (by kernel_rfl) (by decide +kernel) vy (fun _ => rfl) ob 1 hl hk
theorem Kw [Gh] {h : aA} {q : Option Addr} {cq : Nat} {l : List Nat} (R : Row 1 inV h q cq l) (hl : l.length ≤ 2 ^ 20) (F : Value) (P : Nat → Bool)
  (hF : ∀ h', Fr (fun _ => False) h h' → ∀ j ∈ l, ∀ Q : Value → aA → Prop, (∀ h'', Fr (fun _ => False) h' h'' → Q (.bool (P j)) h'') → mw Tryz.prog F #[.int .i64 j] h' Q) {Q : Value → aA → Prop}
  (hk : ∀ r rc h', Fr (fun _ => False) h h' → Row 1 inV h' r rc (l.filter P) → (∀ x, InA r x → h.size ≤ x) → Q (.slice r (l.filter P).length rc) h') :
  aE Tryz.prog nX #[.slice q l.length cq, F] h Q := by
 apply xQ
 unfold sN
 refine aJ.go (fun n st h' => ∃ (i : Nat), st.2.2.2 = (i : Int) ∧ st.2.1 = ((l.take i).filter P).length ∧ i ≤ l.length ∧ n = l.length - i ∧ Fr (fun _ => False) h h' ∧ Row 1 inV h' st.1 st.2.2.1 ((l.take i).filter P) ∧ ∀ x, InA st.1 x → h.size ≤ x) l.length
  ⟨0, rfl, rfl, by omega, rfl, Fr.refl _ _, Row.nil, fun x hx => (dJ hx).elim⟩ ?_
 rintro n ⟨ra, rn, rc, t10⟩ h1 ⟨i, e1, e2, hi, rfl, f1, R1, hr⟩ Kn hK
 dsimp only at e1 e2 R1 hr
 subst e1 e2
 dsimp only
 unfold nQ
 have z1 := f1.size
 refine ifD (fun e => ?_) fun e => ?_
 ·have hil : i < l.length := by omega
  have htk : (l.take (i + 1)).filter P = (l.take i).filter P ++ (if P l[i] = true then [l[i]] else []) := by
   rw [show l.take (i + 1) = l.take i ++ [l[i]] by rw [List.take_append_getElem], List.filter_append, List.filter_cons, List.filter_nil]
  have hfl : ((l.take i).filter P).length ≤ i := Nat.le_trans (List.length_filter_le ..) (by rw [List.length_take]; omega)
  refine (R.fr0 f1).idx vy (by decide) i rfl hil fun ad ci => ?_
  rw [Int.toNat_natCast]
  refine aB (ci.at0 rfl) (hF h1 f1 l[i] (List.getElem_mem hil) _ fun h2 f2 => ⟨_, rfl, ?_⟩)
  have f12 := f1.trans f2
  have z2 := f2.size
  rw [wr (by omega) (by omega)]
  refine ifB (fun e3 => ?_) fun e3 => ?_
  ·rw [if_pos e3] at htk
   refine bA (vs := inV l[i]) fun t19 h3 f3 e3 o3 => ?_
   have z3 := f3.size
   refine LO ((R1.fr0 f2).fr0 f3) o3 (by omega) fun p' c' h4 R4 f4 hn4 => ⟨_, _, _, rfl, ?_⟩
   rw [← htk] at R4 ⊢
   refine hK (l.length - (i + 1)) _ _ (by omega) ⟨i + 1, rfl, rfl, hil, rfl, (f12.trans f3).tr f4 fun x hx hh => by have := hr x hh; omega, R4, fun x hx => ?_⟩
   rcases hn4 x hx with hh | hh
   ·exact hr x hh
   ·omega
  ·rw [if_neg (by rw [e3]; decide), List.append_nil] at htk
   exact hK (l.length - (i + 1)) _ _ (by omega) ⟨i + 1, rfl, by dsimp only; rw [htk], hil, rfl, f12, by rw [htk]; exact R1.fr0 f2, hr⟩
 ·have : i = l.length := by omega
  subst this
  rw [List.take_length] at R1 ⊢
  exact hk ra rc h1 f1 R1 hr
end Go.Proofs.YtjmfpeiidlpngaaGreatDoor.Au
namespace Go.Proofs.YtjmfpeiidlpngaaGreatDoor.Au
set_option linter.unusedSimpArgs false
set_option linter.unusedVariables false
set_option maxRecDepth 20000
open Go
def nY (L : List Pt) (s : Nm) : List Nat := (List.range L.length).filter fun j => uA (L.getD j ⟨[], false⟩) s s.length
theorem Ep (L : List Pt) (s : Nm) : (nY L s).Pairwise (· < ·) := List.Pairwise.filter _ List.pairwise_lt_range
theorem sy {L : List Pt} {w : Nm} {j : Nat} : j ∈ iX L L.length w ↔ j < L.length ∧ cI (L.getD j ⟨[], false⟩).t = w := by
 unfold iX
 rw [List.mem_filter, List.mem_range, decide_eq_true_iff]
theorem CM (s : Nm) (k : Nat) (hk : k ≤ s.length) : zU s k s.length = s.drop (s.length - k) := by
 unfold zU
 rw [List.take_of_length_le]
 rw [List.length_drop]; omega
theorem Iq {v s : Nm} : v <:+ s ↔ v.length ≤ s.length ∧ s.drop (s.length - v.length) = v := by
 constructor
 ·intro h
  exact ⟨h.length_le, (List.suffix_iff_eq_drop.1 h).symm⟩
 ·rintro ⟨_, h⟩
  rw [← h]; exact List.drop_suffix _ _
section
variable {sg : List St} {ws : List Nm} {L : List Pt}
theorem zG.pre' {E : Nm → List Nat} (D : zG sg ws E) : Pre ws := ⟨List.mem_of_getElem? D.z, D.pre⟩
theorem Du (he : rb L = 0) : iX L L.length [] = [] := by
 rw [List.eq_nil_iff_forall_not_mem]
 intro j hj
 obtain ⟨h1, h2⟩ := sy.1 hj
 rw [BN L j h1] at h2
 refine (vr he _ (List.getElem_mem h1)).1 ?_
 unfold cI at h2
 exact List.map_eq_nil_iff.1 h2
theorem EC (w : Nm) : (iX L L.length w).Nodup := List.Pairwise.filter _ List.nodup_range
theorem Hq (v w : Nm) (j : Nat) (h1 : j ∈ iX L L.length v) (h2 : j ∈ iX L L.length w) : v = w := (sy.1 h1).2.symm.trans (sy.1 h2).2
theorem yb (D : zG sg ws (iX L L.length)) (he : rb L = 0) (s : Nm) : (mM ws (iX L L.length) (ls ws s)).Nodup :=
 yc D.pre' _ (Du he) EC Hq _ _ (Nat.le_refl _) (xE D.pre' s)
theorem BD (D : zG sg ws (iX L L.length)) (hw : ∀ w, w ∈ ws ↔ wd L L.length w) (he : rb L = 0) (s : Nm) (j : Nat) :
  j ∈ mM ws (iX L L.length) (ls ws s) ↔ j < L.length ∧ cI (L.getD j ⟨[], false⟩).t <:+ s := by
 rw [vx D.pre' _ (Du he) j _ _ (Nat.le_refl _) (xE D.pre' s)]
 constructor
 ·rintro ⟨v, h1, h2, h3⟩
  obtain ⟨h4, h5⟩ := sy.1 h3
  refine ⟨h4, ?_⟩
  rw [h5]; exact h1.trans (u4 s)
 ·rintro ⟨h1, h2⟩
  have hm : cI (L.getD j ⟨[], false⟩).t ∈ ws := (hw _).2 (.inr ⟨j, h1, h1, by rw [BN L j h1]; exact List.prefix_refl _⟩)
  exact ⟨_, x8 s h2 hm, hm, sy.2 ⟨h1, rfl⟩⟩
theorem IB (s : Nm) (k : Nat) (h1 : k ≤ 64) (h2 : k ≤ s.length) : (s.drop (s.length - 64)).drop ((s.drop (s.length - 64)).length - k) = s.drop (s.length - k) := by
 rw [List.drop_drop, List.length_drop]
 congr 1; omega
theorem Fm (p : Pt) (s : Nm) (h1 : p.t ≠ []) (h2 : p.t.length ≤ 64) :
  uA p s s.length = true ↔ cI p.t <:+ cI s ∧ (p.nc || decide ((s.drop (s.length - 64)).drop ((s.drop (s.length - 64)).length - p.t.length) = p.t)) = true := by
 have hs : cI p.t <:+ cI s ↔ p.t.length ≤ s.length ∧ cI (s.drop (s.length - p.t.length)) = cI p.t := by
  rw [Iq, jq, jq]
  unfold cI
  rw [List.map_drop]
 unfold uA
 rw [Bool.and_eq_true, Bool.and_eq_true, decide_eq_true_iff, decide_eq_true_iff, hs]
 constructor
 ·rintro ⟨_, h3, h4⟩
  rw [CM s _ h3] at h4
  rw [IB s _ h2 h3]
  by_cases hn : p.nc = true
  ·rw [if_pos hn, decide_eq_true_iff] at h4
   exact ⟨⟨h3, h4⟩, by rw [hn]; rfl⟩
  ·rw [if_neg hn, decide_eq_true_iff] at h4
   exact ⟨⟨h3, by rw [h4]⟩, by rw [h4]; simp⟩
 ·rintro ⟨⟨h3, h4⟩, h5⟩
  rw [IB s _ h2 h3] at h5
  refine ⟨h1, h3, ?_⟩
  rw [CM s _ h3]
  by_cases hn : p.nc = true
  ·rw [if_pos hn, decide_eq_true_iff]; exact h4
  ·rw [if_neg hn, decide_eq_true_iff]
   rw [Bool.or_eq_true] at h5
   rcases h5 with h5 | h5
   ·exact absurd h5 hn
   ·exact of_decide_eq_true h5
theorem Er (D : zG sg ws (iX L L.length)) (hw : ∀ w, w ∈ ws ↔ wd L L.length w) (he : rb L = 0) (s : Nm) :
  ((mM ws (iX L L.length) (ls ws (cI s))).filter (spB L (s.drop (s.length - 64)))).Perm (nY L s) := by
 refine (List.perm_ext_iff_of_nodup ((yb D he _).filter _) ((List.nodup_range).filter _)).2 fun j => ?_
 rw [List.mem_filter, BD D hw he]
 rw [List.mem_filter, List.mem_range]
 constructor
 ·rintro ⟨⟨h1, h2⟩, h3⟩
  have hp := vr he _ (List.getElem_mem h1)
  rw [← BN L j h1] at hp
  exact ⟨h1, (Fm _ s hp.1 hp.2).2 ⟨h2, h3⟩⟩
 ·rintro ⟨h1, h2⟩
  have hp := vr he _ (List.getElem_mem h1)
  rw [← BN L j h1] at hp
  have := (Fm _ s hp.1 hp.2).1 h2
  exact ⟨⟨h1, this.1⟩, this.2⟩
theorem GO (D : zG sg ws (iX L L.length)) (hw : ∀ w, w ∈ ws ↔ wd L L.length w) (he : rb L = 0) (s : Nm) : (mM ws (iX L L.length) (ls ws s)).length ≤ L.length :=
 zB (yb D he s) fun j hj => ((BD D hw he s j).1 hj).1
end
end Go.Proofs.YtjmfpeiidlpngaaGreatDoor.Au
namespace Go.Proofs.YtjmfpeiidlpngaaGreatDoor
set_option linter.unusedSimpArgs false
set_option linter.unusedVariables false
set_option maxRecDepth 20000
open Go
section
variable {α : Type} [Inhabited α] {enc : α → Value} {P : Program}
theorem C7 [Gh] {f : FuncId} {ad : Addr} {cap : Nat} {xs ys : List α} {h : aA} (hc : ∀ args w, (callFunc f args).run P w = .ok (.enter f args) w) (hl : ys.length = xs.length)
  (R : Row 1 (fun x => [enc x]) h (some ad) cap xs)
  (hs : ∀ w : World, w.heap = h → Go.Sort.Holds enc w ad.block 0 xs.toArray → ad.block < w.heap.size → Calls P f #[.slice (some ⟨ad.block, 0, none⟩) xs.length cap] w fun e w' =>
   e = .returned (.tuple #[]) ∧ ∃ n os, w' = Go.Sort.grow (Go.Sort.putRow enc (Go.Sort.ahead w n) ad.block 0 ys.toArray) os)
  {K : Value → aA → Prop} (hk : ∀ h', Fr (InA (some ad)) h h' → Row 1 (fun x => [enc x]) h' (some ad) cap ys → K (.tuple #[]) h') : aE P f #[.slice (some ad) xs.length cap] h K := by
 obtain ⟨⟨h1, h2, ds, t, fr, hfr, hg, hcap, hlen, hcs⟩, hle⟩ := R
 have hfl : ∀ zs : List α, zs.flatMap (fun x => [enc x]) = zs.map enc := fun zs => by induction zs <;> simp_all
 rw [hfl] at hlen hcs
 obtain ⟨b, o, s⟩ := ad
 simp only at h1 h2 hg hs
 subst h1 h2
 rw [List.length_map] at hlen
 have hblk : b < h.size := qs hg
 intro w hw hsm
 have hrun := hc #[.slice (some ⟨b, 0, none⟩) xs.length cap] w
 rw [hrun]
 simp only
 refine (hs w hw ?_ (by rw [hw]; exact hblk)).mono ?_
 ·intro j hj
  have hj' : j < xs.length := by simpa using hj
  rw [Nat.zero_add]
  constructor
  ·show hcell w.heap ⟨b, j, none⟩ = _
   rw [hw, kN hg, hcs j (by simpa using hj')]
   simp [hj']
  ·show qh w.heap ⟨b, j, none⟩ = _
   rw [hw]
   exact qw hg hfr (by omega)
 ·rintro e w' ⟨rfl, n, os, rfl⟩
  refine ⟨_, rfl, ?_, ⟨hsm.1, hsm.2.1, hsm.2.2⟩⟩
  have hheap : (Go.Sort.grow (Go.Sort.putRow enc (Go.Sort.ahead w n) b 0 ys.toArray) os).heap = (h.modify b (Go.Sort.onCells (Go.Sort.putCells enc 0 ys.toArray))) ++ os := by
   rw [← hw]; rfl
  rw [hheap]
  have hat : ((h.modify b (Go.Sort.onCells (Go.Sort.putCells enc 0 ys.toArray))) ++ os)[b]? = some (.cells (Go.Sort.putCells enc 0 ys.toArray ds) t fr) := by
   rw [Array.getElem?_append_left (by simpa using hblk), Array.getElem?_modify, if_pos rfl, hg]; rfl
  have hsz : (Go.Sort.putCells enc 0 ys.toArray ds).size = ds.size := by simp [Go.Sort.putCells]
  refine hk _ ⟨by simp, fun c hcl hn => ?_⟩ ⟨⟨rfl, rfl, _, t, fr, by rw [hsz]; exact hfr, hat, by rw [hsz]; exact hcap, ?_, ?_⟩, by rw [hl]; exact hle⟩
  ·rw [Array.getElem?_append_left (by simpa using hcl), Array.getElem?_modify, if_neg (fun e => hn ⟨_, rfl, e⟩)]
  ·rw [hfl, hsz, List.length_map, hl]; exact hlen
  ·rw [hfl]
   intro i hi
   rw [List.length_map] at hi
   unfold Go.Sort.putCells
   rw [Array.getElem?_mapIdx, Array.getElem?_eq_getElem (by omega)]
   simp [hi]
theorem CW [Gh] {f : FuncId} {p : Option Addr} {cap : Nat} {h : aA} (hc : ∀ args w, (callFunc f args).run P w = .ok (.enter f args) w)
  (hs : ∀ w : World, Calls P f #[.slice p 0 cap] w fun e w' => e = .returned (.tuple #[]) ∧ w' = w)
  {K : Value → aA → Prop} (hk : K (.tuple #[]) h) : aE P f #[.slice p 0 cap] h K := by
 intro w hw hsm
 rw [hc]
 simp only
 refine (hs w).mono ?_
 rintro e w' ⟨rfl, rfl⟩
 exact ⟨_, rfl, by rw [hw]; exact hk, hsm⟩
end
end Go.Proofs.YtjmfpeiidlpngaaGreatDoor
namespace Go.Proofs
open Go.Shelf
shelf_lay Lays.n189 Nm 189 at Tryz as Tryz.lays189
end Go.Proofs
namespace Go.Proofs.YtjmfpeiidlpngaaGreatDoor.Au
set_option linter.unusedSimpArgs false
set_option linter.unusedVariables false
set_option maxRecDepth 20000
open Go
open Go.IntKind (wrap)
def na (n : Int) : List Value := [.int .i64 n]
def oy (xs : List Int) : List Int := xs.mergeSort fun x y => decide (x ≤ y)
theorem Fs [Gh] {p : Option Addr} {cap : Nat} {xs : List Int} {h : aA} (R : Row 1 na h p cap xs) (hl : xs.length ≤ 2 ^ 40) {K : Value → aA → Prop}
  (hk : ∀ h', Fr (InA p) h h' → Row 1 na h' p cap (oy xs) → K (.tuple #[]) h') : aE Tryz.prog iy #[.slice p xs.length cap] h K := by
 cases p with
 | none =>
  have : xs = [] := by
   cases xs with
   | nil => rfl
   | cons x xs => have := R.own.1; simp [na] at this
  subst this
  refine CW (fun _ _ => rfl) (fun w => Any.slices_Sort_int_none Tryz.lays189 none cap w) ?_
  exact hk h (Fr.refl _ _) (by simpa [oy] using R)
 | some ad =>
  exact C7 (enc := Value.int .i64) (ys := oy xs) (fun _ _ => rfl) (List.length_mergeSort xs) R (fun w hw hH hb => Any.slices_Sort_int Tryz.lays189 ad.block 0 cap xs w hH hb (by omega)) hk
theorem BK : ∀ {xs ys : List Int}, xs.Perm ys → xs.Pairwise (· ≤ ·) → ys.Pairwise (· < ·) → xs = ys
 | [], ys, p, _, _ => (List.Perm.nil_eq p)
 | x :: xs, [], p, _, _ => by have := p.length_eq; simp at this
 | x :: xs, y :: ys, p, h1, h2 => by
  rw [List.pairwise_cons] at h1 h2
  have e : x = y := by
   have hx : x ∈ y :: ys := p.mem_iff.1 (by simp)
   have hy : y ∈ x :: xs := p.mem_iff.2 (by simp)
   rcases List.mem_cons.1 hx with e | hx
   ·exact e
   ·rcases List.mem_cons.1 hy with e | hy
    ·exact e.symm
    ·have := h1.1 y hy; have := h2.1 x hx; omega
  subst e
  rw [BK (List.Perm.cons_inv p) h1.2 h2.2]
theorem GX {xs ys : List Int} (p : xs.Perm ys) (h : ys.Pairwise (· < ·)) : oy xs = ys := by
 refine BK ((List.mergeSort_perm xs _).trans p) ?_ h
 have := List.pairwise_mergeSort (le := fun (x y : Int) => decide (x ≤ y)) (fun a b c h1 h2 => by simp only [decide_eq_true_eq] at *; omega) (fun a b => by simp only [Bool.or_eq_true, decide_eq_true_eq]; omega) xs
 exact this.imp fun h => of_decide_eq_true h
theorem DW (l : List Nat) : (l.map Int.ofNat).flatMap na = l.flatMap inV := by
 rw [List.flatMap_map]; rfl
theorem Ja [Gh] {p : Option Addr} {cap : Nat} {xs ys : List Nat} {h : aA} (R : Row 1 inV h p cap xs) (hl : xs.length ≤ 2 ^ 20) (hp : xs.Perm ys) (hs : ys.Pairwise (· < ·)) {K : Value → aA → Prop}
  (hk : ∀ h', Fr (InA p) h h' → Row 1 inV h' p cap ys → K (.tuple #[]) h') : aE Tryz.prog iy #[.slice p xs.length cap] h K := by
 have R' : Row 1 na h p cap (xs.map Int.ofNat) := ⟨by rw [DW]; exact R.own, by rw [List.length_map]; exact R.le⟩
 have e : oy (xs.map Int.ofNat) = ys.map Int.ofNat := GX (hp.map _) (List.pairwise_map.2 (hs.imp fun h => Int.ofNat_lt.2 h))
 have := Fs R' (by rw [List.length_map]; omega) (K := K) fun h' f R2 => by
  rw [e] at R2
  exact hk h' f ⟨by rw [← DW]; exact R2.own, by have := R2.le; rw [List.length_map] at this; exact this⟩
 rw [List.length_map] at this; exact this
theorem _root_.Go.Proofs.YtjmfpeiidlpngaaGreatDoor.Row.none0 {α : Type} {sz : Nat} {vals : α → List Value} {h : aA} {p : Option Addr} {cap : Nat} {L : List α} (R : Row sz vals h p cap L) : Row sz vals h p cap ([] : List α) := by
 refine ⟨?_, Nat.zero_le _⟩
 have o := R.own
 cases p with
 | none => exact ⟨rfl, o.2⟩
 | some ad =>
  obtain ⟨h1, h2, ds, t, fr, hfr, hg, hc, hl, hcs⟩ := o
  exact ⟨h1, h2, ds, t, fr, hfr, hg, hc, Nat.zero_le _, fun i hi => absurd hi (Nat.not_lt_zero _)⟩
section
variable {N : Nat} {h0 h : aA} {c a : Addr} {sg : List St} {ws : List Nm} {L : List Pt}
theorem GT (s : Nm) (b : UInt8) : (s ++ [b]).drop ((s ++ [b]).length - 64) = (if (s.drop (s.length - 64)).length = 64 then (s.drop (s.length - 64)).drop 1 else s.drop (s.length - 64)) ++ [b] := by
 rw [List.length_append, List.length_singleton, List.length_drop]
 split
 ·rename_i hh
  rw [List.drop_drop, List.drop_append_of_le_length (by omega)]
  congr 2; omega
 ·rename_i hh
  rw [List.drop_append_of_le_length (by omega)]
  congr 2; omega
theorem Fx [Gh] (A : xo N h a sg ws L) {now : Nat} {tl : Nm} {p : Option Addr} {cap : Nat} (text : Nm) (C : x4 h c a now (text.length + 1) tl p cap) (hN : N ≤ c.block) (hp : ∀ x, InA p x → N ≤ x) (b : UInt8)
  (htl : tl ++ [b] = (text ++ [b]).drop ((text ++ [b]).length - 64)) (hnow : ws[now]? = some (ls ws (cI text))) (hlen : text.length ≤ 2 ^ 30) {Q : Value → aA → Prop}
  (hk : ∀ h' now' p' cap' r rc, Fr (fun x => x = c.block ∨ InA p x) h h' → x4 h' c a now' (text.length + 1) ((text ++ [b]).drop ((text ++ [b]).length - 64)) p' cap' → ws[now']? = some (ls ws (cI (text ++ [b]))) → (∀ x, InA p' x → InA p x ∨ h.size ≤ x) → Row 1 inV h' r rc (nY L (text ++ [b])) → (∀ x, InA r x → h.size ≤ x) → (∀ x, InA r x → ¬ InA p' x) → Q (.slice r (nY L (text ++ [b])).length rc) h') :
  ee (some c) (bP b) Q h := by
 unfold ee
 have cc := C.own.cells
 have lt := C.own.lt
 have htl64 : (tl ++ [b]).length ≤ 64 := by rw [htl, List.length_drop]; omega
 have htll : (tl ++ [b]).length = tl.length + 1 := by simp
 refine aS (aD (cc.at (j := 3) rfl) ?_)
 refine bA (vs := bV b) fun t40 h4 f4 e4 o4 => ?_
 have z4 := f4.size
 refine LG (C.row.fr0 f4) o4 (by omega) fun p' cap' h5 R5 f5 hn5 => ⟨_, _, _, rfl, ?_⟩
 have z5 := f5.size
 have o5 := (C.own.fr0 f4).fr f5 C.nc
 have nc5 : ¬ InA p' c.block := fun hh => by
  rcases hn5 _ hh with h | h
  ·exact C.nc h
  ·omega
 refine aS (cH o5 3 (by simp) rfl fun h6 f6 s6 o6 => ?_)
 have o6 : Own h6 c [.pointer (some a), .int .u16 now, .int .i64 (text.length + 1 : Nat), .slice p' (tl ++ [b]).length cap'] fZ := o6
 have R6 := R5.fr f6 fun x hx hb => by subst hb; exact nc5 hx
 have F6 : Fr (fun x => x = c.block ∨ InA p x) h h6 := ((f4.mono fun _ h => h.elim).tr f5 fun x hx hh => .inr hh).tr f6 fun x hx hh => .inl hh
 have hge : ∀ x, x < h.size → (x = c.block ∨ InA p x) → N ≤ x := fun x hx hh => by
  rcases hh with h | h
  ·omega
  ·exact hp x h
 have A6 := A.fr F6 hge
 have z6 := F6.size
 obtain ⟨q, cq, pq, pc, ca, cst, _⟩ := A6.s.now.blk
 have D := A.d
 have hlt : now < sg.length := by rw [D.len]; exact (List.getElem?_eq_some_iff.1 hnow).1
 have c6 := o6.cells
 obtain ⟨ad, had, ci⟩ := cst now hlt
 subst had
 refine aS (aU (c6.at0 rfl) (aS (aD (ca.at0 rfl) (aS (aB (c6.at (j := 1) rfl) (bS now rfl hlt (aS ?_)))))))
 rw [Int.toNat_natCast]
 have hbl := nh b
 refine yU _ hbl.1 hbl.2 ⟨_, rfl, aU (c6.at0 rfl) rfl, aD (ca.at0 rfl) rfl, aB (c6.at (j := 1) rfl) rfl, ?_⟩
 rw [← oM]
 have hc256 : (iC b).toNat < 256 := (iC b).toNat_lt
 have hcn : (bP (iC b)).toNat * 1 = (iC b).toNat := by unfold bP; omega
 refine bS (iC b).toNat rfl hc256 ?_
 rw [hcn]
 refine aB (ci.at (CB _ hc256)) ?_
 have hlow : cI (text ++ [b]) = cI text ++ [iC b] := by unfold cI; rw [List.map_append]; rfl
 have hnx : ws[sg[now].nx (iC b).toNat]? = some (ls ws (cI (text ++ [b]))) := by
  rw [D.nx now hlt _ (iC b) hnow, hlow, E1 D.pre' (cI text)]
 generalize sg[now].nx (iC b).toNat = now' at *
 have hlt' : now' < sg.length := by rw [D.len]; exact (List.getElem?_eq_some_iff.1 hnx).1
 refine aS (cH o6 1 (by simp) rfl fun h8 f8 s8 o8 => ?_)
 have o8 : Own h8 c [.pointer (some a), .int .u16 now', .int .i64 (text.length + 1 : Nat), .slice p' (tl ++ [b]).length cap'] fZ := o8
 have R8 := R6.fr f8 fun x hx hb => by subst hb; exact nc5 hx
 have F8 : Fr (fun x => x = c.block ∨ InA p x) h h8 := F6.tr f8 fun x hx hh => .inl hh
 have z8 := F8.size
 have A8 := A.fr F8 hge
 have C8 : x4 h8 c a now' (text.length + 1) (tl ++ [b]) p' cap' := ⟨o8, R8, nc5⟩
 have hp' : ∀ x, InA p' x → InA p x ∨ h.size ≤ x := fun x hx => by
  rcases hn5 x hx with h | h
  ·exact .inl h
  ·exact .inr (by omega)
 refine aS (aB (o8.cells.at (j := 1) rfl) ?_)
 generalize hu0 : ls ws (cI (text ++ [b])) = u0 at *
 have hu0s : u0 <:+ cI (text ++ [b]) := by rw [← hu0]; exact u4 _
 have hfn := GO D A.w A.ok (cI (text ++ [b]))
 rw [hu0] at hfn
 have hm := A.m
 have hpe := Er D A.w A.ok (text ++ [b])
 rw [hu0, ← htl] at hpe
 generalize hsp : spB L (tl ++ [b]) = sp at *
 refine aJ.go (fun n st h' => ∃ (i : Nat) (u : Nm) (F : List Nat), st.2.2.2 = (i : Int) ∧ st.2.1 = F.length ∧ ws[i]? = some u ∧ n = u.length ∧ u <:+ u0 ∧ F ++ (mM ws (iX L L.length) u).filter sp = (mM ws (iX L L.length) u0).filter sp ∧ Fr (fun _ => False) h8 h' ∧ Row 1 inV h' st.1 st.2.2.1 F ∧ ∀ x, InA st.1 x → h8.size ≤ x) u0.length
  ⟨now', u0, [], rfl, rfl, hnx, rfl, List.suffix_refl _, rfl, Fr.refl _ _, Row.nil, fun x hx => (dJ hx).elim⟩ ?_
 rintro n ⟨ra, rn, rc, t⟩ h9 ⟨i, u, F, e1, e2, hu, rfl, hus, hF, f9, R9, hr⟩ Kn hK
 dsimp only at e1 e2 R9 hr
 subst e1 e2
 dsimp only
 unfold jL
 have z9 := f9.size
 have hFl : F.length ≤ 512 := by
  have h1 := congrArg List.length hF
  rw [List.length_append] at h1
  have := List.length_filter_le sp (mM ws (iX L L.length) u0)
  omega
 have A9 := A8.fr0 f9
 refine oS (fun hi => ?_) fun hi => ?_
 ·have hil : i < sg.length := by rw [D.len]; exact (List.getElem?_eq_some_iff.1 hu).1
  have hune : u ≠ [] := fun h => by
   subst h
   exact hi (by rw [jr D.nd hu D.z]; rfl)
  have C9 := C8.fr0 f9
  have c9 := C9.own.cells
  have X9 := A9.s.now
  obtain ⟨q, cq, pq, pc, ca9, cst9, _⟩ := X9.blk
  obtain ⟨ad9, had9, ci9⟩ := cst9 i hil
  subst had9
  refine aS (aU (c9.at0 rfl) (aS (aD (ca9.at0 rfl) (bS i rfl hil (aS ?_)))))
  rw [Int.toNat_natCast]
  refine aD (ci9.at (CE _)) ?_
  have hen := D.en i hil u hu
  have hE := X9.ends i hil
  have hel := Bt L L.length u
  rw [← hen] at hel
  refine Kw hE (by omega) _ sp (fun h' f' j hj K hK => ?_) fun r2 rc2 h10 f10 R10 hr10 => ⟨_, _, _, rfl, ?_⟩
  ·rw [cK]
   rw [hen] at hj
   obtain ⟨hj1, hj2⟩ := sy.1 hj
   rw [BN L j hj1] at hj2
   have hjl : L[j].t.length ≤ text.length + 1 := by
    have := (hus.trans hu0s).length_le
    rw [← hj2, jq, jq] at this
    simpa using this
   have h64 := (vr A.ok _ (List.getElem_mem hj1)).2
   rw [← hsp] at hK
   refine Je (A9.fr0 f').s.now (C9.fr0 f') j hj1 ?_ htl64 hK
   rw [htl, List.length_drop, List.length_append, List.length_singleton]; omega
  have z10 := f10.size
  refine (R9.fr0 f10).appL ti Tryz.underlying46 (by intro k e; cases e) (by kernel_rfl) (by decide +kernel) vy (fun _ => rfl) (R10.src vy (by decide)) (by have := List.length_filter_le sp sg[i].en; omega) fun p11 cap11 h11 R11 f11 hn11 => ⟨_, _, _, rfl, ?_⟩
  have f911 : Fr (fun _ => False) h8 h11 := (f9.trans f10).tr f11 fun x hx hh => by have := hr x hh; omega
  have F911 : Fr (InA ra) h9 h11 := (f10.mono fun _ h => h.elim).tr f11 fun x hx hh => hh
  have C11 := C8.fr0 f911
  have A11 := A8.fr0 f911
  have c11 := C11.own.cells
  obtain ⟨q, cq, pq, pc, ca11, cst11, _⟩ := A11.s.now.blk
  obtain ⟨ad11, had11, ci11⟩ := cst11 i hil
  subst had11
  refine aS (aU (c11.at0 rfl) (aS (aD (ca11.at0 rfl) (bS i rfl hil (aS ?_)))))
  refine aB (ci11.at (Hs _)) ?_
  have hou := D.ou i hil u hu
  have hol := uL (sg := ws) (iX L L.length) _ u (Nat.le_refl _) hune
  refine hK _ _ _ hol ⟨sg[i].ou, uu ws (iX L L.length) u, _, rfl, rfl, hou, rfl, (zJ _ _ u (Nat.le_refl _)).trans hus, ?_, f911, R11, fun x hx => ?_⟩
  ·rw [← hF, xY _ hune, List.filter_append, hen, List.append_assoc]
  ·rcases hn11 x hx with h | h
   ·exact hr x h
   ·omega
 ·have hun : u = [] := by
   have : i = 0 := by omega
   subst this
   exact Option.some.inj (hu.symm.trans D.z)
  subst hun
  rw [tC, List.filter_nil, List.append_nil] at hF
  subst hF
  unfold jF
  refine Ja R9 (by omega) hpe (Ep _ _) fun h10 f10 R10 => ⟨rfl, ?_⟩
  rw [hpe.length_eq]
  have f810 : Fr (fun _ => False) h8 h10 := f9.tr f10 fun x hx hh => by have := hr x hh; omega
  refine hk h10 now' p' cap' ra rc (F8.tr f810 fun _ _ h => h.elim) ?_ hnx hp' R10 (fun x hx => by have := hr x hx; omega) fun x hx hh => ?_
  ·rw [← htl]; exact C8.fr0 f810
  ·have := hr x hx
   have := R8.lt hh
   omega
theorem Kf [Gh] (A : xo N h a sg ws L) {now : Nat} {p : Option Addr} {cap : Nat} (text : Nm) (C : x4 h c a now text.length (text.drop (text.length - 64)) p cap) (hN : N ≤ c.block) (hp : ∀ x, InA p x → N ≤ x) (b : UInt8)
  (hnow : ws[now]? = some (ls ws (cI text))) (hlen : text.length ≤ 2 ^ 30) {Q : Value → aA → Prop}
  (hk : ∀ h' now' p' cap' r rc, Fr (fun x => x = c.block ∨ InA p x) h h' → x4 h' c a now' (text.length + 1) ((text ++ [b]).drop ((text ++ [b]).length - 64)) p' cap' → ws[now']? = some (ls ws (cI (text ++ [b]))) → (∀ x, InA p' x → InA p x ∨ h.size ≤ x) → Row 1 inV h' r rc (nY L (text ++ [b])) → (∀ x, InA r x → h.size ≤ x) → (∀ x, InA r x → ¬ InA p' x) → Q (.slice r (nY L (text ++ [b])).length rc) h') :
  aE Tryz.prog gK #[.pointer (some c), .int .u8 (bP b)] h Q := by
 apply sL
 unfold m6
 have cc := C.own.cells
 have lt := C.own.lt
 refine aS (aB (cc.at (j := 2) rfl) ?_)
 rw [wr (by omega) (by omega)]
 refine aS (cH C.own 2 (by simp) rfl fun h1 f1 s1 o1 => ?_)
 have o1 : Own h1 c [.pointer (some a), .int .u16 now, .int .i64 (text.length + 1 : Nat), .slice p (text.drop (text.length - 64)).length cap] fZ := o1
 have R1 := C.row.fr f1 fun x hx hb => by subst hb; exact C.nc hx
 have F1 : Fr (fun x => x = c.block ∨ InA p x) h h1 := f1.mono fun x hx => .inl hx
 have z1 := F1.size
 have hge : ∀ x, x < h.size → (x = c.block ∨ InA p x) → N ≤ x := fun x hx hh => by
  rcases hh with h | h
  ·omega
  ·exact hp x h
 have c1 := o1.cells
 have hts := GT text b
 refine aS (aD (c1.at (j := 3) rfl) (ifE (fun e => ?_) fun e => ?_))
 ·rw [if_pos (by omega)] at hts
  generalize htl : text.drop (text.length - 64) = tl at *
  refine aS (aD (c1.at (j := 3) rfl) ?_)
  refine ⟨by omega, by have := R1.le; omega, aS (aD (c1.at (j := 3) rfl) ?_)⟩
  have hl64 : tl.length = 64 := by omega
  refine Dq R1 1 rfl (by omega) fun p2 c2 h3 h4 => ?_
  have R0 : Row 1 bV h1 p cap [] := R1.none0
  have s : Src h1 1 (.slice p2 (tl.drop 1).length c2) (tl.drop 1).length ((tl.drop 1).flatMap bV) := by
   rw [vk]
   cases p2 with
   | none => exact absurd (congrArg List.length (h4 rfl)) (by rw [List.length_drop, List.length_nil]; omega)
   | some ad => exact .sl ad _ _ _ (by unfold eJ; rw [List.length_map, Nat.mul_one]) (h3 ad rfl)
  refine R0.appL DL Tryz.underlying98 (by intro k e; cases e) (by kernel_rfl) (by decide +kernel) xS (fun _ => rfl) s (by rw [List.length_drop, List.length_nil]; omega) fun p5 cap5 h5 R5 f5 hn5 => ⟨_, _, _, rfl, ?_⟩
  rw [List.nil_append] at R5 ⊢
  have z5 := f5.size
  have o5 := o1.fr f5 C.nc
  have nc5 : ¬ InA p5 c.block := fun hh => by
   rcases hn5 _ hh with h | h
   ·exact C.nc h
   ·omega
  refine aS (cH o5 3 (by simp) rfl fun h6 f6 s6 o6 => ?_)
  have o6 : Own h6 c [.pointer (some a), .int .u16 now, .int .i64 (text.length + 1 : Nat), .slice p5 (tl.drop 1).length cap5] fZ := o6
  have R6 := R5.fr f6 fun x hx hb => by subst hb; exact nc5 hx
  have F6 : Fr (fun x => x = c.block ∨ InA p x) h h6 := (F1.tr f5 fun x hx hh => .inr hh).tr f6 fun x hx hh => .inl hh
  have z6 := F6.size
  have hp5 : ∀ x, InA p5 x → InA p x ∨ h.size ≤ x := fun x hx => by
   rcases hn5 x hx with h | h
   ·exact .inl h
   ·exact .inr (by omega)
  refine Fx (A.fr F6 hge) text ⟨o6, R6, nc5⟩ hN (fun x hx => ?_) b hts.symm hnow hlen fun h' now' p' cap' r rc f C' hn' hp' R hr hrp => ?_
  ·rcases hp5 x hx with h | h
   ·exact hp x h
   ·have := A.s.1; omega
  ·refine hk h' now' p' cap' r rc (F6.tr f fun x hx hh => ?_) C' hn' (fun x hx => ?_) R (fun x hx => by have := hr x hx; omega) hrp
   ·rcases hh with h | h
    ·exact .inl h
    ·rcases hp5 x h with h | h
     ·exact .inr h
     ·omega
   ·rcases hp' x hx with h | h
    ·exact hp5 x h
    ·exact .inr (by omega)
 ·rw [if_neg (by omega)] at hts
  refine Fx (A.fr F1 hge) text ⟨o1, R1, C.nc⟩ hN hp b hts.symm hnow hlen fun h' now' p' cap' r rc f C' hn' hp' R hr hrp => ?_
  refine hk h' now' p' cap' r rc (F1.trans f) C' hn' (fun x hx => ?_) R (fun x hx => by have := hr x hx; omega) hrp
  rcases hp' x hx with h | h
  ·exact .inl h
  ·exact .inr (by omega)
end
end Go.Proofs.YtjmfpeiidlpngaaGreatDoor.Au
