/-
  Part 6 of 6 of the proofs: the texts of wip/ in one file, without what this claim does not use.
-/
import Derived.Test.YtjmfpeiidlpngaaGreatDoorZS5
namespace Go.Proofs.YtjmfpeiidlpngaaGreatDoor.Fp
set_option linter.unusedSimpArgs false
set_option linter.unusedVariables false
set_option maxRecDepth 20000
open Go
def wN : List Value → Nat → List Value → List Value
 | l, _, [] => l
 | l, j, v :: vs => wN (l.set j v) (j + 1) vs
theorem lY {α : Type} {l : List α} {j : Nat} {v : α} (h : l[j]? = some v) : l.set j v = l := by
 apply List.ext_getElem?
 intro i
 rw [List.getElem?_set]
 split
 ·rename_i e; subst e
  split
  ·exact h.symm
  ·rename_i hn; rw [List.getElem?_eq_none (by omega)]
 ·rfl
section
variable {ι : Type} [DecidableEq ι] {sz : ι → Nat} {sl : ι → Option Addr} {cap : ι → Nat}
theorem LM {α : Type} (f : ι → α) (x : ι) (v w : α) : put (put f x v) x w = put f x w := by
 funext y; unfold put; split <;> rfl
theorem HD (x : ι) {ad : Addr} (hx : sl x = some ad) (o : Nat) {K : aB → Prop} : ∀ (vs : List Value) (i : Nat) (cs : ι → List Value) (h : aB), Fam sz h sl cap cs → o + i + vs.length ≤ (cs x).length → vs.all eX = true →
  (∀ h', Fam sz h' sl cap (put cs x (wN (cs x) (o + i) vs)) → Fr (InA (sl x)) h h' → K h') → stN h (ad.add o) vs i K
 | [], i, cs, h, F, _, _, hk => by
  have e : put cs x (wN (cs x) (o + i) []) = cs := by funext y; unfold put wN; split <;> first | rfl | (rename_i e; rw [e])
  exact hk h (by rw [e]; exact F) (Fr.refl _ _)
 | v :: vs, i, cs, h, F, hl, hv, hk => by
  simp only [List.length_cons] at hl
  simp only [List.all_cons, Bool.and_eq_true] at hv
  have hs : ad.spot = none := by have := F.own x; rw [hx] at this; exact this.2.1
  show st1 h ((ad.add o).add i) v fun h' => stN h' (ad.add o) vs (i + 1) K
  rw [kL hs]
  refine F.set x hx (by omega) hv.1 fun h1 F1 f1 => ?_
  refine HD x hx o vs (i + 1) _ h1 F1 (by rw [bS, List.length_set]; omega) hv.2 fun h2 F2 f2 => ?_
  rw [bS, LM] at F2
  exact hk h2 F2 (f1.trans f2)
end
section
variable {h : aB} {gs : List Grp} {tr : Nat → Sl Int} {sl : Ix → Option Addr} {cap : Ix → Nat} {cs : Ix → List Value}
theorem JV [Gh] (G : iM h gs tr sl cap cs) (r : Ru) (ok : r.ok h) (ht : r.Transforms.xs.length ≤ 2 ^ 20) (hl : gs.length ≤ 2 ^ 20) {Q : Value → aB → Prop}
  (hk : ∀ h', Fr (fun _ => False) h h' → Q (.int .i64 (if gs.findIdx (kP r) = gs.length then -1 else (gs.findIdx (kP r) : Nat))) h') :
  aD Tryz.prog rz #[.slice (sl xO) gs.length (cap xO), .agg r.vals.toArray] h Q := by
 apply Dp
 unfold xY
 refine aX fun t3 h1 f1 ha o1 => ?_
 refine aH.mk (fun i h' => ∃ k : Nat, i = k ∧ k ≤ gs.length ∧ Fr (fun _ => False) h1 h' ∧ ∀ j (hj : j < gs.length), j < k → kP r gs[j] = false) (fun i _ => gs.length - i.toNat) ⟨0, rfl, by omega, Fr.refl _ _, fun j _ hj => by omega⟩ ?_
 rintro i h2 ⟨k, rfl, hkl, f2, hpre⟩
 unfold r4
 refine ifD (fun hlt => ?_) (fun hge => ?_)
 ·have hks : k < gs.length := by omega
  have f02 := f1.trans f2
  have G1 := G.fr f02
  obtain ⟨ad, eo, hs, cc⟩ := G1.out hks
  refine bP k rfl hks ?_
  rw [eo, Int.toNat_natCast]
  have o2 := Own.fr0 f2 o1
  have next : ∀ h', Fr (fun _ => False) h1 h' → kP r gs[k] = false → (∃ k' : Nat, IntKind.wrap .i64 ((k : Int) + 1) = k' ∧ k' ≤ gs.length ∧ Fr (fun _ => False) h1 h' ∧ ∀ j (hj : j < gs.length), j < k' → kP r gs[j] = false) ∧ gs.length - (IntKind.wrap .i64 ((k : Int) + 1)).toNat < gs.length - k := by
   intro h' f' hf
   rw [wr (by omega) (by omega)]
   refine ⟨⟨k + 1, by omega, by omega, f', fun j hj hjk => ?_⟩, by omega⟩
   by_cases e : j = k
   ·subst e; exact hf
   ·exact hpre j hj (by omega)
  refine aS (aA (cc.at0 rfl) (aA (o2.cells.at rfl) ?_))
  refine ifE (fun he => ?_) (fun hne => ?_)
  ·refine bP k rfl hks (aS (aC (cc.at rfl) (aC (o2.cells.at rfl) ?_)))
   refine Ny (tr k) r.Transforms (bH.fr0 wS f02 (G.trok k hks).1) (bH.fr0 wS f02 ok.k13) (by omega) ⟨_, rfl, ?_⟩
   have ef : kP r gs[k] = ((tr k).xs == r.Transforms.xs) := by
    have e1 : (gs[k].kind == r.Kind) = true := by simpa using he
    unfold kP; rw [e1, Bool.true_and, (G.row k hks).trx]
   refine ifB (fun hf => ?_) (fun hf => ?_)
   ·have := hk _ f02
    rw [vd hks (ef.trans hf) hpre, if_neg (by omega)] at this; exact this
   ·exact next _ f2 (ef.trans hf)
  ·refine next _ f2 ?_
   have e1 : (gs[k].kind == r.Kind) = false := by simpa using hne
   unfold kP; rw [e1, Bool.false_and]
 ·have e : k = gs.length := by omega
  have := hk _ (f1.trans f2)
  rw [uT fun j hj => hpre j hj (by omega), if_pos rfl] at this; exact this
theorem iM.pattern2 {N : Nat} (G : iM h gs tr sl cap cs) {i : Nat} (hi : i < gs.length) (p : List UInt8 × Bool) (k : Nat) {a1 a2 a3 : Option Addr} {c1 c2 c3 : Nat} {h' : aB} (hc1 : gs[i].pats.length + 1 ≤ c1) (hc2 : gs[i].rules.length + 1 ≤ c2) (hc3 : 1 ≤ c3)
  {cs' : Ix → List Value} (e0 : cs' xO = ((cs xO).set (i * 5 + 2) (.slice a1 (gs[i].pats.length + 1) c1)).set (i * 5 + 3) (.slice a2 (gs[i].rules.length + 1) c2))
  (e1 : cs' (xP i) = cs (xP i) ++ [.string (bs p.1), .bool p.2]) (e2 : cs' (xR i) = cs (xR i) ++ [.slice a3 1 c3]) (e4 : cs' (xI i gs[i].rules.length) = [.int .i64 k]) (e3 : ∀ x : Ix, x ≠ xO → x ≠ xP i → x ≠ xR i → x ≠ xI i gs[i].rules.length → cs' x = cs x)
  (F : Fam szG h' (put (put (put sl (xI i gs[i].rules.length) a3) (xP i) a1) (xR i) a2) (put (put (put cap (xI i gs[i].rules.length) c3) (xP i) c1) (xR i) c2) cs') (t : bD N h h' sl (put (put (put sl (xI i gs[i].rules.length) a3) (xP i) a1) (xR i) a2)) :
  iM h' (gs.modify i fun g => { g with pats := g.pats ++ [p], rules := g.rules ++ [[(k : Int)]] }) tr (put (put (put sl (xI i gs[i].rules.length) a3) (xP i) a1) (xR i) a2) (put (put (put cap (xI i gs[i].rules.length) c3) (xP i) c1) (xR i) c2) cs' := by
 have r := G.row i hi
 have hlen := G.olen
 refine G.update hi _ F t ?_ (fun x h0 h1 => ⟨by rw [fB h1, fB h1, fB h1], by rw [fB h1, fB h1, fB h1], e3 x (fun e => h0 (by rw [e])) (fun e => h1 (by rw [e])) (fun e => h1 (by rw [e])) (fun e => h1 (by rw [e]))⟩) (by rw [m0 (by decide), m0 (by decide), m0 (by decide)]) (by rw [e0, List.length_set, List.length_set])
  (fun m hm => by rw [e0, yM (by omega) hm, yM (by omega) hm]) rfl
 have nPR : (xP i) ≠ xR i := cP (by decide) _ _ _ _
 have nAP : (xA i) ≠ xP i := cP (by decide) _ _ _ _
 have nAR : (xA i) ≠ xR i := cP (by decide) _ _ _ _
 have nAI : ∀ n, (xA i) ≠ xI i n := fun n => cP (by decide) _ _ _ _
 have nIP : ∀ n, (xI i n) ≠ xP i := fun n => cP (by decide) _ _ _ _
 have nIR : ∀ n, (xI i n) ≠ xR i := fun n => cP (by decide) _ _ _ _
 have nIO : ∀ n, (xI i n) ≠ xO := fun n => cP (by decide) _ _ _ _
 have eA := e3 (xA i) (cP (by decide) _ _ _ _) nAP nAR (nAI _)
 have eI := fun n (hn : n ≠ gs[i].rules.length) => e3 (xI i n) (nIO n) (nIP n) (nIR n) (tf hn _ _ _ _)
 have rl := r.rl
 constructor <;> (try simp only [e0, e1, e2, eA, bS, aR _ _ nPR, aR _ _ nAP, aR _ _ nAR, aR _ _ (nAI _), aR _ _ (nIP _), aR _ _ (nIR _), List.length_append, List.length_cons, List.length_nil])
 ·rw [List.getElem?_set_ne (by omega), List.getElem?_set_ne (by omega)]; exact r.o0
 ·rw [List.getElem?_set_ne (by omega), List.getElem?_set_ne (by omega)]; exact r.o1
 ·rw [List.getElem?_set_ne (by omega), List.getElem?_set_self (by omega)]
 ·rw [List.getElem?_set_self (by rw [List.length_set]; omega)]
 ·rw [List.getElem?_set_ne (by omega), List.getElem?_set_ne (by omega)]; exact r.o4
 ·exact r.trx
 ·rw [r.pl]; simp
 ·exact hc1
 ·omega
 ·exact hc2
 ·intro n hn
  by_cases e : n < gs[i].rules.length
  ·rw [List.getElem?_append_left (by omega), List.getElem_append_left e, aR _ _ (tf (by omega) _ _ _ _), aR _ _ (tf (by omega) _ _ _ _)]; exact r.rg n e
  ·have : n = gs[i].rules.length := by omega
   subst this
   rw [List.getElem?_append_right (by omega), List.getElem_append_right (Nat.le_refl _), bS, bS]
   simp [rl]
 ·intro n hn
  by_cases e : n < gs[i].rules.length
  ·rw [List.getElem_append_left e, aR _ _ (tf (by omega) _ _ _ _), eI n (by omega)]; exact r.il n e
  ·have : n = gs[i].rules.length := by omega
   subst this
   rw [List.getElem_append_right (Nat.le_refl _), bS, e4]
   simp; omega
 ·intro n hn; rw [aR _ _ (tf (by omega) _ _ _ _)]; exact r.ifr n (by omega)
 ·exact r.al
 ·exact r.ac
def N2 (gs : List Grp) (tr : Nat → Sl Int) (sl : Ix → Option Addr) (cap : Ix → Nat) (i : Nat) (hi : i < gs.length) : List Value :=
 [.int .i64 gs[i].kind, .slice (tr i).p (tr i).xs.length (tr i).cap, .slice (sl (xP i)) gs[i].pats.length (cap (xP i)), .slice (sl (xR i)) gs[i].rules.length (cap (xR i)), .slice (sl (xA i)) gs[i].always.length (cap (xA i))]
def Oe (N : Nat) (h h' : aB) (gs gs' : List Grp) (tr : Nat → Sl Int) (sl : Ix → Option Addr) (cap : Ix → Nat) (cs : Ix → List Value) (i : Nat) (row : List Value) : Prop :=
 ∃ sl' cap' cs', Fam szG h' sl' cap' cs' ∧ bD N h h' sl sl' ∧ sl' xO = sl xO ∧ cap' xO = cap xO ∧ cs' xO = cs xO ∧ (∃ (k0 : Int) (a1 : Option Addr) (n1 c1 : Nat) (a2 : Option Addr) (n2 c2 : Nat) (a3 : Option Addr) (n3 c3 : Nat) (a4 : Option Addr) (n4 c4 : Nat), row = [.int .i64 k0, .slice a1 n1 c1, .slice a2 n2 c2, .slice a3 n3 c3, .slice a4 n4 c4]) ∧
  ∀ h2, Fam szG h2 sl' cap' (put cs' xO (wN (cs xO) (i * 5) row)) → bD N h h2 sl sl' → iM h2 gs' tr sl' cap' (put cs' xO (wN (cs xO) (i * 5) row))
theorem bD.new {N : Nat} {h1 h2 : aB} {sl' : Ix → Option Addr} {c : Nat} (t : bD N h h1 sl sl') (f : Fr (fun b => b = c) h1 h2) (hc : h.size ≤ c) : bD N h h2 sl sl' :=
 ⟨fun b hb hn => by rw [f.same b (by have := t.size; omega) (by omega), t.fr b hb hn], Nat.le_trans t.size f.size, t.old⟩
theorem Fu {α : Type} (f : Ix → α) {x y : Ix} (h : x ≠ y) (v w : α) : put (put f x v) y w = put (put f y w) x v := by
 funext z; unfold put
 by_cases hx : z = x
 ·subst hx; simp [h]
 ·by_cases hy : z = y
  ·subst hy; simp [hx]
  ·simp [hx, hy]
theorem MH {α : Type} {f : Ix → α} {x : Ix} {v : α} (h : f x = v) : put f x v = f := by
 funext z; unfold put; split
 ·rename_i e; rw [e, h]
 ·rfl
theorem B9 (G : iM h gs tr sl cap cs) {i : Nat} (hi : i < gs.length) (v2 v3 v4 : Value) :
  wN (cs xO) (i * 5) [.int .i64 gs[i].kind, .slice (tr i).p (tr i).xs.length (tr i).cap, v2, v3, v4] = (((cs xO).set (i * 5 + 2) v2).set (i * 5 + 3) v3).set (i * 5 + 4) v4 := by
 have r := G.row i hi
 simp only [wN, Nat.add_assoc, Nat.reduceAdd]
 rw [lY r.o0, lY r.o1]
theorem NN [Gh] {N : Nat} (G : iM h gs tr sl cap cs) {i : Nat} (hi : i < gs.length) {m : Nat} (sm : gs[i].pats.length ≤ m ∧ gs[i].rules.length = gs[i].pats.length ∧ gs[i].always.length ≤ m ∧ ∀ l ∈ gs[i].rules, l.length ≤ m) (hm : m ≤ 2 ^ 20) (k : Nat) (r : Ru) (ok : r.ok h) (sh : te r.Contents.xs) {Q : Value → aB → Prop}
  (hk : ∀ h' row, Oe N h h' gs (gs.modify i (mT k r)) tr sl cap cs i row → Q (.agg row.toArray) h') :
  aD Tryz.prog uQ #[.agg (N2 gs tr sl cap i hi).toArray, .agg r.vals.toArray, .int .i64 k] h Q := by
 apply FP
 unfold AH
 obtain ⟨sm1, sm2, sm3, sm4⟩ := sm
 have rw_ := G.row i hi
 have hol := G.olen
 refine aX fun t3 h1 f1 hb3 o3 => aX fun t4 h2 f2 hb4 o4 => aX fun t6 h3 f3 hb6 o6 => ?_
 have o3 : Own h1 t3 (N2 gs tr sl cap i hi) iI := o3
 have l31 := o3.lt
 have o3 := Own.fr0 (f2.trans f3) o3
 have f03 := (f1.trans f2).trans f3
 have o4 := Own.fr0 f3 o4
 have s1 := f1.size
 have s2 := f2.size
 have s3 := f3.size
 have l3 := o3.lt
 have l4 := o4.lt
 have l6 := o6.lt
 have n36 : t3.block ≠ t6.block := by omega
 refine (aA (o4.cells.at0 rfl) (aA (o4.cells.at rfl) (aC (o4.cells.at rfl) (aC (o4.cells.at rfl) (aC (o4.cells.at rfl) (aC (o4.cells.at rfl) (aG (o4.cells.at rfl) (aA (o4.cells.at rfl) (aA (o4.cells.at rfl) (aA (o4.cells.at rfl) (aV (o4.cells.at rfl) (aA (o4.cells.at rfl) (aA (o4.cells.at rfl) (aC (o4.cells.at rfl) (aC (o4.cells.at rfl) (aC (o4.cells.at rfl) (aC (o4.cells.at rfl) (aA (o4.cells.at rfl) (aA (o4.cells.at rfl) (aA (o4.cells.at rfl) (aA (o4.cells.at rfl) ?_)))))))))))))))))))))
 refine CS r (aJ.ok_fr _ _ _ f03 ok) sh fun h4 f4 => ?_
 have hold : ∀ x b, InA (sl x) b → b < h.size := fun x b hb => G.fam.lt hb
 have fin : ∀ (h' : aB) (sl' : Ix → Option Addr) (cap' : Ix → Nat) (cs' : Ix → List Value) (row : List Value), Fam szG h' sl' cap' cs' → bD N h h' sl sl' → sl' xO = sl xO → cap' xO = cap xO → cs' xO = cs xO → (∃ (k0 : Int) (a1 : Option Addr) (n1 c1 : Nat) (a2 : Option Addr) (n2 c2 : Nat) (a3 : Option Addr) (n3 c3 : Nat) (a4 : Option Addr) (n4 c4 : Nat), row = [.int .i64 k0, .slice a1 n1 c1, .slice a2 n2 c2, .slice a3 n3 c3, .slice a4 n4 c4]) →
   (∀ h2, Fam szG h2 sl' cap' (put cs' xO (wN (cs xO) (i * 5) row)) → bD N h h2 sl sl' → iM h2 (gs.modify i (mT k r)) tr sl' cap' (put cs' xO (wN (cs xO) (i * 5) row))) → Q (.agg row.toArray) h' :=
  fun h' sl' cap' cs' row F t e1 e2 e3 hl hg => hk h' row ⟨sl', cap', cs', F, t, e1, e2, e3, hl, hg⟩
 unfold GZ
 cases hp : ve r.Contents.xs with
 | none =>
  refine ⟨bs [], false, false, rfl, ?_⟩
  refine nU rfl rfl fun t7 h6 f6 hb7 o7 => ?_
  refine ifN (fun _ => ?_) (fun hx => by cases hx)
  have f36 := f4.trans f6
  have o3 := Own.fr0 f36 o3
  have o6 := Own.fr0 f36 o6
  refine aC (o3.cells.at rfl) ?_
  refine aX (vs := [.int .i64 k]) fun b h7 f7 hb3 o7 => ?_
  have es : (Tryz.t3).size = 1 := by kernel_rfl
  have eb : (Tryz.t3).bytes = 8 := by kernel_rfl
  have f07 := (f03.trans f36).trans f7
  have s7 := (f36.trans f7).size
  have G7 := G.fr f07
  refine Fam.app qO Tryz.underlying46 (by intro k e; cases e) G7.fam (xA i) (by rw [es]; rfl) (by rw [rw_.al]; simp [tW, szG]) rw_.ac (Src.one o7 (by rw [es]; rfl) 1) (by intro v hv; rw [List.mem_singleton.1 hv]; rfl) (by rw [eb]; omega) fun a' c' h8 F8 hc8 f8 hn8 => ⟨_, _, _, rfl, ?_⟩
  have t8 : bD N h h8 sl (put sl (xA i) a') := (bD.of_fr f07).trans (bD.of_app f8 hn8)
  have out8 : ∀ x b, InA (put sl (xA i) a' x) b → b < h.size ∨ h7.size ≤ b := fun x b hb => by
   rcases (bD.of_app (N := N) f8 hn8).old x b hb with ⟨y, hy⟩ | hy
   ·exact .inl (hold y b hy)
   ·exact .inr hy
  have o38 := (Own.fr0 f7 o3).fr f8 fun hi => by have := hold _ _ hi; omega
  have o68 := (Own.fr0 f7 o6).fr f8 fun hi => by have := hold _ _ hi; omega
  refine cI o38 4 (show 4 < 5 by decide) rfl fun h9 f9 _ o39 => ?_
  have o69 := o68.fr f9 fun e => n36 e.symm
  refine (aA (o39.cells.at0 rfl) (aC (o39.cells.at rfl) (aC (o39.cells.at rfl) (aC (o39.cells.at rfl) (aC (o39.cells.at rfl) ?_)))))
  refine ig o69 rfl rfl fun h10 f10 _ o10 => ?_
  refine (aA (o10.cells.at0 rfl) (aC (o10.cells.at rfl) (aC (o10.cells.at rfl) (aC (o10.cells.at rfl) (aC (o10.cells.at rfl) ?_)))))
  have F10 := (F8.fr f9 fun x b hb e => by have := out8 x b hb; subst e; omega).fr f10 fun x b hb e => by have := out8 x b hb; subst e; omega
  have t10 := (t8.new f9 (by omega)).new f10 (by omega)
  have nO : xO ≠ xA i := cP (by decide) _ _ _ _
  refine fin h10 _ _ _ [.int .i64 gs[i].kind, .slice (tr i).p (tr i).xs.length (tr i).cap, .slice (sl (xP i)) gs[i].pats.length (cap (xP i)), .slice (sl (xR i)) gs[i].rules.length (cap (xR i)), .slice a' (gs[i].always.length + 1) c'] F10 t10 (aR _ _ nO) (aR _ _ nO) (aR _ _ nO) ⟨_, _, _, _, _, _, _, _, _, _, _, _, _, rfl⟩ fun h2 F2 t2 => ?_
  have e : gs.modify i (mT k r) = gs.modify i fun g => { g with always := g.always ++ [(k : Int)] } := mq hi (by unfold mT; rw [hp])
  have ew : wN (cs xO) (i * 5) [.int .i64 gs[i].kind, .slice (tr i).p (tr i).xs.length (tr i).cap, .slice (sl (xP i)) gs[i].pats.length (cap (xP i)), .slice (sl (xR i)) gs[i].rules.length (cap (xR i)), .slice a' (gs[i].always.length + 1) c'] = (put cs (xA i) (cs (xA i) ++ [.int .i64 k]) xO).set (i * 5 + 4) (.slice a' (gs[i].always.length + 1) c') := by
   rw [B9 G hi, lY rw_.o2, lY rw_.o3, aR _ _ nO]
  rw [ew] at F2 ⊢
  rw [e]
  exact G.always hi k hc8 F2 t2
 | some p =>
  refine ⟨bs p.1, p.2, true, rfl, ?_⟩
  refine nU rfl rfl fun t7 h6 f6 hb7 o7 => ?_
  refine ifN (fun hx => by cases hx) (fun _ => ?_)
  have f36 := f4.trans f6
  have o3 := Own.fr0 f36 o3
  have o6 := Own.fr0 f36 o6
  have f06 := f03.trans f36
  have s6 := f36.size
  have l7 := o7.lt
  refine aH.mk (fun j h' => ∃ n : Nat, j = n ∧ n ≤ gs[i].pats.length ∧ Fr (fun _ => False) h6 h' ∧ ∀ j (hj : j < gs[i].pats.length), j < n → (gs[i].pats[j] == p) = false) (fun j _ => gs[i].pats.length - j.toNat) ⟨0, rfl, by omega, Fr.refl _ _, fun j _ hj => by omega⟩ ?_
  rintro j h7 ⟨n, rfl, hnl, f7, hpre⟩
  unfold uS
  have o3 := Own.fr0 f7 o3
  have o6 := Own.fr0 f7 o6
  have o7 := Own.fr0 f7 o7
  have f07 := f06.trans f7
  have s7 := f7.size
  have G7 := G.fr f07
  refine aC (o3.cells.at rfl) (ifD (fun hlt => ?_) (fun hge => ?_))
  ·have hns : n < gs[i].pats.length := by omega
   have hget := Io (fun p : List UInt8 × Bool => Value.string (bs p.1)) (fun p => Value.bool p.2) gs[i].pats n hns
   rw [← rw_.pl] at hget
   obtain ⟨pd, ep, pc⟩ := G7.fam.some_of (x := xP i) (by intro e; rw [List.length_eq_zero_iff.1 e] at hget; simp at hget)
   have hps : pd.spot = none := by have := G7.fam.own (xP i); rw [ep] at this; exact this.2.1
   refine aC (o3.cells.at rfl) (bP n rfl hns ?_)
   rw [ep, Int.toNat_natCast]
   refine aS (aV (pc.at hget.1) (aG (by rw [kL hps]; exact pc.at hget.2) ?_))
   refine (aV (o7.cells.at0 rfl) (aG (o7.cells.at rfl) ?_))
   have eb2 : ((bs gs[i].pats[n].1 == bs p.1) && ((gs[i].pats[n].2 == p.2) && true)) = (gs[i].pats[n] == p) := by rw [KX, Bool.and_true]; rfl
   rw [eb2]
   refine ifB (fun hf => ?_) (fun hf => ?_)
   ·have hidx := vd (p := fun x : List UInt8 × Bool => x == p) hns hf hpre
    have hnr : n < gs[i].rules.length := by omega
    refine aC (o3.cells.at rfl) (bP n rfl hnr ?_)
    obtain ⟨rd, er, rc⟩ := G7.fam.some_of (x := xR i) (by rw [rw_.rl]; omega)
    rw [er]
    refine aS (aC (by rw [Nat.mul_one]; exact rc.at (rw_.rg n hnr)) ?_)
    refine aX (vs := [.int .i64 k]) fun b h8 f8 hb8 o8 => ?_
    have es : (Tryz.t3).size = 1 := by kernel_rfl
    have eb : (Tryz.t3).bytes = 8 := by kernel_rfl
    have hil := rw_.il n hnr
    have hbd := sm4 _ (List.getElem_mem hnr)
    have f08 := f07.trans f8
    have s8 := f8.size
    have G8 := G.fr f08
    refine Fam.app qO Tryz.underlying46 (by intro k e; cases e) G8.fam (xI i n) (by rw [es]; rfl) (by rw [hil.1]; simp [tW, szG]) hil.2 (Src.one o8 (by rw [es]; rfl) 1) (by intro v hv; rw [List.mem_singleton.1 hv]; rfl) (by rw [eb]; omega) fun a' c' h9 F9 hc9 f9 hn9 => ⟨_, _, _, rfl, ?_⟩
    have t9 : bD N h h9 sl (put sl (xI i n) a') := (bD.of_fr f08).trans (bD.of_app f9 hn9)
    have out9 : ∀ x b, InA (put sl (xI i n) a' x) b → b < h.size ∨ h8.size ≤ b := fun x b hb => by
     rcases (bD.of_app (N := N) f9 hn9).old x b hb with ⟨y, hy⟩ | hy
     ·exact .inl (hold y b hy)
     ·exact .inr hy
    have o39 := (Own.fr0 f8 o3).fr f9 fun hi => by have := hold _ _ hi; omega
    have o69 := (Own.fr0 f8 o6).fr f9 fun hi => by have := hold _ _ hi; omega
    have nR : (xR i) ≠ xI i n := cP (by decide) _ _ _ _
    have nO : xO ≠ xI i n := cP (by decide) _ _ _ _
    have nOR : xO ≠ xR i := cP (by decide) _ _ _ _
    refine aC (by rw [← er]; exact o39.cells.at rfl) (bP n rfl hnr (aS ?_))
    rw [Nat.mul_one]
    refine F9.set (xR i) (by rw [aR _ _ nR]; exact er) (by rw [aR _ _ nR, rw_.rl]; exact hnr) rfl fun h10 F10 f10 => ?_
    have inR : ∀ b, InA (put sl (xI i n) a' (xR i)) b → b < h.size ∨ h8.size ≤ b := fun b hb => out9 _ b hb
    have o310 := o39.fr f10 fun hi => by have := inR _ hi; omega
    have o610 := o69.fr f10 fun hi => by have := inR _ hi; omega
    refine (aA (o310.cells.at0 rfl) (aC (o310.cells.at rfl) (aC (o310.cells.at rfl) (aC (o310.cells.at rfl) (aC (o310.cells.at rfl) ?_)))))
    refine ig o610 rfl rfl fun h11 f11 _ o11 => ?_
    refine (aA (o11.cells.at0 rfl) (aC (o11.cells.at rfl) (aC (o11.cells.at rfl) (aC (o11.cells.at rfl) (aC (o11.cells.at rfl) ?_)))))
    have F11 := F10.fr f11 fun x b hb e => by have := out9 x b hb; subst e; omega
    have t11 := (t9.trans (bD.of_set f10)).new f11 (by omega)
    refine fin h11 _ _ _ [.int .i64 gs[i].kind, .slice (tr i).p (tr i).xs.length (tr i).cap, .slice (sl (xP i)) gs[i].pats.length (cap (xP i)), .slice (sl (xR i)) gs[i].rules.length (cap (xR i)), .slice (sl (xA i)) gs[i].always.length (cap (xA i))] F11 t11 (aR _ _ nO) (aR _ _ nO) (by rw [aR _ _ nOR, aR _ _ nO]) ⟨_, _, _, _, _, _, _, _, _, _, _, _, _, rfl⟩ fun h2 F2 t2 => ?_
    have e : gs.modify i (mT k r) = gs.modify i fun g => { g with rules := g.rules.modify n (· ++ [(k : Int)]) } := by
     refine mq hi ?_
     unfold mT
     rw [hp]
     simp only
     rw [if_neg (by omega), hidx]
    have ec : ∀ (f : Ix → List Value), f xO = cs xO → put f xO (cs xO) = f := fun f hf => MH hf
    rw [B9 G hi, lY rw_.o2, lY rw_.o3, lY rw_.o4, ec _ (by rw [aR _ _ nOR, aR _ _ nO])] at F2 ⊢
    rw [e]
    exact G.inner hi hnr k hc9 F2 t2
   ·rw [wr (by omega) (by omega)]
    refine ⟨⟨n + 1, by omega, by omega, f7, fun j hj hjk => ?_⟩, by omega⟩
    by_cases e : j = n
    ·subst e; exact hf
    ·exact hpre j hj (by omega)
  ·have en : n = gs[i].pats.length := by omega
   have hidx : gs[i].pats.findIdx (· == p) = gs[i].pats.length := uT fun j hj => hpre j hj (by omega)
   unfold u3
   refine aC (o3.cells.at rfl) ?_
   refine (aV (o7.cells.at0 rfl) (aG (o7.cells.at rfl) ?_))
   refine aX fun b h8 f8 hb8 o8 => ?_
   have es : (Tryz.t160).size = 2 := by kernel_rfl
   have eb : (Tryz.t160).bytes = 24 := by kernel_rfl
   have f08 := f07.trans f8
   have s8 := f8.size
   have G8 := G.fr f08
   refine Fam.app K9 Tryz.underlying84 (by intro k e; cases e) G8.fam (xP i) (by rw [es]; rfl) (by rw [rw_.pl, Ax (fun p : List UInt8 × Bool => Value.string (bs p.1)) (fun p => Value.bool p.2)]; rfl) rw_.pc (Src.one o8 (by rw [es]; rfl) 1) (by intro v hv; simp at hv; rcases hv with rfl | rfl <;> rfl) (by rw [eb]; omega) fun a1 c1 h9 F9 hc9 f9 hn9 => ⟨_, _, _, rfl, ?_⟩
   have t9 : bD N h h9 sl (put sl (xP i) a1) := (bD.of_fr f08).trans (bD.of_app f9 hn9)
   have out9 : ∀ x b, InA (put sl (xP i) a1 x) b → b < h.size ∨ h8.size ≤ b := fun x b hb => by
    rcases (bD.of_app (N := N) f9 hn9).old x b hb with ⟨y, hy⟩ | hy
    ·exact .inl (hold y b hy)
    ·exact .inr hy
   have o39 := (Own.fr0 f8 o3).fr f9 fun hi => by have := hold _ _ hi; omega
   have o69 := (Own.fr0 f8 o6).fr f9 fun hi => by have := hold _ _ hi; omega
   refine cI o39 2 (show 2 < 5 by decide) rfl fun h10 f10 _ o310 => ?_
   have o610 := o69.fr f10 fun e => n36 e.symm
   have F10 := F9.fr f10 fun x b hb e => by have := out9 x b hb; subst e; omega
   have t10 := t9.new f10 (by omega)
   have s10 := f10.size
   have s9 := f9.size
   refine aC (o310.cells.at rfl) ?_
   refine aX (vs := [.int .i64 k]) fun tb h11 f11 hb11 o11 => ?_
   have nRP : xR i ≠ xP i := cP (by decide) _ _ _ _
   have nIP : ∀ n, xI i n ≠ xP i := fun n => cP (by decide) _ _ _ _
   have nIR : ∀ n, xI i n ≠ xR i := fun n => cP (by decide) _ _ _ _
   have nRI : ∀ n, xR i ≠ xI i n := fun n => cP (by decide) _ _ _ _
   have nPI : ∀ n, xP i ≠ xI i n := fun n => cP (by decide) _ _ _ _
   have nPR : xP i ≠ xR i := cP (by decide) _ _ _ _
   have nOP : xO ≠ xP i := cP (by decide) _ _ _ _
   have nOR : xO ≠ xR i := cP (by decide) _ _ _ _
   have nOI : ∀ n, xO ≠ xI i n := fun n => cP (by decide) _ _ _ _
   have hfree := rw_.ifr gs[i].rules.length (Nat.le_refl _)
   have F11 := F10.turn (xI i gs[i].rules.length) (a' := some tb) (cap' := 1) (cs' := [.int .i64 k]) (h' := h11) ⟨o11.off, o11.spot, _, _, (0, 0), .inl rfl, o11.blk, by simp [szG], by simp, fun j hj => by simp at hj; subst hj; rfl⟩ (f11.mono fun _ h => h.elim) (fun b hb => .inr (by obtain ⟨ad, e, rfl⟩ := hb; cases e; omega))
   have t11 : bD N h h11 sl (put (put sl (xP i) a1) (xI i gs[i].rules.length) (some tb)) := t10.trans (bD.of_app (f11.mono fun _ h => h.elim) (fun b hb => .inr (by obtain ⟨ad, e, rfl⟩ := hb; cases e; omega)))
   have out11 : ∀ x b, InA (put (put sl (xP i) a1) (xI i gs[i].rules.length) (some tb) x) b → b < h.size ∨ h8.size ≤ b := fun x b hb => by
    by_cases e : x = xI i gs[i].rules.length
    ·subst e; rw [bS] at hb; obtain ⟨ad, e, rfl⟩ := hb; cases e; exact .inr (by omega)
    ·rw [aR _ _ e] at hb; exact out9 x b hb
   refine aX (vs := [.slice (some tb) 1 1]) fun td h12 f12 hb12 o12 => ?_
   have F12 := F11.fr0 f12
   have s12 := (f11.trans f12).size
   have es2 : (Tryz.t46).size = 1 := by kernel_rfl
   have eb2 : (Tryz.t46).bytes = 24 := by kernel_rfl
   have eR : put (put sl (xP i) a1) (xI i gs[i].rules.length) (some tb) (xR i) = sl (xR i) := by rw [aR _ _ (nRI _), aR _ _ nRP]
   have eRc : put (put cap (xP i) c1) (xI i gs[i].rules.length) 1 (xR i) = cap (xR i) := by rw [aR _ _ (nRI _), aR _ _ nRP]
   have eRs : put (put cs (xP i) (cs (xP i) ++ [.string (bs p.1), .bool p.2])) (xI i gs[i].rules.length) [.int .i64 k] (xR i) = cs (xR i) := by rw [aR _ _ (nRI _), aR _ _ nRP]
   rw [← eR, ← eRc]
   refine Fam.app MB Tryz.underlying85 (by intro k e; cases e) F12 (xR i) (by rw [es2]; rfl) (by rw [eRs, rw_.rl]; simp [szG]) (by rw [eRc]; exact rw_.rc) (Src.one o12 (by rw [es2]; rfl) 1) (by intro v hv; rw [List.mem_singleton.1 hv]; rfl) (by rw [eb2]; omega) fun a2 c2 h13 F13 hc13 f13 hn13 => ⟨_, _, _, rfl, ?_⟩
   have t13 : bD N h h13 sl (put (put (put sl (xP i) a1) (xI i gs[i].rules.length) (some tb)) (xR i) a2) := (t11.trans (bD.of_fr f12)).trans (bD.of_app f13 hn13)
   have out13 : ∀ x b, InA (put (put (put sl (xP i) a1) (xI i gs[i].rules.length) (some tb)) (xR i) a2 x) b → b < h.size ∨ h8.size ≤ b := fun x b hb => by
    rcases (bD.of_app (N := N) f13 hn13).old x b hb with ⟨y, hy⟩ | hy
    ·exact out11 y b hy
    ·exact .inr (by omega)
   have inR : ∀ b, InA (put (put sl (xP i) a1) (xI i gs[i].rules.length) (some tb) (xR i)) b → b < h.size := fun b hb => by rw [eR] at hb; exact hold _ _ hb
   have o313 := (Own.fr0 (f11.trans f12) o310).fr f13 fun hi => by have := inR _ hi; omega
   have o613 := (Own.fr0 (f11.trans f12) o610).fr f13 fun hi => by have := inR _ hi; omega
   refine cI o313 3 (show 3 < 5 by decide) rfl fun h14 f14 _ o314 => ?_
   have o614 := o613.fr f14 fun e => n36 e.symm
   refine (aA (o314.cells.at0 rfl) (aC (o314.cells.at rfl) (aC (o314.cells.at rfl) (aC (o314.cells.at rfl) (aC (o314.cells.at rfl) ?_)))))
   refine ig o614 rfl rfl fun h15 f15 _ o15 => ?_
   refine (aA (o15.cells.at0 rfl) (aC (o15.cells.at rfl) (aC (o15.cells.at rfl) (aC (o15.cells.at rfl) (aC (o15.cells.at rfl) ?_)))))
   have F15 := (F13.fr f14 fun x b hb e => by have := out13 x b hb; subst e; omega).fr f15 fun x b hb e => by have := out13 x b hb; subst e; omega
   have t15 := (t13.new f14 (by omega)).new f15 (by omega)
   rw [Fu sl (nPI _) a1 (some tb)] at F15 t15
   rw [Fu cap (nPI _) c1 1] at F15
   refine fin h15 _ _ _ [.int .i64 gs[i].kind, .slice (tr i).p (tr i).xs.length (tr i).cap, .slice a1 (gs[i].pats.length + 1) c1, .slice a2 (gs[i].rules.length + 1) c2, .slice (sl (xA i)) gs[i].always.length (cap (xA i))] F15 t15
    (by rw [aR _ _ nOR, aR _ _ nOP, aR _ _ (nOI _)]) (by rw [aR _ _ nOR, aR _ _ nOP, aR _ _ (nOI _)]) (by rw [aR _ _ nOR, aR _ _ (nOI _), aR _ _ nOP]) ⟨_, _, _, _, _, _, _, _, _, _, _, _, _, rfl⟩ fun h2 F2 t2 => ?_
   have e : gs.modify i (mT k r) = gs.modify i fun g => { g with pats := g.pats ++ [p], rules := g.rules ++ [[(k : Int)]] } := by
    refine mq hi ?_
    unfold mT
    rw [hp]
    simp only
    rw [if_pos hidx]
   rw [e]
   have nPO : xP i ≠ xO := fun e => nOP e.symm
   have nRO : xR i ≠ xO := fun e => nOR e.symm
   have nIO : ∀ n, xI i n ≠ xO := fun n e => nOI n e.symm
   refine G.pattern2 hi p k (c3 := 1) hc9 hc13 (by omega) (by rw [bS, B9 G hi, lY (j := i * 5 + 4)]; rw [List.getElem?_set_ne (by omega), List.getElem?_set_ne (by omega)]; exact rw_.o4)
    (by rw [aR _ _ nPO, aR _ _ nPR, aR _ _ (nPI _), bS]) (by rw [aR _ _ nRO, bS, eRs]) (by rw [aR _ _ (nIO _), aR _ _ (nIR _), bS])
    (fun x h0 h1 h2 h3 => by rw [aR _ _ h0, aR _ _ h2, aR _ _ h3, aR _ _ h1]) F2 t2
end
end Go.Proofs.YtjmfpeiidlpngaaGreatDoor.Fp
namespace Go.Proofs.YtjmfpeiidlpngaaGreatDoor.Fp
set_option linter.unusedSimpArgs false
set_option linter.unusedVariables false
set_option maxRecDepth 20000
open Go
structure Pre (cs : List Cn) (k : Nat) (best : Int) : Prop where
 lo : -1 ≤ best
 hi : 0 ≤ best → ∃ b : Nat, ∃ hb : b < cs.length, best = b ∧ b < k ∧ Bs cs[b] = false
 all : ∀ j (hj : j < cs.length), j < k → Bs cs[j] = false → cs[j].Fast = false ∧ ∃ b : Nat, ∃ hb : b < cs.length, best = b ∧ qy cs[j].Pattern ≤ qy cs[b].Pattern
end Go.Proofs.YtjmfpeiidlpngaaGreatDoor.Fp
namespace Go.Proofs.YtjmfpeiidlpngaaGreatDoor.Fp
set_option linter.unusedSimpArgs false
set_option linter.unusedVariables false
set_option maxRecDepth 20000
open Go
section
variable {h : aB} {gs : List Grp} {tr : Nat → Sl Int} {sl : Ix → Option Addr} {cap : Ix → Nat} {cs : Ix → List Value}
theorem MC [Gh] {N : Nat} (G : iM h gs tr sl cap cs) {i : Nat} (hi : i < gs.length) {m : Nat} (sm : ∀ g ∈ gs, g.pats.length ≤ m ∧ g.rules.length = g.pats.length ∧ g.always.length ≤ m ∧ ∀ l ∈ g.rules, l.length ≤ m) (hm : m ≤ 2 ^ 20) (s : Sl Ru) (oks : bH 21 aJ.vals aJ.ok h s) {k : Nat} (hks : k < s.xs.length)
  (sh : te s.xs[k].Contents.xs) {Q : QT} {Kn : Option Addr × Nat × Nat × Int → aB → Prop}
  (hk : ∀ h' sl' cap' cs', iM h' (gs.modify i (mT k s.xs[k])) tr sl' cap' cs' → bD N h h' sl sl' → sl' xO = sl xO → cap' xO = cap xO → Kn (sl xO, gs.length, cap xO, IntKind.wrap .i64 ((k : Int) + 1)) h') :
  kT s.p s.xs.length s.cap (sl xO) gs.length (cap xO) k i Q Kn h := by
 unfold kT
 obtain ⟨ad, eo, hs, cc⟩ := G.out hi
 refine bP i rfl hi ?_
 generalize hoa : sl xO = oa at hk ⊢
 rw [hoa] at eo
 subst eo
 rw [Int.toNat_natCast]
 refine aS ?_
 refine (aA (cc.at0 rfl) (aC (cc.at rfl) (aC (cc.at rfl) (aC (cc.at rfl) (aC (cc.at rfl) ?_)))))
 refine bY oks k rfl hks fun rd rc okr => ?_
 rw [Int.toNat_natCast]
 refine (aA (rc.at0 rfl) (aA (rc.at rfl) (aC (rc.at rfl) (aC (rc.at rfl) (aC (rc.at rfl) (aC (rc.at rfl) (aG (rc.at rfl) (aA (rc.at rfl) (aA (rc.at rfl) (aA (rc.at rfl) (aV (rc.at rfl) (aA (rc.at rfl) (aA (rc.at rfl) (aC (rc.at rfl) (aC (rc.at rfl) (aC (rc.at rfl) (aC (rc.at rfl) (aA (rc.at rfl) (aA (rc.at rfl) (aA (rc.at rfl) (aA (rc.at rfl) ?_)))))))))))))))))))))
 refine NN (N := N) G hi (sm _ (List.getElem_mem hi)) hm k s.xs[k] okr sh fun h1 row ad1 => ?_
 obtain ⟨sl1, cap1, cs1, F1, t1, e1, e2, e3, ⟨k0, a1, n1, c1, a2, n2, c2, a3, n3, c3, a4, n4, c4, hrow⟩, hg⟩ := ad1
 subst hrow
 refine ⟨_, _, _, _, _, _, _, _, _, _, _, _, _, rfl, bP i rfl hi (aS ?_)⟩
 have hx1 : sl1 xO = some ad := e1.trans hoa
 refine HD xO hx1 (i * 5) _ 0 cs1 h1 F1 (by rw [e3, G.olen]; simp; omega) rfl fun h2 F2 f2 => ?_
 rw [Nat.add_zero, e3] at F2
 have t2 : bD N h h2 sl sl1 := t1.trans (bD.of_set f2)
 exact hk h2 sl1 cap1 _ (hg h2 F2 t2) t2 (by rw [e1, hoa]) e2
end
theorem Jv [Gh] (s : Sl Ru) {h : aB} (ok : bH 21 aJ.vals aJ.ok h s) (hl : s.xs.length ≤ 40) (sh : ∀ r ∈ s.xs, GW r) {Q : Value → aB → Prop}
  (hk : ∀ (g : Sl bK) h', Fr (fun _ => False) h h' → Er h' g → g.xs.map cV = mv s.xs → Q (.slice g.p g.xs.length g.cap) h') :
  aD Tryz.prog qD #[.slice s.p s.xs.length s.cap] h Q := by
 apply B0
 unfold wZ
 refine aH.mk (fun st h' => ∃ (k : Nat) (gs : List Grp) (tr : Nat → Sl Int) (sl : Ix → Option Addr) (cap : Ix → Nat) (cs : Ix → List Value), st = (sl xO, gs.length, cap xO, (k : Int)) ∧ k ≤ s.xs.length ∧ Fr (fun _ => False) h h' ∧ iM h' gs tr sl cap cs ∧ (∀ x b, InA (sl x) b → h.size ≤ b) ∧ qT k gs ∧ xG k gs ∧ fA (s.xs.drop k) k gs = mv s.xs)
  (fun st _ => s.xs.length - st.2.2.2.toNat) ⟨0, [], _, _, _, _, rfl, by omega, Fr.refl _ _, iM.nil h, fun x b hb => (zK hb).elim, ⟨Nat.le_refl _, fun g hg => by cases hg⟩, (fun g hg => by cases hg), rfl⟩ ?_
 rintro st h1 ⟨k, gs, tr, sl, cap, cs, rfl, hkl, f1, G, nw, sm, gd, hg⟩
 unfold qz
 refine ifD (fun hlt => ?_) (fun hge => ?_)
 ·simp only at hlt
  have hks : k < s.xs.length := by omega
  have ok1 := bH.fr0 aJ.ok_fr f1 ok
  have shr := sh _ (List.getElem_mem hks)
  rw [wE _ _ hks] at hg
  refine bY ok1 k rfl hks fun ad cc okr => ?_
  simp only [Int.toNat_natCast]
  refine (aA (cc.at0 rfl) (aA (cc.at rfl) (aC (cc.at rfl) (aC (cc.at rfl) (aC (cc.at rfl) (aC (cc.at rfl) (aG (cc.at rfl) (aA (cc.at rfl) (aA (cc.at rfl) (aA (cc.at rfl) (aV (cc.at rfl) (aA (cc.at rfl) (aA (cc.at rfl) (aC (cc.at rfl) (aC (cc.at rfl) (aC (cc.at rfl) (aC (cc.at rfl) (aA (cc.at rfl) (aA (cc.at rfl) (aA (cc.at rfl) (aA (cc.at rfl) ?_)))))))))))))))))))))
  have hsl := sm.len
  refine JV G s.xs[k] okr (by have := shr.t; omega) (by omega) fun h3 f3 => ⟨_, rfl, ?_⟩
  have G3 := G.fr f3
  have ok3 := bH.fr0 aJ.ok_fr f3 ok1
  have back : ∀ (h' : aB) (gs' : List Grp) (tr' : Nat → Sl Int) (sl' : Ix → Option Addr) (cap' : Ix → Nat) (cs' : Ix → List Value), iM h' gs' tr' sl' cap' cs' → gs' = yo k s.xs[k] gs → bD h.size h1 h' sl sl' →
    (∃ (k' : Nat) (gs : List Grp) (tr : Nat → Sl Int) (sl : Ix → Option Addr) (cap : Ix → Nat) (cs : Ix → List Value), (sl' xO, gs'.length, cap' xO, IntKind.wrap .i64 ((k : Int) + 1)) = (sl xO, gs.length, cap xO, (k' : Int)) ∧ k' ≤ s.xs.length ∧ Fr (fun _ => False) h h' ∧ iM h' gs tr sl cap cs ∧ (∀ x b, InA (sl x) b → h.size ≤ b) ∧ qT k' gs ∧ xG k' gs ∧ fA (s.xs.drop k') k' gs = mv s.xs) ∧ s.xs.length - (IntKind.wrap .i64 ((k : Int) + 1)).toNat < s.xs.length - ((k : Int)).toNat := by
   intro h' gs' tr' sl' cap' cs' G' e' t'
   subst e'
   rw [wr (by omega) (by omega)]
   exact ⟨⟨k + 1, _, tr', sl', cap', cs', rfl, by omega, BD f1 t' nw, G', Ey t' nw f1.size, sm.add _, gd.add _ shr.c, hg⟩, by omega⟩
  have hfl : gs.findIdx (kP s.xs[k]) ≤ gs.length := List.findIdx_le_length
  by_cases hq' : gs.findIdx (kP s.xs[k]) = gs.length
  ·rw [if_pos hq']
   refine ifD (fun _ => ?_) (fun hx => absurd (show (-1 : Int) < 0 by omega) hx)
   refine bY ok3 k rfl hks fun ad2 c2 okr2 => ?_
   refine aA (c2.at rfl) (bY ok3 k rfl hks fun ad3 c3 okr3 => aC (c3.at rfl) ?_)
   refine aX fun b h5 f5 hb5 o5b => ?_
   have G5 := G3.fr f5
   have es : (Tryz.t87).size = 5 := by kernel_rfl
   have eb : (Tryz.t87).bytes = 104 := by kernel_rfl
   refine Fam.app Ew Tryz.underlying82 (by intro k e; cases e) G5.fam xO (by rw [es]; rfl) (by rw [G.olen]; rfl) G.ocap (Src.one o5b (by rw [es]; rfl) 1) (by intro v hv; simp at hv; rcases hv with rfl | rfl | rfl | rfl | rfl <;> rfl) (by rw [eb]; omega) fun a' c' h6 F6 hc6 f6 hn6 => ⟨_, _, _, rfl, ?_⟩
   have f15 := f3.trans f5
   have t56 : bD h.size h5 h6 sl (put sl xO a') := bD.of_app f6 hn6
   have t6 : bD h.size h1 h6 sl (put sl xO a') := (bD.of_fr f15).trans t56
   have okT : fT h s.xs[k].Transforms := by obtain ⟨_, _, _, o⟩ := ok.at_ k hks; exact o.k13
   have fh6 := BD f1 t6 nw
   have hTok : fT h6 s.xs[k].Transforms := bH.fr0 wS fh6 okT
   have nw6 := Ey t6 nw f1.size
   have hTapart : s.xs[k].Transforms.xs ≠ [] → ∀ x b, InA s.xs[k].Transforms.p b → ¬ InA (put sl xO a' x) b := fun hx x b hb hi => by
    have h1' := okT.lt hx hb; have h2' := nw6 x b hi; omega
   have G6 := G5.push (N := h.size) s.xs[k].Kind okr.k12 s.xs[k].Transforms hc6 F6 t56 hTok hTapart
   have hlen : (gs ++ [(⟨s.xs[k].Kind, s.xs[k].Transforms.xs, [], [], []⟩ : Grp)]).length = gs.length + 1 := by simp
   rw [← hlen]
   have e1 : put sl xO a' xO = a' := bS _ _ _
   have e2 : put cap xO c' xO = c' := bS _ _ _
   rw [← e1, ← e2]
   refine MC (N := h.size) (m := k) G6 (i := gs.length) (by simp) (fun g hgm => ?_) (by omega) s (bH.fr0 aJ.ok_fr fh6 ok) hks shr.c fun h7 sl7 cap7 cs7 G7 t7 es7 ec7 => ?_
   ·rcases List.mem_append.1 hgm with hgm | hgm
    ·exact sm.g g hgm
    ·rw [List.mem_singleton.1 hgm]; simp
   ·rw [← es7, ← ec7]
    have eL : gs.length + 1 = ((gs ++ [(⟨s.xs[k].Kind, s.xs[k].Transforms.xs, [], [], []⟩ : Grp)]).modify gs.length (mT k s.xs[k])).length := by simp
    rw [hlen, eL]
    refine back h7 _ _ sl7 cap7 cs7 G7 ?_ (t6.trans t7)
    unfold yo sP
    rw [if_pos hq', hq']
  ·rw [if_neg hq']
   have hlt : gs.findIdx (kP s.xs[k]) < gs.length := by omega
   refine ifD (fun hx => by omega) (fun _ => ?_)
   refine MC (N := h.size) (m := k) G3 hlt sm.g (by omega) s ok3 hks shr.c fun h7 sl7 cap7 cs7 G7 t7 es7 ec7 => ?_
   rw [← es7, ← ec7]
   have eL : gs.length = (gs.modify (gs.findIdx (kP s.xs[k])) (mT k s.xs[k])).length := by simp
   conv => lhs; rw [eL]
   refine back h7 _ _ sl7 cap7 cs7 G7 ?_ ((bD.of_fr f3).trans t7)
   unfold yo sP
   rw [if_neg hq']
 ·simp only at hge
  have e : k = s.xs.length := by omega
  rw [e, List.drop_length] at hg
  obtain ⟨g, hp, hlen, hc, hgok, hmap⟩ := G.read sm gd (by omega)
  have := hk g h1 f1 hgok (by rw [hmap]; exact hg)
  rw [hp, hlen, hc] at this; exact this
end Go.Proofs.YtjmfpeiidlpngaaGreatDoor.Fp
namespace Go.Proofs.YtjmfpeiidlpngaaGreatDoor
set_option linter.unusedSimpArgs false
set_option linter.unusedVariables false
set_option maxRecDepth 20000
open Go
open Go.IntKind (wrap)
def Dw (s : Addr) (f : aU) (kind dir : Int) (d : Au.Nm) (over : Bool) : List Value :=
 [.pointer (some s), .int .i64 f.Proto, .bool f.Src.V6, .int .u64 f.Src.Hi, .int .u64 f.Src.Lo, .bool f.Dst.V6, .int .u64 f.Dst.Hi, .int .u64 f.Dst.Lo, .int .i64 f.Sport, .int .i64 f.Dport, .int .i64 kind, .int .i64 dir, .int .i64 0, .string (bs d), .bool over]
def wkG (kind : Int) (d : Au.Nm) (over : Bool) (g : Fp.Grp) : Nat :=
 if g.kind ≠ kind ∨ g.pats = [] then 0 else if g.tr = [] then d.length else if over = true then (Au.jf g.tr d).length else 0
theorem NA (kind : Int) (d : Au.Nm) (over : Bool) (g : Fp.Grp) : wkG kind d over g ≤ d.length + 1 := by
 unfold wkG
 have := Au.CJ g.tr d
 repeat (first | split | omega)
def wkL (kind : Int) (d : Au.Nm) (over : Bool) (gs : List Fp.Grp) : Nat := (gs.map (wkG kind d over)).sum
theorem Kx (kind : Int) (d : Au.Nm) (over : Bool) (gs : List Fp.Grp) (g : Fp.Grp) : wkL kind d over (gs ++ [g]) = wkL kind d over gs + wkG kind d over g := by
 unfold wkL; rw [List.map_append, List.sum_append]; simp
theorem KY (kind : Int) (d : Au.Nm) (over : Bool) (gs : List Fp.Grp) : wkL kind d over gs ≤ gs.length * (d.length + 1) := by
 unfold wkL
 induction gs with
 | nil => simp
 | cons g K ih =>
  rw [List.map_cons, List.sum_cons, List.length_cons, Nat.succ_mul]
  have := NA kind d over g
  omega
theorem ua (g : bK) : (Fp.cV g).pats = [] ↔ g.Patterns.xs.length = 0 := by
 unfold Fp.cV
 rw [← List.length_eq_zero_iff, List.length_map]
section
variable {h : aB} {Q : Value → aB → Prop} {s c : Addr} {l : Sl Bd}
theorem J6 [Gh] (f : aU) (kind dir : Int) (hk : ∀ c h', Fr (fun _ => False) h h' → h.size ≤ c.block → Own h' c (Dw s f kind dir [] false) cA → Q (.pointer (some c)) h') :
  aD Tryz.prog m6 #[.pointer (some s), .agg f.vals.toArray, .int .i64 kind, .int .i64 dir] h Q := by
 apply Aa
 unfold sX
 refine aX (vs := f.vals) fun t5 h1 f1 e1 o5 => ?_
 refine (aA (o5.cells.at0 rfl) (aG (o5.cells.at rfl) (aA (o5.cells.at rfl) (aA (o5.cells.at rfl) (aG (o5.cells.at rfl) (aA (o5.cells.at rfl) (aA (o5.cells.at rfl) (aA (o5.cells.at rfl) (aA (o5.cells.at rfl) ?_)))))))))
 refine aX (vs := Dw s f kind dir [] false) fun c h2 f2 e2 o2 => ?_
 have := f1.size
 exact hk c h2 (f1.trans f2) (by omega) o2
theorem LC [Gh] {f : aU} {kind dir : Int} {d : Au.Nm} (o : Own h c (Dw s f kind dir d false) cA) (x : Au.Nm) (hx : d.length + x.length ≤ 2 ^ 40)
  (hk : ∀ h', Fr (fun y => y = c.block) h h' → Own h' c (Dw s f kind dir (d ++ x) false) cA → Q (.tuple #[]) h') : aD Tryz.prog nh #[.pointer (some c), .string (bs x)] h Q := by
 apply zw
 unfold sC
 refine aS (aG (o.cells.at (j := 14) rfl) ?_)
 rw [if_pos (by rfl)]
 refine aS (aV (o.cells.at (j := 13) rfl) ?_)
 refine ⟨by rw [aY, aY, Ns]; omega, aS ?_⟩
 rw [ka]
 refine cI o 13 (by show 13 < 15; omega) rfl fun h1 f1 z1 o1 => ?_
 exact hk h1 f1 o1
theorem Fc [Gh] (T : B4 h s l) (hb : l.xs.length ≤ 40) (sd : ∀ b ∈ l.xs, Snd b) {f : aU} {kind dir : Int} {d : Au.Nm} {ov : Bool} (o : Own h c (Dw s f kind dir d ov) cA) (hd : d.length ≤ 2 ^ 15) (hN : ∀ h', Fr (fun y => y = c.block) h h' → B4 h' s l)
  (hk : ∀ p pc h', Fr (fun y => y = c.block) h h' → Own h' c (Dw s f kind dir d true) cA → Row 1 Au.mi h' p pc (qB l.xs f ⟨kind, dir, 0, d⟩) → (∀ x, InA p x → h.size ≤ x) → Q (.slice p (qB l.xs f ⟨kind, dir, 0, d⟩).length pc) h') :
  aD Tryz.prog jK #[.pointer (some c)] h Q := by
 apply ud
 unfold nK
 refine aS (cI o 14 (by show 14 < 15; omega) rfl fun h1 f1 z1 o1 => ?_)
 have o1 : Own h1 c (Dw s f kind dir d true) cA := o1
 refine aS (bC (o1.cells.at0 rfl) (aS ?_))
 refine (aA (o1.cells.at rfl) (aG (o1.cells.at rfl) (aA (o1.cells.at rfl) (aA (o1.cells.at rfl) (aG (o1.cells.at rfl) (aA (o1.cells.at rfl) (aA (o1.cells.at rfl) (aA (o1.cells.at rfl) (aA (o1.cells.at rfl) ?_)))))))))
 refine aS ?_
 refine (aA (o1.cells.at rfl) (aA (o1.cells.at rfl) (aA (o1.cells.at rfl) (aV (o1.cells.at rfl) ?_))))
 refine Hy (hN h1 f1) hb sd f ⟨kind, dir, 0, d⟩ hd fun p pc h2 f2 R hn => ⟨_, _, _, rfl, ?_⟩
 exact hk p pc h2 (f1.trans (f2.mono fun _ => False.elim)) (o1.fr0 f2) R fun x hx => by have := hn x hx; omega
set_option maxHeartbeats 1000000 in
theorem Id [Gh] (T : B4 h s l) (hb : l.xs.length ≤ 40) (sd : ∀ b ∈ l.xs, Snd b) {f : aU} {kind dir : Int} {d : Au.Nm} {ov : Bool} (o : Own h c (Dw s f kind dir d ov) cA) (hd : d.length ≤ 2 ^ 15)
  (hk : ∀ h', Fr (fun _ => False) h h' → Q (.int .i64 ((wkL kind d ov (dD l.xs) : Nat) : Int)) h') : aD Tryz.prog kz #[.pointer (some c)] h Q := by
 apply yJ
 unfold sN
 refine aH.mk (fun st h' => ∃ (i : Nat) (p : Option Addr) (pc : Nat), st = (p, i, pc, (i : Int)) ∧ i ≤ l.xs.length ∧ Fr (fun _ => False) h h' ∧ Row 21 aJ.vals h' p pc ((l.xs.take i).map (·.Rule)) ∧ ∀ x, InA p x → h.size ≤ x)
  (fun st _ => l.xs.length - st.2.2.2.toNat) ⟨0, none, 0, rfl, by omega, Fr.refl _ _, Row.nil, fun x hx => (dN hx).elim⟩ ?_
 rintro st h1 ⟨i, p, pc, rfl, hi, f1, R, hn⟩
 dsimp only
 unfold nf
 have z1 := f1.size
 have T1 := T.fr0 f1
 have o1 := o.fr0 f1
 have tl : ((l.xs.take i).map (·.Rule)).length = i := by rw [List.length_map, List.length_take]; omega
 refine aS (bC (o1.cells.at0 rfl) (aS (aC (T1.1.at0 rfl) ?_)))
 refine ifD (fun hlt => ?_) (fun hge => ?_)
 ·have hi' : i < l.xs.length := by omega
  refine aS (bC (o1.cells.at0 rfl) (aS (aC (T1.1.at0 rfl) ?_)))
  refine bY T1.2 i rfl hi' fun ad cc okr => ?_
  try rw [Int.toNat_natCast]
  refine (aA (cc.at0 rfl) (aA (cc.at rfl) (aC (cc.at rfl) (aC (cc.at rfl) (aC (cc.at rfl) (aC (cc.at rfl) (aG (cc.at rfl) (aA (cc.at rfl) (aA (cc.at rfl) (aA (cc.at rfl) (aV (cc.at rfl) (aA (cc.at rfl) (aA (cc.at rfl) (aC (cc.at rfl) (aC (cc.at rfl) (aC (cc.at rfl) (aC (cc.at rfl) (aA (cc.at rfl) (aA (cc.at rfl) (aA (cc.at rfl) (aA (cc.at rfl) ?_)))))))))))))))))))))
  refine aX (vs := l.xs[i].Rule.vals) fun t32 h2 f2 e2 o2 => ?_
  have z2 := f2.size
  have app := fun (K : Value → aB → Prop) => (R.fr0 f2).app (consts := #[false, false]) (ty := iH) Ii Tryz.underlying80 (by intro k e; cases e) (by kernel_rfl) (by decide +kernel) zE DO (e := l.xs[i].Rule) o2 1 (by rw [tl]; omega) (K := K)
  rw [tl] at app
  refine app _ fun p5 c5 h5 R5 f5 hn5 => ?_
  rw [wr (by omega) (by omega)]
  have et : (l.xs.take (i + 1)).map (·.Rule) = (l.xs.take i).map (·.Rule) ++ [l.xs[i].Rule] := by
   rw [show l.xs.take (i + 1) = l.xs.take i ++ [l.xs[i]] by rw [List.take_append_getElem], List.map_append]; rfl
  refine ⟨_, _, _, rfl, ⟨i + 1, p5, c5, by rw [List.length_append, tl]; rfl, by omega, (f1.trans f2).tr f5 fun x hx hh => by have := hn x hh; omega, by rw [et]; exact R5, fun x hx => ?_⟩, by dsimp only; omega⟩
  rcases hn5 x hx with h | h
  ·exact hn x h
  ·omega
 ·have : i = l.xs.length := by omega
  subst this
  rw [List.take_length] at R tl
  unfold m7
  have okr : bH 21 aJ.vals aJ.ok h1 ⟨p, pc, l.xs.map (·.Rule)⟩ := R.sl zE (by omega) (by omega) fun r hr => by
   obtain ⟨b, hb, rfl⟩ := List.mem_map.1 hr
   obtain ⟨j, hj, rfl⟩ := List.getElem_of_mem hb
   obtain ⟨_, _, _, ok⟩ := T1.2.at_ j hj
   exact ok.k0
  have call := fun (K : Value → aB → Prop) => Fp.Jv ⟨p, pc, l.xs.map (·.Rule)⟩ okr (by show (l.xs.map _).length ≤ 40; omega) (fun r hr => by
   obtain ⟨b, hb, rfl⟩ := List.mem_map.1 hr
   exact (sd b hb).short) (Q := K)
  rw [show (⟨p, pc, l.xs.map (·.Rule)⟩ : Sl aJ).xs.length = l.xs.length from tl] at call
  refine call _ fun g h2 f2 okg eg => ⟨_, _, _, rfl, ?_⟩
  have eg' : g.xs.map Fp.cV = dD l.xs := eg
  have sm : Fp.qT l.xs.length (dD l.xs) := by have := HA (l.xs.map (·.Rule)); rwa [List.length_map] at this
  have glen : g.xs.length ≤ 40 := by
   have h1 := congrArg List.length eg'
   rw [List.length_map] at h1
   have := sm.len; omega
  have wb : ∀ k, wkL kind d ov ((g.xs.take k).map Fp.cV) ≤ 40 * (2 ^ 15 + 1) := fun k => Nat.le_trans (KY _ _ _ _) (Nat.mul_le_mul (by rw [List.length_map, List.length_take]; omega) (by omega))
  refine aH.mk (fun st h' => ∃ k : Nat, st = (((wkL kind d ov ((g.xs.take k).map Fp.cV) : Nat) : Int), (k : Int)) ∧ k ≤ g.xs.length ∧ Fr (fun _ => False) h2 h') (fun st _ => g.xs.length - st.2.toNat) ⟨0, by simp [wkL], by omega, Fr.refl _ _⟩ ?_
  rintro st h3 ⟨k, rfl, hkl, f3⟩
  dsimp only
  unfold np
  have o3 := (o1.fr0 f2).fr0 f3
  have okg3 := bH.fr0 bK.ok_fr f3 okg
  refine ifD (fun hlt => ?_) (fun hge => ?_)
  ·have hk' : k < g.xs.length := by omega
   have wbk := wb k
   have et : (g.xs.take (k + 1)).map Fp.cV = (g.xs.take k).map Fp.cV ++ [Fp.cV g.xs[k]] := by
    rw [show g.xs.take (k + 1) = g.xs.take k ++ [g.xs[k]] by rw [List.take_append_getElem], List.map_append]; rfl
   have nx : ∀ (m : Nat) h', wkG kind d ov (Fp.cV g.xs[k]) = m → Fr (fun _ => False) h2 h' → (∃ k' : Nat, (((wkL kind d ov ((g.xs.take k).map Fp.cV) + m : Nat) : Int), (k : Int) + 1) = (((wkL kind d ov ((g.xs.take k').map Fp.cV) : Nat) : Int), (k' : Int)) ∧ k' ≤ g.xs.length ∧ Fr (fun _ => False) h2 h') ∧ g.xs.length - ((k : Int) + 1).toNat < g.xs.length - (k : Int).toNat := fun m h' em f' =>
    ⟨⟨k + 1, by rw [et, Kx, em]; rfl, by omega, f'⟩, by omega⟩
   have nx0 := fun h' em => nx 0 h' em
   rw [Nat.add_zero] at nx0
   refine bY okg3 k rfl hk' fun ad cc okr3 => ?_
   try rw [Int.toNat_natCast]
   rw [wr (x := (k : Int) + 1) (by omega) (by omega)]
   refine aA (cc.at0 rfl) (aS (aA (o3.cells.at (j := 10) rfl) ?_))
   refine ki (fun ne => ?_) fun eq => ?_
   ·exact nx0 h3 (by unfold wkG; rw [if_pos (.inl ne)]) f3
   refine bY okg3 k rfl hk' fun ad2 cc2 _ => ?_
   try rw [Int.toNat_natCast]
   refine aC (cc2.at (j := 2) rfl) ?_
   refine ifE (fun e0 => ?_) fun e0 => ?_
   ·exact nx0 h3 (by unfold wkG; rw [if_pos (.inr ((ua _).2 (by omega)))]) f3
   have hsel : ¬ ((Fp.cV g.xs[k]).kind ≠ kind ∨ (Fp.cV g.xs[k]).pats = []) := fun hh => by
    rcases hh with hh | hh
    ·exact hh eq
    ·have := (ua _).1 hh; omega
   refine bY okg3 k rfl hk' fun ad3 cc3 _ => ?_
   try rw [Int.toNat_natCast]
   refine aC (cc3.at (j := 1) rfl) ?_
   refine ifE (fun e1 => ?_) fun e1 => ?_
   ·refine aS (aV (o3.cells.at (j := 13) rfl) ?_)
    rw [aY, wr (by omega) (by omega)]
    have := nx d.length h3 (by
     unfold wkG; rw [if_neg hsel, if_pos]
     show g.xs[k].Transforms.xs = []
     exact List.length_eq_zero_iff.1 (by omega)) f3
    exact this
   ·have htr : ¬ (Fp.cV g.xs[k]).tr = [] := fun hh => e1 (by
     have : g.xs[k].Transforms.xs = [] := hh
     rw [this]; rfl)
    refine aS (aG (o3.cells.at (j := 14) rfl) ?_)
    refine ifB (fun e2 => ?_) fun e2 => ?_
    ·refine bY okg3 k rfl hk' fun ad4 cc4 ok4 => ?_
     try rw [Int.toNat_natCast]
     refine aC (cc4.at (j := 1) rfl) (aS (aV (o3.cells.at (j := 13) rfl) ?_))
     refine Au.Kf g.xs[k].Transforms d (by omega) ok4.k1 fun h4 f4 => ⟨_, rfl, ?_⟩
     have tl := Au.Am g.xs[k].Transforms.xs d
     rw [aY, wr (by omega) (by omega)]
     exact nx (Au.jf g.xs[k].Transforms.xs d).length h4 (by unfold wkG; rw [if_neg hsel, if_neg htr, if_pos e2]; rfl) (f3.trans f4)
    ·exact nx0 h3 (by unfold wkG; rw [if_neg hsel, if_neg htr, if_neg (by rw [e2]; decide)]) f3
  ·have : k = g.xs.length := by omega
   subst this
   rw [List.take_length, eg']
   exact hk h3 ((f1.trans f2).trans f3)
theorem CA [Gh] {p q : Option Addr} {pc qc : Nat} {xs ys : List Int} (Rp : Row 1 Au.mi h p pc xs) (Rq : Row 1 Au.mi h q qc ys) (hl : xs.length ≤ 2 ^ 40) (hk : Q (.bool (decide (xs = ys))) h) :
  aD Tryz.prog jJ #[.slice p xs.length pc, .slice q ys.length qc] h Q := by
 apply EC
 unfold zn
 refine ki (fun ne => ?_) fun eq => ?_
 ·rw [decide_eq_false (fun e => ne (by rw [e]))] at hk; exact hk
 have el : xs.length = ys.length := by omega
 refine aH.go (fun n st h' => ∃ i : Nat, st = (i : Int) ∧ i ≤ xs.length ∧ n = xs.length - i ∧ h' = h ∧ xs.take i = ys.take i) xs.length ⟨0, rfl, by omega, rfl, rfl, rfl⟩ ?_
 rintro n - h2 ⟨i, rfl, hi, rfl, rfl, he⟩ Kn hK
 unfold ti
 refine ifD (fun hlt => ?_) (fun hge => ?_)
 ·have hi' : i < xs.length := by omega
  refine Rp.idx pU (by omega) i rfl hi' fun ad cc => ?_
  try rw [Int.toNat_natCast]
  refine aA (cc.at0 rfl) ?_
  refine Rq.idx pU (by omega) i rfl (by omega) fun ad2 cc2 => ?_
  try rw [Int.toNat_natCast]
  refine aA (cc2.at0 rfl) ?_
  refine ki (fun ne => ?_) fun eq2 => ?_
  ·rw [decide_eq_false (fun e => ne (by subst e; rfl))] at hk; exact hk
  ·rw [wr (by omega) (by omega)]
   refine hK (xs.length - (i + 1)) _ _ (by omega) ⟨i + 1, rfl, hi', rfl, rfl, ?_⟩
   rw [show xs.take (i + 1) = xs.take i ++ [xs[i]] by rw [List.take_append_getElem], show ys.take (i + 1) = ys.take i ++ [ys[i]'(by omega)] by rw [List.take_append_getElem], he, eq2]
 ·have e : xs = ys := by
   rw [List.take_of_length_le (by omega), List.take_of_length_le (by omega)] at he; exact he
  rw [decide_eq_true e] at hk; exact hk
end
end Go.Proofs.YtjmfpeiidlpngaaGreatDoor
namespace Go.Proofs.YtjmfpeiidlpngaaGreatDoor
set_option linter.unusedSimpArgs false
set_option linter.unusedVariables false
set_option maxRecDepth 20000
open Go
open Go.IntKind (wrap)
theorem H1 : ∀ {xs ys : List Int}, xs.Pairwise (· < ·) → ys.Pairwise (· < ·) → (∀ x, x ∈ xs ↔ x ∈ ys) → xs = ys
 | [], [], _, _, _ => rfl
 | [], y :: ys, _, _, h => absurd ((h y).2 (by simp)) (by simp)
 | x :: xs, [], _, _, h => absurd ((h x).1 (by simp)) (by simp)
 | x :: xs, y :: ys, h1, h2, h => by
  rw [List.pairwise_cons] at h1 h2
  have e : x = y := by
   rcases List.mem_cons.1 ((h x).1 (by simp)) with e | hx
   ·exact e
   ·rcases List.mem_cons.1 ((h y).2 (by simp)) with e | hy
    ·exact e.symm
    ·have := h1.1 y hy; have := h2.1 x hx; omega
  subst e
  rw [H1 h1.2 h2.2 fun z => ?_]
  constructor
  ·intro hz
   rcases List.mem_cons.1 ((h z).1 (List.mem_cons_of_mem _ hz)) with e | h3
   ·have := h1.1 z hz; omega
   ·exact h3
  ·intro hz
   rcases List.mem_cons.1 ((h z).2 (List.mem_cons_of_mem _ hz)) with e | h3
   ·have := h2.1 z hz; omega
   ·exact h3
theorem D1 {ys : List Int} (s : ys.Pairwise (· ≤ ·)) : ∀ n, n + 1 ≤ ys.length → (ys.take 1 ++ iA ys 1 n).Pairwise (· < ·) ∧ ∀ x, x ∈ ys.take 1 ++ iA ys 1 n ↔ x ∈ ys.take (n + 1)
 | 0, h => by
  have : iA ys 1 0 = [] := rfl
  rw [this, List.append_nil]
  refine ⟨?_, fun x => Iff.rfl⟩
  cases ys with
  | nil => simp
  | cons y ys => simp
 | n + 1, h => by
  obtain ⟨i1, i2⟩ := D1 s n (by omega)
  have hle : ∀ x, x ∈ ys.take (n + 1) → x ≤ ys[n]'(by omega) := fun x hx => by
   obtain ⟨i, hi, e⟩ := List.getElem_of_mem hx
   rw [List.length_take] at hi
   rw [List.getElem_take] at e
   rw [← e]
   rcases Nat.lt_or_ge i n with hl | hl
   ·exact List.pairwise_iff_getElem.1 s i n (by omega) (by omega) hl
   ·have : i = n := by omega
    subst this; exact Int.le_refl _
  have hn : ys[n]'(by omega) ∈ ys.take (n + 1) := by
   rw [List.mem_take_iff_getElem]
   exact ⟨n, by omega, rfl⟩
  have et : ys.take (n + 1 + 1) = ys.take (n + 1) ++ [ys[n + 1]'(by omega)] := by rw [List.take_append_getElem]
  have g1 : ys.getD (1 + n) 0 = ys[n + 1]'(by omega) := by
   rw [show 1 + n = n + 1 by omega]; exact xb _ _ (by omega)
  have g0 : ys.getD (1 + n - 1) 0 = ys[n]'(by omega) := by
   rw [show 1 + n - 1 = n by omega]; exact xb _ _ (by omega)
  have hs : ys[n]'(by omega) ≤ ys[n + 1]'(by omega) := List.pairwise_iff_getElem.1 s n (n + 1) (by omega) (by omega) (by omega)
  rw [pN, g1, g0, et]
  by_cases e : ys[n + 1]'(by omega) = ys[n]'(by omega)
  ·rw [if_pos e, List.append_nil]
   refine ⟨i1, fun x => ?_⟩
   rw [i2 x, List.mem_append, List.mem_singleton]
   constructor
   ·exact .inl
   ·rintro (hx | hx)
    ·exact hx
    ·rw [hx, e]; exact hn
  ·rw [if_neg e, ← List.append_assoc]
   refine ⟨List.pairwise_append.2 ⟨i1, List.pairwise_singleton _ _, fun a ha b hb => ?_⟩, fun x => ?_⟩
   ·rw [List.mem_singleton] at hb
    subst hb
    have := hle a ((i2 a).1 ha)
    omega
   ·rw [List.mem_append, i2 x, List.mem_append]
theorem Et {ys : List Int} (s : ys.Pairwise (· ≤ ·)) : (mQ ys).Pairwise (· < ·) ∧ ∀ x, x ∈ mQ ys ↔ x ∈ ys := by
 by_cases h : ys = []
 ·subst h; exact ⟨by simp [mQ, iA], fun x => by simp [mQ, iA]⟩
 ·have hl : 0 < ys.length := List.length_pos_iff.2 h
  have := D1 s (ys.length - 1) (by omega)
  rw [show ys.length - 1 + 1 = ys.length by omega, List.take_length] at this
  exact this
theorem EN (xs : List Int) : (Au.pG xs).Pairwise (· ≤ ·) := by
 have := List.pairwise_mergeSort (le := fun (x y : Int) => decide (x ≤ y)) (fun a b c h1 h2 => by simp only [decide_eq_true_eq] at *; omega) (fun a b => by simp only [Bool.or_eq_true, decide_eq_true_eq]; omega) xs
 exact this.imp fun h => of_decide_eq_true h
theorem Jn (xs : List Int) (x : Int) : x ∈ Au.pG xs ↔ x ∈ xs := (List.mergeSort_perm _ _).mem_iff
theorem NZ (xs : List Int) : (mQ (Au.pG xs)).Pairwise (· < ·) ∧ ∀ x, x ∈ mQ (Au.pG xs) ↔ x ∈ xs := by
 obtain ⟨h1, h2⟩ := Et (EN xs)
 exact ⟨h1, fun x => (h2 x).trans (Jn xs x)⟩
theorem JX (p : Nat → Bool) (n : Nat) : (xz p n).Pairwise (· < ·) := by
 unfold xz
 rw [List.pairwise_map]
 refine List.Pairwise.filter _ (List.pairwise_lt_range.imp fun h => by omega)
theorem Fb {p : Nat → Bool} {n : Nat} {x : Int} : x ∈ xz p n ↔ ∃ i : Nat, i < n ∧ p i = true ∧ x = i := by
 unfold xz
 rw [List.mem_map]
 constructor
 ·rintro ⟨i, h, e⟩
  rw [List.mem_filter, List.mem_range] at h
  exact ⟨i, h.1, h.2, e.symm⟩
 ·rintro ⟨i, h1, h2, e⟩
  exact ⟨i, by rw [List.mem_filter, List.mem_range]; exact ⟨h1, h2⟩, e.symm⟩
abbrev Pa := List UInt8 × Bool
def FK (g : Fp.Grp) (sn : Pa → Bool) (x : Int) : Prop := x ∈ g.always ∨ ∃ (j : Nat) (p : Pa) (r : List Int), g.pats[j]? = some p ∧ g.rules[j]? = some r ∧ sn p = true ∧ x ∈ r
def AP (r : Fp.Ru) (sn : Pa → Bool) : Prop := match Fp.ve r.Contents.xs with | none => True | some p => sn p = true
theorem AB {α : Type} (f : α → α) (l : List α) (i : Nat) : (l.modify i f)[i]? = (l[i]?).map f := by
 rw [List.getElem?_modify]; cases l[i]? <;> simp
theorem E1 {α : Type} (f : α → α) (l : List α) {i j : Nat} (h : i ≠ j) : (l.modify i f)[j]? = l[j]? := by
 rw [List.getElem?_modify]; cases l[j]? <;> simp [h]
theorem CM (k : Nat) (r : Fp.Ru) (g : Fp.Grp) (sn : Pa → Bool) (hl : g.rules.length = g.pats.length) (x : Int) : FK (Fp.mT k r g) sn x ↔ FK g sn x ∨ (x = k ∧ AP r sn) := by
 unfold Fp.mT AP
 cases hp : Fp.ve r.Contents.xs with
 | none =>
  simp only
  unfold FK
  simp only [List.mem_append, List.mem_singleton, and_true]
  constructor
  ·rintro ((h | h) | h)
   ·exact .inl (.inl h)
   ·exact .inr h
   ·exact .inl (.inr h)
  ·rintro ((h | h) | h)
   ·exact .inl (.inl h)
   ·exact .inr h
   ·exact .inl (.inr h)
 | some p =>
  simp only
  by_cases hf : g.pats.findIdx (· == p) = g.pats.length
  ·rw [if_pos hf]
   unfold FK
   constructor
   ·rintro (h | ⟨j, q, l, h1, h2, h3, h4⟩)
    ·exact .inl (.inl h)
    ·rcases Nat.lt_or_ge j g.pats.length with hj | hj
     ·rw [List.getElem?_append_left hj] at h1
      rw [List.getElem?_append_left (by omega)] at h2
      exact .inl (.inr ⟨j, q, l, h1, h2, h3, h4⟩)
     ·rw [List.getElem?_append_right hj] at h1
      rw [List.getElem?_append_right (by omega)] at h2
      have hj0 : j - g.pats.length = 0 := by
       have := (List.getElem?_eq_some_iff.1 h1).1
       simp at this; omega
      have hj1 : j - g.rules.length = 0 := by omega
      rw [hj0] at h1
      rw [hj1] at h2
      simp only [List.getElem?_cons_zero, Option.some.injEq] at h1 h2
      subst h1 h2
      rw [List.mem_singleton] at h4
      exact .inr ⟨h4, h3⟩
   ·rintro ((h | ⟨j, q, l, h1, h2, h3, h4⟩) | ⟨h1, h2⟩)
    ·exact .inl h
    ·have hj := (List.getElem?_eq_some_iff.1 h1).1
     exact .inr ⟨j, q, l, by rw [List.getElem?_append_left hj]; exact h1, by rw [List.getElem?_append_left (by omega)]; exact h2, h3, h4⟩
    ·exact .inr ⟨g.pats.length, p, [(k : Int)], by simp, by rw [← hl]; simp, h2, by rw [h1]; simp⟩
  ·rw [if_neg hf]
   have hlt : g.pats.findIdx (· == p) < g.pats.length := by
    have := List.findIdx_le_length (p := (· == p)) (xs := g.pats)
    omega
   have hat : g.pats[g.pats.findIdx (· == p)]? = some p := by
    rw [List.getElem?_eq_getElem hlt]
    have := List.findIdx_getElem (w := hlt)
    simp only [beq_iff_eq] at this
    rw [this]
   generalize g.pats.findIdx (· == p) = m at *
   unfold FK
   simp only
   constructor
   ·rintro (h | ⟨j, q, l, h1, h2, h3, h4⟩)
    ·exact .inl (.inl h)
    ·by_cases hj : m = j
     ·subst hj
      rw [AB] at h2
      cases hr : g.rules[m]? with
      | none => rw [hr] at h2; cases h2
      | some l0 =>
       rw [hr] at h2
       simp only [Option.map_some, Option.some.injEq] at h2
       subst h2
       rw [hat] at h1
       simp only [Option.some.injEq] at h1
       subst h1
       rcases List.mem_append.1 h4 with h5 | h5
       ·exact .inl (.inr ⟨m, p, l0, hat, hr, h3, h5⟩)
       ·rw [List.mem_singleton] at h5; exact .inr ⟨h5, h3⟩
     ·rw [E1 _ _ hj] at h2
      exact .inl (.inr ⟨j, q, l, h1, h2, h3, h4⟩)
   ·rintro ((h | ⟨j, q, l, h1, h2, h3, h4⟩) | ⟨h1, h2⟩)
    ·exact .inl h
    ·by_cases hj : m = j
     ·subst hj
      exact .inr ⟨m, q, l ++ [(k : Int)], h1, by rw [AB, h2]; rfl, h3, List.mem_append_left _ h4⟩
     ·exact .inr ⟨j, q, l, h1, by rw [E1 _ _ hj]; exact h2, h3, h4⟩
    ·have hr : g.rules[m]? = some (g.rules[m]'(by omega)) := List.getElem?_eq_getElem _
     exact .inr ⟨m, p, g.rules[m]'(by omega) ++ [(k : Int)], hat, by rw [AB, hr]; rfl, h2, by rw [h1]; simp⟩
def vn (kind : Int) (sn : List Int → Pa → Bool) (gs : List Fp.Grp) (x : Int) : Prop := ∃ (j : Nat) (g : Fp.Grp), gs[j]? = some g ∧ g.kind = kind ∧ FK g (sn g.tr) x
theorem EU (k : Nat) (r : Fp.Ru) (g : Fp.Grp) : (Fp.mT k r g).kind = g.kind ∧ (Fp.mT k r g).tr = g.tr := by
 unfold Fp.mT
 split
 ·exact ⟨rfl, rfl⟩
 ·split <;> exact ⟨rfl, rfl⟩
theorem Jg {n : Nat} (kind : Int) (sn : List Int → Pa → Bool) (k : Nat) (r : Fp.Ru) (gs : List Fp.Grp) (sm : Fp.qT n gs) (x : Int) :
  vn kind sn (Fp.yo k r gs) x ↔ vn kind sn gs x ∨ (x = k ∧ r.Kind = kind ∧ AP r (sn r.Transforms.xs)) := by
 have core : ∀ (gs' : List Fp.Grp) (m : Nat) (g : Fp.Grp), gs'[m]? = some g → g.kind = r.Kind → g.tr = r.Transforms.xs → g.rules.length = g.pats.length →
   (vn kind sn (gs'.modify m (Fp.mT k r)) x ↔ vn kind sn gs' x ∨ (x = k ∧ r.Kind = kind ∧ AP r (sn r.Transforms.xs))) := by
  intro gs' m g hm hk ht hl
  unfold vn
  constructor
  ·rintro ⟨j, g', h1, h2, h3⟩
   by_cases hj : m = j
   ·subst hj
    rw [AB, hm] at h1
    simp only [Option.map_some, Option.some.injEq] at h1
    subst h1
    obtain ⟨e1, e2⟩ := EU k r g
    rw [e1] at h2
    rw [e2] at h3
    rcases (CM k r g (sn g.tr) hl x).1 h3 with h4 | h4
    ·exact .inl ⟨m, g, hm, h2, h4⟩
    ·exact .inr ⟨h4.1, by rw [← hk]; exact h2, by rw [← ht]; exact h4.2⟩
   ·rw [E1 _ _ hj] at h1
    exact .inl ⟨j, g', h1, h2, h3⟩
  ·rintro (⟨j, g', h1, h2, h3⟩ | ⟨h1, h2, h3⟩)
   ·by_cases hj : m = j
    ·subst hj
     rw [hm] at h1
     simp only [Option.some.injEq] at h1
     subst h1
     obtain ⟨e1, e2⟩ := EU k r g
     exact ⟨m, Fp.mT k r g, by rw [AB, hm]; rfl, by rw [e1]; exact h2, by rw [e2]; exact (CM k r g (sn g.tr) hl x).2 (.inl h3)⟩
    ·exact ⟨j, g', by rw [E1 _ _ hj]; exact h1, h2, h3⟩
   ·obtain ⟨e1, e2⟩ := EU k r g
    exact ⟨m, Fp.mT k r g, by rw [AB, hm]; rfl, by rw [e1, hk]; exact h2, by rw [e2]; exact (CM k r g (sn g.tr) hl x).2 (.inr ⟨h1, by rw [ht]; exact h3⟩)⟩
 unfold Fp.yo Fp.sP
 by_cases hf : gs.findIdx (Fp.kP r) = gs.length
 ·rw [if_pos hf, hf]
  have := core (gs ++ [⟨r.Kind, r.Transforms.xs, [], [], []⟩]) gs.length ⟨r.Kind, r.Transforms.xs, [], [], []⟩ (by simp) rfl rfl rfl
  rw [this]
  have e : vn kind sn (gs ++ [⟨r.Kind, r.Transforms.xs, [], [], []⟩]) x ↔ vn kind sn gs x := by
   unfold vn
   constructor
   ·rintro ⟨j, g, h1, h2, h3⟩
    rcases Nat.lt_or_ge j gs.length with hj | hj
    ·rw [List.getElem?_append_left hj] at h1; exact ⟨j, g, h1, h2, h3⟩
    ·rw [List.getElem?_append_right hj] at h1
     have hj0 : j - gs.length = 0 := by
      have := (List.getElem?_eq_some_iff.1 h1).1
      simp at this; omega
     rw [hj0] at h1
     simp only [List.getElem?_cons_zero, Option.some.injEq] at h1
     subst h1
     rcases h3 with h3 | ⟨i, p, l, a, _⟩
     ·cases h3
     ·simp at a
   ·rintro ⟨j, g, h1, h2, h3⟩
    exact ⟨j, g, by rw [List.getElem?_append_left (List.getElem?_eq_some_iff.1 h1).1]; exact h1, h2, h3⟩
  rw [e]
 ·rw [if_neg hf]
  have hlt : gs.findIdx (Fp.kP r) < gs.length := by
   have := List.findIdx_le_length (p := Fp.kP r) (xs := gs)
   omega
  have hat := List.findIdx_getElem (w := hlt)
  unfold Fp.kP at hat
  rw [Bool.and_eq_true, beq_iff_eq, beq_iff_eq] at hat
  exact core gs _ _ (List.getElem?_eq_getElem hlt) hat.1 hat.2 (sm.g _ (List.getElem_mem hlt)).2.1
theorem Fl (kind : Int) (sn : List Int → Pa → Bool) (x : Int) : ∀ (l : List Fp.Ru) (k : Nat) (gs : List Fp.Grp), Fp.qT k gs →
  (vn kind sn (Fp.fA l k gs) x ↔ vn kind sn gs x ∨ ∃ (i : Nat) (r : Fp.Ru), l[i]? = some r ∧ x = ((k + i : Nat) : Int) ∧ r.Kind = kind ∧ AP r (sn r.Transforms.xs))
 | [], k, gs, sm => by
  rw [Fp.fA]
  constructor
  ·exact .inl
  ·rintro (h | ⟨i, r, h, _⟩)
   ·exact h
   ·simp at h
 | r :: l, k, gs, sm => by
  rw [Fp.fA, Fl kind sn x l (k + 1) _ (sm.add r), Jg kind sn k r gs sm x]
  constructor
  ·rintro ((h | ⟨h1, h2, h3⟩) | ⟨i, r', h1, h2, h3⟩)
   ·exact .inl h
   ·exact .inr ⟨0, r, rfl, h1, h2, h3⟩
   ·exact .inr ⟨i + 1, r', h1, by rw [h2]; omega, h3⟩
  ·rintro (h | ⟨i, r', h1, h2, h3⟩)
   ·exact .inl (.inl h)
   ·cases i with
    | zero =>
     simp only [List.getElem?_cons_zero, Option.some.injEq] at h1
     subst h1
     exact .inl (.inr ⟨h2, h3⟩)
    | succ i => exact .inr ⟨i, r', h1, by rw [h2]; omega, h3⟩
theorem Ju (p : Pa) (hp : p.1 ≠ []) (d : Au.Nm) : yw ⟨p.1, p.2⟩ d = zu (cOf p) d := by
 apply FF
 rw [vj]
 unfold zu
 rw [List.any_eq_true]
 have key : ∀ q : Nat, q + p.1.length ≤ d.length → (Au.vQ ⟨p.1, p.2⟩ d (q + p.1.length) = true ↔ Au.atB (cOf p) d (q : Nat) = true) := by
  intro q hq
  have e : Au.CH d p.1.length (q + p.1.length) = Au.qo d q p.1.length := by
   unfold Au.CH Au.qo
   rw [Nat.add_sub_cancel]
  have hX : ∀ X : Bool, ((decide (p.1 ≠ []) && (decide (p.1.length ≤ q + p.1.length) && X)) = true ↔ (decide (0 ≤ (q : Int) ∧ (q : Int) + p.1.length ≤ d.length) && X) = true) := fun X => by
   rw [decide_eq_true hp, decide_eq_true (show p.1.length ≤ q + p.1.length by omega), decide_eq_true (show 0 ≤ (q : Int) ∧ (q : Int) + p.1.length ≤ d.length by omega), Bool.true_and, Bool.true_and]
  unfold Au.vQ Au.atB
  show (decide (p.1 ≠ []) && (decide (p.1.length ≤ q + p.1.length) && (if p.2 = true then decide (Au.cL (Au.CH d p.1.length (q + p.1.length)) = Au.cL p.1) else decide (Au.CH d p.1.length (q + p.1.length) = p.1)))) = true ↔ (decide (0 ≤ (q : Int) ∧ (q : Int) + p.1.length ≤ d.length) && (if p.2 = true then decide (Au.cL (Au.qo d (q : Int).toNat p.1.length) = Au.cL p.1) else decide (Au.qo d (q : Int).toNat p.1.length = p.1))) = true
  rw [e, Int.toNat_natCast]
  exact hX _
 have hpos : 0 < p.1.length := List.length_pos_iff.2 hp
 constructor
 ·rintro ⟨e, h1, h2⟩
  have h3 : p.1.length ≤ e := by
   unfold Au.vQ at h2
   simp only [Bool.and_eq_true, decide_eq_true_eq] at h2
   exact h2.2.1
  refine ⟨e - p.1.length, by rw [List.mem_range]; omega, ?_⟩
  rw [← key _ (by omega), show e - p.1.length + p.1.length = e by omega]; exact h2
 ·rintro ⟨q, h1, h2⟩
  have h3 : q + p.1.length ≤ d.length := by
   have h4 := h2
   unfold Au.atB at h4
   rw [Bool.and_eq_true, decide_eq_true_iff] at h4
   have h5 : (q : Int) + p.1.length ≤ d.length := h4.1.2
   omega
  exact ⟨q + p.1.length, h3, (key q h3).2 h2⟩
theorem Je {rs : List (List Int)} {sn : List Bool} {k : Nat} {x : Int} : x ∈ rR rs sn k ↔ ∃ (j : Nat) (r : List Int), j < k ∧ sn[j]? = some true ∧ rs[j]? = some r ∧ x ∈ r := by
 unfold rR
 rw [List.mem_flatMap]
 constructor
 ·rintro ⟨j, h1, h2⟩
  rw [List.mem_range] at h1
  split at h2
  ·rename_i h3
   rw [List.getD_eq_getElem?_getD] at h2 h3
   cases hr : rs[j]? with
   | none => rw [hr] at h2; cases h2
   | some r =>
    cases hs : sn[j]? with
    | none => rw [hs] at h3; cases h3
    | some b =>
     rw [hs] at h3
     rw [hr] at h2
     simp only [Option.getD_some] at h2 h3
     subst h3
     exact ⟨j, r, h1, hs, hr, h2⟩
  ·cases h2
 ·rintro ⟨j, r, h1, h2, h3, h4⟩
  refine ⟨j, by rw [List.mem_range]; exact h1, ?_⟩
  rw [List.getD_eq_getElem?_getD, List.getD_eq_getElem?_getD, h2, h3]
  exact h4
def snT (w : Au.Nm) (tr : List Int) (p : Pa) : Bool := yw ⟨p.1, p.2⟩ (Au.jf tr w)
theorem DA (g : Gr) (w : Au.Nm) (x : Int) : x ∈ Fn g w ↔ FK (Fp.cV g) (snT w (Fp.cV g).tr) x := by
 unfold Fn FK
 rw [List.mem_append, Je]
 have es : ∀ j : Nat, (ir g w)[j]? = ((Fp.cV g).pats[j]?).map (snT w (Fp.cV g).tr) := fun j => by
  show (((g.Patterns.xs.map Eo).map fun p => yw p (Au.jf g.Transforms.xs w)))[j]? = ((g.Patterns.xs.map fun p : bQ => (p.Text, p.Nocase))[j]?).map (snT w g.Transforms.xs)
  rw [List.getElem?_map, List.getElem?_map, List.getElem?_map]
  cases g.Patterns.xs[j]? <;> rfl
 have el : (ir g w).length = (Fp.cV g).pats.length := by
  rw [uD, rB]
  unfold Fp.cV; simp
 constructor
 ·rintro (h | ⟨j, r, h1, h2, h3, h4⟩)
  ·exact .inl h
  ·rw [es j] at h2
   obtain ⟨p, hp, e⟩ := Option.map_eq_some_iff.1 h2
   exact .inr ⟨j, p, r, hp, h3, e, h4⟩
 ·rintro (h | ⟨j, p, r, h1, h2, h3, h4⟩)
  ·exact .inl h
  ·exact .inr ⟨j, r, by rw [el]; exact (List.getElem?_eq_some_iff.1 h1).1, by rw [es j, h1]; show some _ = some true; rw [h3], h2, h4⟩
theorem Hf {gs : List Gr} {kind : Int} {w : Au.Nm} {x : Int} : x ∈ qr (gs.filter fun g => g.Kind = kind) w ↔ vn kind (snT w) (gs.map Fp.cV) x := by
 unfold qr vn
 rw [List.mem_flatMap]
 constructor
 ·rintro ⟨g, h1, h2⟩
  rw [List.mem_filter, decide_eq_true_iff] at h1
  obtain ⟨j, hj, e⟩ := List.getElem_of_mem h1.1
  refine ⟨j, Fp.cV g, by rw [List.getElem?_map, List.getElem?_eq_getElem hj, e]; rfl, h1.2, (DA g w x).1 h2⟩
 ·rintro ⟨j, g', h1, h2, h3⟩
  rw [List.getElem?_map] at h1
  obtain ⟨g, hg, rfl⟩ := Option.map_eq_some_iff.1 h1
  refine ⟨g, ?_, (DA g w x).2 h3⟩
  rw [List.mem_filter, decide_eq_true_iff]
  exact ⟨List.mem_of_getElem? hg, h2⟩
theorem Fd {bs : List Bd} {gs : List Gr} (eg : gs.map Fp.cV = dD bs) {kind : Int} {w : Au.Nm} {x : Int} :
  x ∈ qr (gs.filter fun g => g.Kind = kind) w ↔ ∃ (i : Nat) (hi : i < bs.length), x = (i : Int) ∧ bs[i].Rule.Kind = kind ∧ AP bs[i].Rule (snT w bs[i].Rule.Transforms.xs) := by
 rw [Hf, eg]
 unfold dD Fp.mv
 rw [Fl kind (snT w) x _ 0 [] ⟨Nat.le_refl _, fun g hg => by cases hg⟩]
 constructor
 ·rintro (⟨j, g, h1, _⟩ | ⟨i, r, h1, h2, h3, h4⟩)
  ·simp at h1
  ·rw [List.getElem?_map] at h1
   obtain ⟨b, hb, rfl⟩ := Option.map_eq_some_iff.1 h1
   obtain ⟨hi, rfl⟩ := List.getElem?_eq_some_iff.1 hb
   exact ⟨i, hi, by rw [h2, Nat.zero_add], h3, h4⟩
 ·rintro ⟨i, hi, h2, h3, h4⟩
  exact .inr ⟨i, bs[i].Rule, by rw [List.getElem?_map, List.getElem?_eq_getElem hi]; rfl, by rw [h2, Nat.zero_add], h3, h4⟩
theorem Bv {bs : List Bd} {gs : List Gr} (eg : gs.map Fp.cV = dD bs) {kind : Int} {w : Au.Nm} : ∀ x ∈ qr (gs.filter fun g => g.Kind = kind) w, 0 ≤ x ∧ x < bs.length := fun x hx => by
 obtain ⟨i, hi, rfl, _⟩ := (Fd eg).1 hx
 omega
theorem Ec {b : Bd} (sd : Snd b) (w : Au.Nm) : AP b.Rule (snT w b.Rule.Transforms.xs) ↔ (match Fp.ve b.Rule.Contents.xs with | none => true | some p => zu (cOf p) (Au.jf b.Rule.Transforms.xs w)) = true := by
 unfold AP
 cases hp : Fp.ve b.Rule.Contents.xs with
 | none => simp
 | some p =>
  have := Fi (fun c hc => by have := sd.ck.con c hc; omega) hp
  simp only
  unfold snT
  rw [Ju p (fun e => by rw [e] at this; simp at this)]
theorem FE {bs : List Bd} {gs : List Gr} (eg : gs.map Fp.cV = dD bs) (sd : ∀ b ∈ bs, Snd b) (f : aU) (b : gQ) : wY bs f b.Dir (qr (gs.filter fun g => g.Kind = b.Kind) b.Data) = qB bs f b := by
 obtain ⟨h1, h2⟩ := NZ (eH (wy bs f b.Dir) (qr (gs.filter fun g => g.Kind = b.Kind) b.Data))
 refine H1 h1 (JX _ _) fun x => (h2 x).trans ?_
 unfold qB eH
 rw [List.mem_filter, Fd eg, Fb]
 constructor
 ·rintro ⟨⟨i, hi, rfl, h3, h4⟩, h5⟩
  unfold wy at h5
  rw [Int.toNat_natCast, yx _ _ _ hi, Bool.not_not] at h5
  refine ⟨i, hi, ?_, rfl⟩
  rw [yx _ _ _ hi]
  unfold AD
  rw [decide_eq_true h3, h5, Bool.true_and, Bool.true_and]
  exact (Ec (sd _ (List.getElem_mem hi)) b.Data).1 h4
 ·rintro ⟨i, hi, h3, rfl⟩
  rw [yx _ _ _ hi] at h3
  unfold AD at h3
  rw [Bool.and_eq_true, Bool.and_eq_true, decide_eq_true_iff] at h3
  obtain ⟨h3, h4, h5⟩ := h3
  refine ⟨⟨i, hi, rfl, h3, (Ec (sd _ (List.getElem_mem hi)) b.Data).2 h5⟩, ?_⟩
  unfold wy
  rw [Int.toNat_natCast, yx _ _ _ hi, h4]; rfl
theorem Be {l l' : List Bd} (e : l.map wipe = l'.map wipe) (f : aU) (b : gQ) : qB l f b = qB l' f b := by
 unfold qB
 rw [Lg (fun x => IQ x f b) e, show l.length = l'.length by have := congrArg List.length e; simpa using this]
theorem Ea (kind : Int) (w : Au.Nm) : ∀ gs : List Gr, wkL kind w false (gs.map Fp.cV) = nD (gs.filter fun g => g.Kind = kind) * w.length
 | [] => by simp [wkL, nD]
 | g :: gs => by
  have ih := Ea kind w gs
  unfold wkL at ih ⊢
  rw [List.map_cons, List.map_cons, List.sum_cons, ih]
  by_cases hk : g.Kind = kind
  ·rw [List.filter_cons_of_pos (by simp [hk])]
   unfold nD
   by_cases hd : kB g = true
   ·rw [List.filter_cons_of_pos hd, List.length_cons, Nat.succ_mul]
    unfold kB at hd
    rw [Bool.and_eq_true, decide_eq_true_iff, decide_eq_true_iff] at hd
    have : wkG kind w false (Fp.cV g) = w.length := by
     unfold wkG
     rw [if_neg (fun hh => ?_), if_pos (show (Fp.cV g).tr = [] from hd.2)]
     rcases hh with hh | hh
     ·exact hh hk
     ·exact hd.1 (List.length_eq_zero_iff.1 ((ua g).1 hh))
    omega
   ·rw [List.filter_cons_of_neg hd]
    have : wkG kind w false (Fp.cV g) = 0 := by
     unfold wkG
     by_cases h1 : (Fp.cV g).kind ≠ kind ∨ (Fp.cV g).pats = []
     ·rw [if_pos h1]
     ·rw [if_neg h1, if_neg, if_neg (by decide)]
      intro h2
      refine hd ?_
      unfold kB
      rw [Bool.and_eq_true, decide_eq_true_iff, decide_eq_true_iff]
      exact ⟨fun h3 => h1 (.inr ((ua g).2 (by rw [h3]; rfl))), h2⟩
    omega
  ·rw [List.filter_cons_of_neg (by simp [hk])]
   have : wkG kind w false (Fp.cV g) = 0 := by unfold wkG; rw [if_pos (.inl hk)]
   omega
theorem BJ (kind : Int) (w : Au.Nm) : ∀ gs : List Gr, wkL kind w true (gs.map Fp.cV) = nD (gs.filter fun g => g.Kind = kind) * w.length + trW (gs.filter fun g => g.Kind = kind) w
 | [] => by simp [wkL, nD, trW]
 | g :: gs => by
  have ih := BJ kind w gs
  unfold wkL at ih ⊢
  rw [List.map_cons, List.map_cons, List.sum_cons, ih]
  by_cases hk : g.Kind = kind
  ·rw [List.filter_cons_of_pos (by simp [hk])]
   have et : trW (g :: gs.filter fun g => decide (g.Kind = kind)) w = (if trans g = true then (Au.jf g.Transforms.xs w).length else 0) + trW (gs.filter fun g => decide (g.Kind = kind)) w := by
    unfold trW; rw [List.map_cons, List.sum_cons]
   rw [et]
   have en : nD (g :: gs.filter fun g => decide (g.Kind = kind)) = nD (gs.filter fun g => decide (g.Kind = kind)) + if kB g = true then 1 else 0 := by
    unfold nD
    by_cases hd : kB g = true
    ·rw [List.filter_cons_of_pos hd, if_pos hd]; rfl
    ·rw [List.filter_cons_of_neg hd, if_neg hd]; rfl
   rw [en, Nat.add_mul]
   have : wkG kind w true (Fp.cV g) = (if kB g = true then 1 else 0) * w.length + (if trans g = true then (Au.jf g.Transforms.xs w).length else 0) := by
    unfold wkG kB trans
    by_cases h1 : g.Patterns.xs = []
    ·rw [if_pos (.inr ((ua g).2 (by rw [h1]; rfl)))]
     simp [h1]
    ·rw [if_neg (fun hh => by
      rcases hh with hh | hh
      ·exact hh hk
      ·exact h1 (List.length_eq_zero_iff.1 ((ua g).1 hh)))]
     by_cases h2 : g.Transforms.xs = []
     ·rw [if_pos (show (Fp.cV g).tr = [] from h2)]; simp [h1, h2]
     ·rw [if_neg (show ¬ (Fp.cV g).tr = [] from h2)]; simp [h1, h2]; rfl
   omega
  ·rw [List.filter_cons_of_neg (by simp [hk])]
   have : wkG kind w true (Fp.cV g) = 0 := by unfold wkG; rw [if_pos (.inl hk)]
   omega
theorem GI {bs : List Bd} {gs : List Gr} (eg : gs.map Fp.cV = dD bs) (hb : bs.length ≤ 40) : gs.length ≤ bs.length ∧ ∀ g ∈ gs, GSz g := by
 have sm : Fp.qT bs.length (dD bs) := by have := HA (bs.map (·.Rule)); rwa [List.length_map] at this
 have hl := congrArg List.length eg
 rw [List.length_map] at hl
 refine ⟨by have := sm.len; omega, fun g hg => ?_⟩
 have hm : Fp.cV g ∈ dD bs := by rw [← eg]; exact List.mem_map_of_mem hg
 obtain ⟨h1, h2, h3, h4⟩ := sm.g _ hm
 unfold Fp.cV at h1 h2 h3 h4
 simp only [List.length_map] at h1 h2 h3
 exact ⟨h2, by omega, by omega, fun r hr => by have := h4 _ (List.mem_map_of_mem hr); omega⟩
end Go.Proofs.YtjmfpeiidlpngaaGreatDoor
namespace Go.Proofs.YtjmfpeiidlpngaaGreatDoor
set_option linter.unusedSimpArgs false
set_option linter.unusedVariables false
set_option maxRecDepth 20000
open Go
open Go.IntKind (wrap)
section
variable {h : aB} {Q : Value → aB → Prop}
theorem Lz [Gh] (l : Sl Bd) (ok : bH 25 aE.vals aE.ok h l) (hk : ∀ (e : Bool) h', Fr (fun _ => False) h h' → (e = true → l.xs.length ≤ 12 ∧ ∀ b ∈ l.xs, Snd b) → Q (.bool e) h') :
  aD Tryz.prog rM #[.slice l.p l.xs.length l.cap] h Q := by
 apply C4
 unfold x6
 have no : ∀ h', Fr (fun _ => False) h h' → Q (.bool false) h' := fun h' f => hk false h' f fun e => by cases e
 refine ifD (fun e => no h (Fr.refl _ _)) fun hl => ?_
 refine aH.go (fun n st h' => ∃ i : Nat, st = (i : Int) ∧ i ≤ l.xs.length ∧ n = l.xs.length - i ∧ Fr (fun _ => False) h h' ∧ ∀ b ∈ l.xs.take i, Snd b) l.xs.length ⟨0, rfl, by omega, rfl, Fr.refl _ _, fun b hb => by simp at hb⟩ ?_
 rintro n - h1 ⟨i, rfl, hi, rfl, f1, hs⟩ Kn hK
 unfold sa
 refine ifD (fun hlt => ?_) (fun hge => ?_)
 ·have hi' : i < l.xs.length := by omega
  refine bY (bH.fr0 aE.ok_fr f1 ok) i rfl hi' fun ad cc okr => ?_
  try rw [Int.toNat_natCast]
  refine (aA (cc.at0 rfl) (aA (cc.at rfl) (aC (cc.at rfl) (aC (cc.at rfl) (aC (cc.at rfl) (aC (cc.at rfl) (aG (cc.at rfl) (aA (cc.at rfl) (aA (cc.at rfl) (aA (cc.at rfl) (aV (cc.at rfl) (aA (cc.at rfl) (aA (cc.at rfl) (aC (cc.at rfl) (aC (cc.at rfl) (aC (cc.at rfl) (aC (cc.at rfl) (aA (cc.at rfl) (aA (cc.at rfl) (aA (cc.at rfl) (aA (cc.at rfl) (aC (cc.at rfl) (aC (cc.at rfl) (aC (cc.at rfl) (aC (cc.at rfl) ?_)))))))))))))))))))))))))
  refine nU rfl rfl fun t4 h2 f2 ht4 o4 => ?_
  have F2 := f1.trans f2
  refine aC (o4.cells.at (j := 21) rfl) (ifD (fun _ => no h2 F2) fun g1 => ?_)
  refine aC (o4.cells.at (j := 22) rfl) (ifD (fun _ => no h2 F2) fun g2 => ?_)
  refine aC (o4.cells.at (j := 23) rfl) (ifD (fun _ => no h2 F2) fun g3 => ?_)
  refine aC (o4.cells.at (j := 24) rfl) (ifD (fun _ => no h2 F2) fun g4 => ?_)
  refine (aA (o4.cells.at0 rfl) (aA (o4.cells.at rfl) (aC (o4.cells.at rfl) (aC (o4.cells.at rfl) (aC (o4.cells.at rfl) (aC (o4.cells.at rfl) (aG (o4.cells.at rfl) (aA (o4.cells.at rfl) (aA (o4.cells.at rfl) (aA (o4.cells.at rfl) (aV (o4.cells.at rfl) (aA (o4.cells.at rfl) (aA (o4.cells.at rfl) (aC (o4.cells.at rfl) (aC (o4.cells.at rfl) (aC (o4.cells.at rfl) (aC (o4.cells.at rfl) (aA (o4.cells.at rfl) (aA (o4.cells.at rfl) (aA (o4.cells.at rfl) (aA (o4.cells.at rfl) ?_)))))))))))))))))))))
  refine Au.Mn l.xs[i].Rule (aE.ok_fr _ _ _ f2 okr).k0 fun e h3 f3 hck => ⟨e, rfl, ?_⟩
  refine ki (fun _ => no h3 (F2.trans f3)) fun he => ?_
  rw [wr (by omega) (by omega)]
  refine hK (l.xs.length - (i + 1)) _ _ (by omega) ⟨i + 1, rfl, by omega, rfl, F2.trans f3, fun b hb => ?_⟩
  rw [show l.xs.take (i + 1) = l.xs.take i ++ [l.xs[i]] by rw [List.take_append_getElem], List.mem_append, List.mem_singleton] at hb
  rcases hb with hb | hb
  ·exact hs b hb
  ·subst hb
   exact ⟨hck he, by omega, by omega, by omega, by omega⟩
 ·have : i = l.xs.length := by omega
  subst this
  rw [List.take_length] at hs
  exact hk true h1 f1 fun _ => ⟨by omega, hs⟩
def mu : List aK := [⟨⟨false, 0, 0⟩, ⟨false, 0, 4294967295⟩⟩, ⟨⟨true, 0, 0⟩, ⟨true, 18446744073709551615, 18446744073709551615⟩⟩]
def mh : List aP := [⟨0, 65535⟩]
def Iv (s : List UInt8) : List aI := [⟨s, false, false, false, 0, 0, false⟩]
def MQ (sid : Int) (C : Sl aI) : aJ := ⟨1, 6, uz, uz, uz, uz, false, sid, 1, 2, [], 0, 4, uz, C, uz, uz, ⟨0, 0, 0, 0⟩⟩
def LZ (sid : Int) (s : List UInt8) : Bd := ⟨MQ sid ⟨none, 0, Iv s⟩, ⟨none, 0, mu⟩, ⟨none, 0, mu⟩, ⟨none, 0, mh⟩, ⟨none, 0, mh⟩⟩
theorem Lv {C : Sl aI} {sid : Int} (hs : kOk .i64 h sid) (hC : bH 7 aI.vals aI.ok h C) : aJ.ok h (MQ sid C) :=
 ⟨rfl, rfl, uZ, uZ, uZ, uZ, trivial, hs, rfl, rfl, Nat.zero_le _, rfl, rfl, uZ, hC, uZ, uZ, ⟨rfl, rfl, rfl, rfl⟩⟩
theorem LP : ∀ x ∈ mu, aK.ok h x := fun x hx => by
 simp only [mu, List.mem_cons, List.not_mem_nil, or_false] at hx
 rcases hx with rfl | rfl <;> exact ⟨⟨trivial, rfl, rfl⟩, ⟨trivial, rfl, rfl⟩⟩
theorem LS : ∀ x ∈ mh, aP.ok h x := fun x hx => by
 simp only [mh, List.mem_cons, List.not_mem_nil, or_false] at hx
 subst hx; exact ⟨rfl, rfl⟩
theorem M9 [Gh] (r : aJ) (hk : ∀ (b : Bd) h', Fr (fun _ => False) h h' → b.Rule = r → b.Src.xs = mu → b.Dst.xs = mu → b.SrcPorts.xs = mh → b.DstPorts.xs = mh →
   Kp (fun x => h.size ≤ x) h' (fun h'' => bH 6 aK.vals aK.ok h'' b.Src ∧ bH 6 aK.vals aK.ok h'' b.Dst ∧ bH 2 aP.vals aP.ok h'' b.SrcPorts ∧ bH 2 aP.vals aP.ok h'' b.DstPorts) → Q (.agg b.vals.toArray) h') :
  aD Tryz.prog tk #[.agg r.vals.toArray] h Q := by
 apply Ek
 unfold zk
 refine aX (vs := r.vals) fun t1 h1 f1 e1 o1 => ?_
 refine aX (vs := HQ.vals) fun t2 h2 f2 e2 o2 => ?_
 refine aX (vs := mu.flatMap aK.vals) fun t13 h3 f3 e3 o3 => ?_
 refine aX (vs := mh.flatMap aP.vals) fun t15 h4 f4 e4 o4 => ?_
 have z1 := f1.size; have z2 := f2.size; have z3 := f3.size
 have F24 := f3.trans f4
 have F14 := f2.trans F24
 have o14 := o1.fr0 F14
 refine (aA (o14.cells.at0 rfl) (aA (o14.cells.at rfl) (aC (o14.cells.at rfl) (aC (o14.cells.at rfl) (aC (o14.cells.at rfl) (aC (o14.cells.at rfl) (aG (o14.cells.at rfl) (aA (o14.cells.at rfl) (aA (o14.cells.at rfl) (aA (o14.cells.at rfl) (aV (o14.cells.at rfl) (aA (o14.cells.at rfl) (aA (o14.cells.at rfl) (aC (o14.cells.at rfl) (aC (o14.cells.at rfl) (aC (o14.cells.at rfl) (aC (o14.cells.at rfl) (aA (o14.cells.at rfl) (aA (o14.cells.at rfl) (aA (o14.cells.at rfl) (aA (o14.cells.at rfl) ?_)))))))))))))))))))))
 refine ig (o2.fr0 F24) (ws := (⟨r, ⟨some t13, 2, mu⟩, ⟨some t13, 2, mu⟩, ⟨some t15, 1, mh⟩, ⟨some t15, 1, mh⟩⟩ : Bd).vals) (by rfl) (by rfl) fun h5 f5 z5 o5 => ?_
 refine (aA (o5.cells.at0 rfl) (aA (o5.cells.at rfl) (aC (o5.cells.at rfl) (aC (o5.cells.at rfl) (aC (o5.cells.at rfl) (aC (o5.cells.at rfl) (aG (o5.cells.at rfl) (aA (o5.cells.at rfl) (aA (o5.cells.at rfl) (aA (o5.cells.at rfl) (aV (o5.cells.at rfl) (aA (o5.cells.at rfl) (aA (o5.cells.at rfl) (aC (o5.cells.at rfl) (aC (o5.cells.at rfl) (aC (o5.cells.at rfl) (aC (o5.cells.at rfl) (aA (o5.cells.at rfl) (aA (o5.cells.at rfl) (aA (o5.cells.at rfl) (aA (o5.cells.at rfl) (aC (o5.cells.at rfl) (aC (o5.cells.at rfl) (aC (o5.cells.at rfl) (aC (o5.cells.at rfl) ?_)))))))))))))))))))))))))
 have l2 := o2.lt
 have F5 : Fr (fun _ => False) h h5 := (f1.trans (f2.trans F24)).tr f5 fun x hx hh => by omega
 refine hk ⟨r, ⟨some t13, 2, mu⟩, ⟨some t13, 2, mu⟩, ⟨some t15, 1, mh⟩, ⟨some t15, 1, mh⟩⟩ h5 F5 rfl rfl rfl rfl rfl fun h6 f6 => ?_
 have k13 : bH 6 aK.vals aK.ok h6 ⟨some t13, 2, mu⟩ := bH.of_own (sz := 6) (vals := aK.vals) (xs := mu) (fun _ => rfl) (((o3.fr0 f4).fr f5 (by omega)).fr f6 (by omega)) (by decide) LP
 have k15 : bH 2 aP.vals aP.ok h6 ⟨some t15, 1, mh⟩ := bH.of_own (sz := 2) (vals := aP.vals) (xs := mh) (fun _ => rfl) ((o4.fr f5 (by omega)).fr f6 (by omega)) (by decide) LS
 exact ⟨k13, k13, k15, k15⟩
theorem K6 [Gh] (sid : Int) (hs : ∀ h, kOk .i64 h sid) (s : List UInt8) (hl : s.length ≤ 1000) (hk : ∀ (b : Bd) h', Fr (fun _ => False) h h' → aE.ok h' b → wipe b = LZ sid s → Q (.agg b.vals.toArray) h') :
  aD Tryz.prog oD #[.int .i64 sid, .string (bs s)] h Q := by
 apply E8
 unfold AU
 refine aX (vs := HQ.vals) fun t4 h1 f1 e1 o1 => ?_
 refine aX (vs := (Iv s).flatMap aI.vals) fun t8 h2 f2 e2 o2 => ?_
 have z1 := f1.size; have z2 := f2.size
 have l4 := o1.lt
 have l8 := o2.lt
 refine M9 (MQ sid ⟨some t8, 1, Iv s⟩) fun b h3 f3 e1 e2 e3 e4 e5 k => ⟨_, _, _, _, _, _, _, _, _, _, _, _, _, _, _, _, _, _, _, _, _, _, _, _, _, _, _, _, _, _, _, _, _, _, _, _, _, _, _, _, _, _, _, _, _, _, _, _, _, rfl, ?_⟩
 have F3 := f2.trans f3
 refine ig (o1.fr0 F3) (ws := b.vals) (by rfl) (by rfl) fun h5 f5 z5 o5 => ?_
 refine (aA (o5.cells.at0 rfl) (aA (o5.cells.at rfl) (aC (o5.cells.at rfl) (aC (o5.cells.at rfl) (aC (o5.cells.at rfl) (aC (o5.cells.at rfl) (aG (o5.cells.at rfl) (aA (o5.cells.at rfl) (aA (o5.cells.at rfl) (aA (o5.cells.at rfl) (aV (o5.cells.at rfl) (aA (o5.cells.at rfl) (aA (o5.cells.at rfl) (aC (o5.cells.at rfl) (aC (o5.cells.at rfl) (aC (o5.cells.at rfl) (aC (o5.cells.at rfl) (aA (o5.cells.at rfl) (aA (o5.cells.at rfl) (aA (o5.cells.at rfl) (aA (o5.cells.at rfl) (aC (o5.cells.at rfl) (aC (o5.cells.at rfl) (aC (o5.cells.at rfl) (aC (o5.cells.at rfl) ?_)))))))))))))))))))))))))
 have k5 := k h5 (f5.mono fun x hx hh => by omega)
 have okC : bH 7 aI.vals aI.ok h5 ⟨some t8, 1, Iv s⟩ := bH.of_own (sz := 7) (vals := aI.vals) (xs := Iv s) (fun _ => rfl) ((o2.fr0 f3).fr f5 (by omega)) (by show 1 ≤ _; decide) fun x hx => by
  simp only [Iv, List.mem_cons, List.not_mem_nil, or_false] at hx
  subst hx
  exact ⟨by show s.length ≤ _; omega, trivial, trivial, trivial, rfl, rfl, trivial⟩
 refine hk b h5 ((f1.trans F3).tr f5 fun x hx hh => by omega) ⟨by rw [e1]; exact Lv (hs _) okC, k5.1, k5.2.1, k5.2.2.1, k5.2.2.2⟩ ?_
 unfold wipe ux
 rw [e1, e2, e3, e4, e5]; rfl
end
section
variable {N : Nat} {F F' S : Nat → Prop} {h h' : aB} {s c : Addr} {f : aU} {dir : Int} {bs : List Bd} {gs K : List Gr} {w : Au.Nm} {work : Int} {done : Bool} {out : List Int}
theorem pu.wk (T : pu N F h s c f dir bs gs K w work done out) (hF : ∀ x, x < h.size → F x → F' x) : pu N F' h s c f dir bs gs K w work done out := by
 obtain ⟨o, t9, av, pa, kp, R, C, KP, hkp⟩ := T
 exact ⟨o, t9, av, pa, kp, ⟨R.low, fun x hx hn hne => hF x hx (R.fp x hx hn hne), R.set, R.k9, R.la, R.lp, R.part⟩, C, KP, hkp⟩
theorem pu.fr (T : pu N F h s c f dir bs gs K w work done out) (fr : Fr S h h') (hs : ∀ x, x < h.size → S x → N ≤ x ∧ ¬ F x) : pu N F h' s c f dir bs gs K w work done out := by
 obtain ⟨o, t9, av, pa, kp, R, C, KP, hkp⟩ := T
 have ho : Au.Old h o (Au.upT o h.size 9) := Au.Old.up (Nat.le_refl _)
 have h9 : ∀ x, x < h.size → S x → o x = 9 := fun x hx hh => Classical.byContradiction fun hn => (hs x hx hh).2 (R.fp x hx (hs x hx hh).1 hn)
 refine ⟨Au.upT o h.size 9, t9, av, pa, kp, R.fr fr ho (fun x hx hh => by have := h9 x hx hh; omega) (fun x hx hn hne => ?_) fr.size, C.fr fr ho fun x hx hh => .inr (.inl (h9 x hx hh)), KP.fr fr ho fun x hx hh => by have := h9 x hx hh; omega, hkp⟩
 rcases Nat.lt_or_ge x h.size with hl | hl
 ·exact R.fp x hl hn (by rw [Au.eK hl] at hne; exact hne)
 ·exact absurd (Au.kE hl) hne
theorem pu.fr0 (fr : Fr (fun _ => False) h h') (T : pu N F h s c f dir bs gs K w work done out) : pu N F h' s c f dir bs gs K w work done out := T.fr fr fun _ _ hh => hh.elim
theorem wX.fr0 (fr : Fr (fun _ => False) h h') (D : wX F h c work out) : wX F h' c work out := D.fr fr fun _ hh => hh.elim
end
def exL : List Bd := [LZ 1 [101, 118, 105, 108], LZ 2 [98, 97, 100], LZ 3 [103, 111, 111, 100]]
def exF : aU := ⟨6, ⟨false, 0, 0⟩, ⟨false, 0, 0⟩, 5, 80⟩
theorem MD : ∀ b ∈ exL, Snd b := by
 intro b hb
 simp only [exL, List.mem_cons, List.not_mem_nil, or_false] at hb
 rcases hb with rfl | rfl | rfl <;> exact ⟨⟨by decide, by decide, by decide, by decide, by decide, by decide, by decide, by decide, by decide, by decide, by decide, by decide, by decide, by decide, by decide, by decide, by decide, by decide, by decide⟩, by decide, by decide, by decide, by decide⟩
theorem Nu : qB exL exF ⟨4, 1, 0, [47, 101, 118, 105, 108]⟩ = [0] := by decide +kernel
theorem NE : wkL 4 [47, 101, 118, 105, 108] true (dD exL) = 5 := by decide +kernel
set_option maxHeartbeats 1000000 in
theorem Iq [Gh] {h : aB} {Q : Value → aB → Prop} (hk : ∀ h', Fr (fun _ => False) h h' → Q (.bool true) h') : aD Tryz.prog hU #[] h Q := by
 apply C7
 unfold x9
 refine K6 1 (fun _ => rfl) [101, 118, 105, 108] (by decide) fun b1 h1 f1 ok1 w1 => ⟨_, _, _, _, _, _, _, _, _, _, _, _, _, _, _, _, _, _, _, _, _, _, _, _, _, _, _, _, _, _, _, _, _, _, _, _, _, _, _, _, _, _, _, _, _, _, _, _, _, rfl, ?_⟩
 refine K6 2 (fun _ => rfl) [98, 97, 100] (by decide) fun b2 h2 f2 ok2 w2 => ⟨_, _, _, _, _, _, _, _, _, _, _, _, _, _, _, _, _, _, _, _, _, _, _, _, _, _, _, _, _, _, _, _, _, _, _, _, _, _, _, _, _, _, _, _, _, _, _, _, _, rfl, ?_⟩
 refine K6 3 (fun _ => rfl) [103, 111, 111, 100] (by decide) fun b3 h3 f3 ok3 w3 => ⟨_, _, _, _, _, _, _, _, _, _, _, _, _, _, _, _, _, _, _, _, _, _, _, _, _, _, _, _, _, _, _, _, _, _, _, _, _, _, _, _, _, _, _, _, _, _, _, _, _, rfl, ?_⟩
 refine aX (vs := [b1, b2, b3].flatMap aE.vals) fun t9 h4 f4 _ o9 => ?_
 have ok : bH 25 aE.vals aE.ok h4 ⟨some t9, 3, [b1, b2, b3]⟩ := bH.of_own (sz := 25) (vals := aE.vals) (xs := [b1, b2, b3]) (fun _ => rfl) o9 (by show 3 ≤ _; decide) fun x hx => by
  simp only [List.mem_cons, List.not_mem_nil, or_false] at hx
  rcases hx with rfl | rfl | rfl
  ·exact aE.ok_fr _ _ _ ((f2.trans f3).trans f4) ok1
  ·exact aE.ok_fr _ _ _ (f3.trans f4) ok2
  ·exact aE.ok_fr _ _ _ f4 ok3
 have F4 := ((f1.trans f2).trans f3).trans f4
 have wl : [b1, b2, b3].map wipe = exL.map wipe := by
  simp only [List.map_cons, List.map_nil, w1, w2, w3]; rfl
 have sd : ∀ b ∈ [b1, b2, b3], Snd b := fun b hb => by
  obtain ⟨b', hb', e⟩ := yE wl hb
  exact (MD b' hb').wipe e
 clear w1 w2 w3 ok1 ok2 ok3
 generalize hL : [b1, b2, b3] = L at *
 have eL3 : L.length = 3 := by rw [← hL]; rfl
 have sids : (L.map px) = [1, 2, 3] := by
  have := congrArg (List.map fun b : Bd => b.Rule.Sid) wl
  rw [List.map_map, List.map_map] at this
  exact this
 have call := fun (K : Value → aB → Prop) => Dy ⟨some t9, 3, L⟩ ok (by show L.length ≤ 40; omega) sd (Q := K)
 rw [show (⟨some t9, 3, L⟩ : Sl Bd).xs.length = 3 from eL3] at call
 refine call _ (fun h5 f5 nn => absurd (by rw [sids]; decide) nn) fun s h5 bs gs f5 T eb eg nd => ⟨_, _, rfl, ?_⟩
 have blen : bs.length = 3 := by have := congrArg List.length eb; rw [List.length_map, List.length_map] at this; exact this.trans eL3
 have eg' : gs.map Fp.cV = dD bs := eg.trans (og eb.symm)
 have ex : bs.map wipe = exL.map wipe := eb.trans wl
 have sdb : ∀ b ∈ bs, Snd b := fun b hb => by
  obtain ⟨b', hb', e⟩ := yE ex hb
  exact (MD b' hb').wipe e
 obtain ⟨glen, gsz⟩ := GI eg' (by omega)
 rw [if_neg (by decide)]
 refine zh ?_
 have F5 := F4.trans f5
 refine nU (vs := exF.vals) (by rfl) (by rfl) fun t3 h7 f7 e7 o3 => ?_
 refine (aA (o3.cells.at0 rfl) (aG (o3.cells.at rfl) (aA (o3.cells.at rfl) (aA (o3.cells.at rfl) (aG (o3.cells.at rfl) (aA (o3.cells.at rfl) (aA (o3.cells.at rfl) (aA (o3.cells.at rfl) (aA (o3.cells.at rfl) ?_)))))))))
 have T7 := T.fr0 f7
 have hN := T.1
 have z7 := f7.size
 refine xi T7 (by omega) (fun g hg => by have := (gsz g hg).pl; omega) exF 4 1 fun c h8 f8 S8 hc => ⟨_, rfl, zh ?_⟩
 have z8 := f8.size
 have l3 := o3.lt
 have Klen : (gs.filter fun g => g.Kind = 4).length ≤ 40 := Nat.le_trans (List.length_filter_le _ _) (by omega)
 have kn := E6 (gs.filter fun g => g.Kind = 4)
 refine Eu S8 [47, 101, 118] (by decide) Klen (by omega) fun h9 f9 S9 => ⟨rfl, ?_⟩
 have z9 := f9.size
 refine Eu S9 [105, 108] (by decide) Klen (by simp only [List.length_cons, List.length_nil]; omega) fun h10 f10 S10 => ⟨rfl, ?_⟩
 have z10 := f10.size
 have F810 : Fr (fun x => h7.size ≤ x) h8 h10 := (f9.mono fun x hx => hx).trans (f10.mono fun x hx => by rcases hx with hx | hx <;> omega)
 have o310 := (o3.fr0 f8).fr F810 (by omega)
 refine (aA (o310.cells.at0 rfl) (aG (o310.cells.at rfl) (aA (o310.cells.at rfl) (aA (o310.cells.at rfl) (aG (o310.cells.at rfl) (aA (o310.cells.at rfl) (aA (o310.cells.at rfl) (aA (o310.cells.at rfl) (aA (o310.cells.at rfl) ?_)))))))))
 have T10 := (T7.fr0 f8).fr F810 fun x _ hx => by omega
 have ec := FE eg' sdb exF ⟨4, 1, 0, [47, 101, 118, 105, 108]⟩
 rw [Be ex, Nu] at ec
 refine DZ T10 (by omega) (by omega) gsz exF ⟨4, 1, 0, [47, 101, 118, 105, 108]⟩ (by decide) (Bv eg') fun p pc h11 f11 R11 hp => ?_
 rw [ec] at R11 ⊢
 refine ⟨_, _, _, rfl, ?_⟩
 have oneI : ∀ {h : aB} {a : Addr}, Own h a [.int .i64 0] nY → Row 1 Au.mi h (some a) 1 [0] := fun o => Row.of_own (L := [(0 : Int)]) pU o
 refine aX (vs := [.int .i64 0]) fun t33 h12 f12 e12 o33 => ?_
 refine CA (R11.fr0 f12) (oneI o33) (by decide) ⟨_, rfl, ?_⟩
 rw [decide_eq_true rfl, if_pos rfl]
 have S12 := S10.fr0 (f11.trans f12)
 simp only [List.nil_append, List.cons_append] at S12
 have hr := Bv eg' (kind := 4) (w := [47, 101, 118, 105, 108])
 refine yp S12 (by omega) Klen (by decide) (by simp only [List.length_cons, List.length_nil]; omega) (fun g hg => gsz g (List.mem_filter.1 hg).1) hr fun p2 pc2 h14 f14 D14 R14 hp2 => ?_
 have ec2 : wY bs exF 1 (qr (gs.filter fun g => g.Kind = 4) [47, 101, 118, 105, 108]) = [0] := ec
 rw [ec2] at R14 D14 ⊢
 refine ⟨_, _, _, rfl, ?_⟩
 refine aX (vs := [.int .i64 0]) fun t38 h15 f15 e15 o38 => ?_
 refine CA (R14.fr0 f15) (oneI o38) (by decide) ⟨_, rfl, ?_⟩
 rw [decide_eq_true rfl, if_pos rfl]
 refine yB (D14.fr0 f15) ⟨_, rfl, ?_⟩
 have ew : nD (gs.filter fun g => g.Kind = 4) * 5 + trW (gs.filter fun g => g.Kind = 4) [47, 101, 118, 105, 108] = 5 := by
  have h1 := BJ 4 [47, 101, 118, 105, 108] gs
  rw [eg', og ex, NE] at h1
  exact h1.symm
 rw [if_pos (by
  simp only [List.length_cons, List.length_nil, beq_iff_eq]
  omega)]
 have f1015 : Fr (fun x => h7.size ≤ x) h10 h15 := (((f11.trans f12).mono fun _ => False.elim).trans (f14.mono fun x hx => by rcases hx with (hx | hx) | hx <;> omega)).trans (f15.mono fun _ => False.elim)
 have T15 := T10.fr f1015 fun x _ hx => by omega
 refine Oh T15 (by omega) ⟨_, rfl, ?_⟩
 have e3 : ((bs.length : Nat) : Int) == 3 := by rw [blen]; rfl
 rw [e3]
 exact hk h15 ((((F5.trans f7).trans f8).tr F810 fun x hx hh => by have := F5.size; omega).tr f1015 fun x hx hh => by have := F5.size; omega)
end Go.Proofs.YtjmfpeiidlpngaaGreatDoor
namespace Go.Proofs.YtjmfpeiidlpngaaGreatDoor
set_option linter.unusedSimpArgs false
set_option linter.unusedVariables false
set_option maxRecDepth 20000
open Go
open Go.IntKind (wrap)
set_option maxHeartbeats 2000000 in
theorem JY [Gh] {l : Sl Bd} {h0 h7 h : aB} {f : aU} {kind dir : Int} {N : Nat} {s rs c d t4 t5 : Addr} {bs : List Bd} {gs : List Gr} {w : Au.Nm} {Q : Value → aB → Prop} {v2 : Value}
  (hl : l.xs.length ≤ 12) (sd : ∀ b ∈ l.xs, Snd b) (eb : bs.map wipe = l.xs.map wipe) (eg : gs.map Fp.cV = dD l.xs) (F0 : Fr (fun _ => False) h0 h7) (F7 : Fr (fun _ => False) h7 h) (T : yl N h s bs gs) (hN : N ≤ h7.size) (RT : B4 h7 rs l) (hd7 : h7.size ≤ d.block) (hdh : d.block < h.size)
  (o4 : Own h7 t4 f.vals gA) (o5 : Own h7 t5 [.int .i64 kind, .int .i64 dir, v2] j6) (hw : w.length ≤ 3000)
  (S : pu N (fun x => h7.size ≤ x ∧ x ≠ d.block) h s c f dir bs gs (gs.filter fun g => g.Kind = kind) w (nD (gs.filter fun g => g.Kind = kind) * w.length : Nat) false []) (od : Own h d (Dw rs f kind dir w false) cA)
  (hk : ∀ h', Fr (fun _ => False) h0 h' → Q (.bool true) h') : jc l.p l.xs.length l.cap t4 t5 (some s) (some c) (some d) (Go.Proofs.YtjmfpeiidlpngaaGreatDoor.bs w) Q h := by
 unfold jc
 have blen : bs.length = l.xs.length := by have := congrArg List.length eb; simpa using this
 have eg' : gs.map Fp.cV = dD bs := eg.trans (og eb.symm)
 have sdb : ∀ b ∈ bs, Snd b := fun b hb => by
  obtain ⟨b', hb', e⟩ := yE eb hb
  exact (sd b' hb').wipe e
 obtain ⟨glen, gsz⟩ := GI eg' (by omega)
 have Klen : (gs.filter fun g => g.Kind = kind).length ≤ 40 := Nat.le_trans (List.length_filter_le _ _) (by omega)
 have z7 := F7.size
 have kn := E6 (gs.filter fun g => g.Kind = kind)
 have hwk : nD (gs.filter fun g => g.Kind = kind) * w.length ≤ 40 * 3000 := Nat.mul_le_mul (by omega) hw
 have ec := FE eg' sdb f ⟨kind, dir, 0, w⟩
 rw [Be eb] at ec
 have ec2 : wY bs f dir (qr (gs.filter fun g => g.Kind = kind) w) = qB l.xs f ⟨kind, dir, 0, w⟩ := ec
 have clen : (qB l.xs f ⟨kind, dir, 0, w⟩).length ≤ l.xs.length := Ct _ _
 refine yp S (by omega) Klen (by omega) (by omega) (fun g hg => gsz g (List.mem_filter.1 hg).1) (Bv eg') fun p pc h16 f16 D16 R16 hp => ?_
 rw [ec2] at R16 D16 ⊢
 refine ⟨_, _, _, rfl, ?_⟩
 have z16 := f16.size
 have F16 : Fr (fun _ => False) h7 h16 := F7.tr f16 fun x hx hh => by omega
 have od16 := od.fr f16 fun hh => hh.2 rfl
 refine Fc (RT.fr0 F16) (by omega) sd od16 (by omega) (fun h' f' => RT.fr0 (F16.tr f' fun x hx hh => by omega)) fun p2 pc2 h17 f17 od17 R17 hp2 => ⟨_, _, _, rfl, ?_⟩
 have z17 := f17.size
 have F17 : Fr (fun _ => False) h7 h17 := F16.tr f17 fun x hx hh => by omega
 have R16' := R16.fr f17 fun x hx hh => by have := hp x hx; omega
 have D17 := D16.fr f17 fun x hx hh => by rcases hh with hh | hh <;> omega
 refine CA R16' R17 (by omega) ⟨_, rfl, ?_⟩
 rw [decide_eq_true rfl, if_neg (by decide)]
 have o417 := o4.fr0 F17
 have o517 := o5.fr0 F17
 refine (aA (o417.cells.at0 rfl) (aG (o417.cells.at rfl) (aA (o417.cells.at rfl) (aA (o417.cells.at rfl) (aG (o417.cells.at rfl) (aA (o417.cells.at rfl) (aA (o417.cells.at rfl) (aA (o417.cells.at rfl) (aA (o417.cells.at rfl) ?_)))))))))
 refine aA (o517.cells.at0 rfl) (aA (o517.cells.at (j := 1) rfl) ?_)
 have T17 := (T.fr f16 fun x hx hh => by omega).fr f17 fun x hx hh => by omega
 refine DZ T17 (by omega) (by omega) gsz f ⟨kind, dir, 0, w⟩ (by show w.length ≤ _; omega) (Bv eg') fun p3 pc3 h19 f19 R19 hp3 => ?_
 rw [ec] at R19 ⊢
 refine ⟨_, _, _, rfl, ?_⟩
 refine CA (R16'.fr0 f19) R19 (by omega) ⟨_, rfl, ?_⟩
 rw [decide_eq_true rfl, if_neg (by decide)]
 have D19 := D17.fr0 f19
 refine yB D19 ⟨_, rfl, ?_⟩
 refine GO D19 [109, 111, 114, 101] ⟨rfl, ?_⟩
 have F19 := F17.trans f19
 refine Id (RT.fr0 F19) (by omega) sd (od17.fr0 f19) (by omega) fun h23 f23 => ⟨_, rfl, ?_⟩
 have ew := BJ kind w gs
 rw [eg] at ew
 have ewi : ((nD (gs.filter fun g => g.Kind = kind) * w.length : Nat) : Int) + ((trW (gs.filter fun g => g.Kind = kind) w : Nat) : Int) = ((wkL kind w true (dD l.xs) : Nat) : Int) := by rw [ew]; omega
 rw [ewi] at D19 ⊢
 rw [if_pos (by simp)]
 have wl := KY kind w true (dD l.xs)
 have gl : (dD l.xs).length ≤ l.xs.length := by
  have := congrArg List.length eg
  rw [List.length_map] at this; omega
 rw [aY, wr (x := ((w.length : Nat) : Int) + 1) (by omega) (by omega)]
 have hmul : (((w.length : Nat) : Int) + 1) * ((l.xs.length : Nat) : Int) = (((w.length + 1) * l.xs.length : Nat) : Int) := by push_cast; rfl
 have hm1 : (w.length + 1) * l.xs.length ≤ 3001 * 12 := Nat.mul_le_mul (by omega) hl
 rw [hmul, wr (by omega) (by omega)]
 have hle : wkL kind w true (dD l.xs) ≤ (w.length + 1) * l.xs.length := by
  have h1 : (dD l.xs).length * (w.length + 1) ≤ l.xs.length * (w.length + 1) := Nat.mul_le_mul_right _ gl
  rw [Nat.mul_comm (w.length + 1)]
  omega
 rw [if_pos (by rw [decide_eq_true_iff]; omega)]
 have D23 := D19.fr0 f23
 refine FW D23 (by omega) (fun x hx => by
  obtain ⟨i, hi, _, rfl⟩ := Fb.1 hx
  omega) fun p4 pc4 h24 f24 R24 => ⟨_, _, _, rfl, ?_⟩
 refine CA R24 (((R16'.fr0 f19).fr0 f23).fr0 f24) (by omega) ⟨_, rfl, ?_⟩
 rw [decide_eq_true rfl, if_pos rfl]
 refine yB (D23.fr0 f24) ⟨_, rfl, ?_⟩
 rw [if_pos (by simp)]
 exact Iq fun h2 f2 => ⟨_, rfl, hk h2 (F0.trans (((F19.trans f23).trans f24).trans f2))⟩
set_option maxHeartbeats 2000000 in
theorem Cv [Gh] (l : Sl Bd) (f : aU) (x : aQ) {h : aB} (ol : bH 25 aE.vals aE.ok h l) (of : aU.ok h f) (ox : aQ.ok h x) {Q : Value → aB → Prop} (hk : ∀ h', Fr (fun _ => False) h h' → Q (.bool true) h') :
  aD Tryz.prog pA #[.slice l.p l.xs.length l.cap, .agg f.vals.toArray, .agg x.vals.toArray] h Q := by
 apply wV
 unfold qw
 have aw : ∀ h', Fr (fun _ => False) h h' → aD Tryz.prog hU #[] h' fun v h2 => ∃ t14 : Bool, v = .bool t14 ∧ Q (.bool t14) h2 := fun h' f => Iq fun h2 f2 => ⟨_, rfl, hk h2 (f.trans f2)⟩
 refine aX (vs := f.vals) fun t4 h1 f1 e1 o4 => aX (vs := x.vals) fun t5 h2 f2 e2 o5 => ?_
 have F2 := f1.trans f2
 refine Lz l (bH.fr0 aE.ok_fr F2 ol) fun e h3 f3 hs => ⟨_, rfl, ?_⟩
 have F3 := F2.trans f3
 refine ifN (fun _ => aw h3 F3) fun he => ?_
 obtain ⟨hl, sd⟩ := hs he
 refine aC ((o5.fr0 f3).cells.at (j := 2) rfl) ?_
 refine ifD (fun _ => aw h3 F3) fun hn30 => ?_
 have ol3 := bH.fr0 aE.ok_fr F3 ol
 refine Dy l ol3 (by omega) sd (fun h6 f6 nn => ⟨_, _, rfl, ?_⟩) fun s h6 bs gs f6 T eb eg nd => ⟨_, _, rfl, ?_⟩
 ·have ol6 := bH.fr0 aE.ok_fr f6 ol3
  refine BK l ol6 (by omega) (fun _ => ⟨_, _, rfl, ?_⟩) fun s h4 f4 _ _ nd => absurd nd nn
  rw [if_neg (by decide), if_pos (by decide), if_pos (by rfl)]
  exact aw h6 (F3.trans f6)
 have ol6 := bH.fr0 aE.ok_fr f6 ol3
 refine BK l ol6 (by omega) (fun nn => absurd nd nn) fun rs h7 f7 RT _ _ => ⟨_, _, rfl, ?_⟩
 rw [if_neg (by decide), if_neg (by decide)]
 refine zh ?_
 have eg' : gs.map Fp.cV = dD bs := eg.trans (og eb.symm)
 have blen : bs.length = l.xs.length := by have := congrArg List.length eb; simpa using this
 obtain ⟨glen, gsz⟩ := GI eg' (by omega)
 have Klen : (gs.filter fun g => g.Kind = x.Kind).length ≤ 40 := Nat.le_trans (List.length_filter_le _ _) (by omega)
 have kn := E6 (gs.filter fun g => g.Kind = x.Kind)
 have T7 := T.fr0 f7
 have F37 := f3.trans (f6.trans f7)
 have F7 := F2.trans F37
 have o47 := (o4.fr0 f2).fr0 F37
 have o57 := o5.fr0 F37
 have hN : h6.size ≤ h7.size := f7.size
 have ox7 := aQ.ok_fr _ _ _ F7 ox
 refine (aA (o47.cells.at0 rfl) (aG (o47.cells.at rfl) (aA (o47.cells.at rfl) (aA (o47.cells.at rfl) (aG (o47.cells.at rfl) (aA (o47.cells.at rfl) (aA (o47.cells.at rfl) (aA (o47.cells.at rfl) (aA (o47.cells.at rfl) ?_)))))))))
 refine aA (o57.cells.at0 rfl) (aA (o57.cells.at (j := 1) rfl) ?_)
 refine xi T7 (by omega) (fun g hg => by have := (gsz g hg).pl; omega) f x.Kind x.Dir fun c h9 f9 S9 hc => ⟨_, rfl, zh ?_⟩
 have o49 := o47.fr0 f9
 have o59 := o57.fr0 f9
 refine (aA (o49.cells.at0 rfl) (aG (o49.cells.at rfl) (aA (o49.cells.at rfl) (aA (o49.cells.at rfl) (aG (o49.cells.at rfl) (aA (o49.cells.at rfl) (aA (o49.cells.at rfl) (aA (o49.cells.at rfl) (aA (o49.cells.at rfl) ?_)))))))))
 refine aA (o59.cells.at0 rfl) (aA (o59.cells.at (j := 1) rfl) ?_)
 refine J6 f x.Kind x.Dir fun d h10 f10 hd od => ⟨_, rfl, ?_⟩
 have z9 := f9.size
 have ld := od.lt
 have S10 : pu h6.size (fun y => h7.size ≤ y ∧ y ≠ d.block) h10 s c f x.Dir bs gs (gs.filter fun g => g.Kind = x.Kind) [] 0 false [] := (S9.wk (F' := fun y => h7.size ≤ y ∧ y ≠ d.block) fun y hy hh => ⟨hh, by omega⟩).fr0 f10
 refine aH.go (fun n st h' => ∃ (i : Nat) (w : Au.Nm), st = (Go.Proofs.YtjmfpeiidlpngaaGreatDoor.bs w, (i : Int)) ∧ i ≤ x.L.xs.length ∧ n = x.L.xs.length - i ∧ w.length ≤ 100 * i ∧ h10.size ≤ h'.size ∧ Fr (fun _ => False) h7 h' ∧ pu h6.size (fun y => h7.size ≤ y ∧ y ≠ d.block) h' s c f x.Dir bs gs (gs.filter fun g => g.Kind = x.Kind) w ((nD (gs.filter fun g => g.Kind = x.Kind) * w.length : Nat) : Int) false [] ∧ Own h' d (Dw rs f x.Kind x.Dir w false) cA)
  x.L.xs.length ⟨0, [], rfl, by omega, rfl, by simp, Nat.le_refl _, f9.trans f10, by simpa using S10, od⟩ ?_
 rintro n - h' ⟨i, w, rfl, hi, rfl, hwl, hz, F', S, od'⟩ Kn hK
 dsimp only
 unfold lh
 have o5' := o57.fr0 F'
 have ox' := aQ.ok_fr _ _ _ F' ox7
 refine aC (o5'.cells.at (j := 2) rfl) ?_
 refine ifD (fun hlt => ?_) (fun hge => ?_)
 ·have hi' : i < x.L.xs.length := by omega
  refine aC (o5'.cells.at (j := 2) rfl) ?_
  refine bY ox'.k2 i rfl hi' fun ad cc _ => ?_
  try rw [Int.toNat_natCast]
  refine aV (cc.at0 rfl) ?_
  rw [aY]
  refine ifD (fun _ => aw h' (F7.trans F')) fun hx100 => ?_
  refine aC (o5'.cells.at (j := 2) rfl) ?_
  refine bY ox'.k2 i rfl hi' fun ad2 cc2 _ => ?_
  try rw [Int.toNat_natCast]
  refine aV (cc2.at0 rfl) ?_
  have hwk : nD (gs.filter fun g => g.Kind = x.Kind) * w.length ≤ 40 * 3000 := Nat.mul_le_mul (by omega) (by omega)
  refine Eu S x.L.xs[i] (by omega) Klen (by omega) fun h12 f12 S12 => ⟨rfl, ?_⟩
  have z12 := f12.size
  have S12' := S12.wk (F' := fun y => h7.size ≤ y ∧ y ≠ d.block) fun y hy hh => by
   rcases hh with hh | hh
   ·exact hh
   ·have := F'.size; exact ⟨by omega, by omega⟩
  have F12 : Fr (fun _ => False) h7 h12 := F'.tr f12 fun y hy hh => by omega
  have od12 := od'.fr f12 fun hh => hh.2 rfl
  have o512 := o57.fr0 F12
  have ox12 := aQ.ok_fr _ _ _ F12 ox7
  refine aC (o512.cells.at (j := 2) rfl) ?_
  refine bY ox12.k2 i rfl hi' fun ad3 cc3 _ => ?_
  try rw [Int.toNat_natCast]
  refine aV (cc3.at0 rfl) ?_
  refine LC od12 x.L.xs[i] (by omega) fun h13 f13 od13 => ⟨rfl, ?_⟩
  have z13 := f13.size
  have F13 : Fr (fun _ => False) h7 h13 := F12.tr f13 fun y hy hh => by omega
  have S13 := S12'.fr f13 fun y hy hh => ⟨by omega, fun h2 => h2.2 hh⟩
  have o513 := o57.fr0 F13
  have ox13 := aQ.ok_fr _ _ _ F13 ox7
  refine aC (o513.cells.at (j := 2) rfl) ?_
  refine bY ox13.k2 i rfl hi' fun ad4 cc4 _ => ?_
  try rw [Int.toNat_natCast]
  refine aV (cc4.at0 rfl) ?_
  refine ⟨by rw [aY, aY, Ns]; omega, ?_⟩
  refine Nt S13 ⟨_, rfl, ?_⟩
  refine Id (RT.fr0 F13) (by omega) sd od13 (by rw [List.length_append]; omega) fun h15 f15 => ⟨_, rfl, ?_⟩
  have ew := Ea x.Kind (w ++ x.L.xs[i]) gs
  rw [eg, List.length_append, Nat.mul_add] at ew
  have en : ((nD (gs.filter fun g => g.Kind = x.Kind) * w.length : Nat) : Int) + ((nD (gs.filter fun g => g.Kind = x.Kind) * x.L.xs[i].length : Nat) : Int) = ((nD (gs.filter fun g => g.Kind = x.Kind) * (w ++ x.L.xs[i]).length : Nat) : Int) := by
   rw [List.length_append, Nat.mul_add]; omega
  refine ki (fun ne => absurd ?_ ne) fun _ => ?_
  ·rw [ew]; omega
  rw [ka, wr (by omega) (by omega)]
  rw [en] at S13
  refine hK (x.L.xs.length - (i + 1)) _ _ (by omega) ⟨i + 1, w ++ x.L.xs[i], rfl, by omega, rfl, by rw [List.length_append]; omega, by have := f15.size; omega, F13.trans f15, S13.fr0 f15, od13.fr0 f15⟩
 ·have hT := T7.fr0 F'
  exact JY hl sd eb eg F7 F' hT (by omega) RT (by omega) (by omega) o47 o57 (by omega) S od' hk
end Go.Proofs.YtjmfpeiidlpngaaGreatDoor
namespace Go.Proofs.YtjmfpeiidlpngaaGreatDoor.rulesetScans
set_option linter.unusedSimpArgs false
set_option linter.unusedVariables false
set_option maxRecDepth 20000
open Go Go.ChangeShapes Go.WideShapes Go.ChangeAt Go.RowKit
open Go.ChangeMaps (open_string shut_string)
theorem own : ownKnob Tryz.prog.godebug = none := by kernel_rfl
theorem Eh : laidOutB Tryz.prog = true := by kernel_rfl
set_option maxRecDepth 100000 in
theorem M7 (os : Os) (started : os.Started) (H : Type) (enc : TypeId × Value → H) :
  ReturnsInHanded {} Tryz.checked os 3 .any (fun w args => (Rows.rulesetScansSpec.pre enc Tryz.prog Tryz.f3 Rows.rulesetScansRow.domain false w args ∧ laidMet Tryz.prog Rows.rulesetScansRow.laid w) ∧ sizedMet enc Tryz.prog Tryz.f3 (OpenSpec.ofChange Rows.rulesetScansSpec) false w args) (Rows.rulesetScansSpec.post enc Tryz.prog Tryz.f3 false true false false) := by
 refine returnsInHanded_of_change_and (C := Tryz.checked) (X := fun w _ => laidMet Tryz.prog Rows.rulesetScansRow.laid w) (fun _ _ _ hh h => h.of_heap hh) own started (by kernel_rfl) Tryz.func3
  (ChangeSpec.witness_shaped (enc := enc) (C := Tryz.checked) (os := os) (X := fun w _ => laidMet Tryz.prog Rows.rulesetScansRow.laid w) false (World.laidAll Tryz.prog os Rows.rulesetScansRow.laid) #[.slice none 0 0, .agg #[.int .i64 0, .bool false, .int .u64 0, .int .u64 0, .bool false, .int .u64 0, .int .u64 0, .int .i64 0, .int .i64 0], .agg #[.int .i64 0, .int .i64 0, .slice none 0 0]] 8 (World.laidAll_os ..) (World.shaped_of_ZipB (by kernel_rfl) (by kernel_rfl)) (by kernel_rfl) (by kernel_rfl) (by kernel_rfl)
   (laidMet_laidAll _ (by kernel_rfl) (by kernel_rfl))) ?_
 intro W base args ds gs before hval0 hW hcnd hsz0 hL _
 have hval : ∀ (j : Nat) t v, Tryz.f3.params[j]? = some t → args[j]? = some v → Value.okWide Tryz.prog W .any base t v := hval0
 have hW' := hW
 obtain ⟨p, q, hA0, hV, rfl, hfz, hnd⟩ := hW
 have hA : DataW.TrodAll enc Tryz.prog W 0 (fun _ => true) true Tryz.f3.params.toList args.toList ds p := hA0
 rw [Tryz.params3] at hA hval
 obtain ⟨v0, vs0, d0, ds0, p0, q0, hargs, rfl, rfl, h0, r0⟩ := trodAll_cons hA
 obtain ⟨v1, vs1, d1, ds1, p1, q1, rfl, rfl, rfl, h1, r1⟩ := trodAll_cons r0
 obtain ⟨v2, vs2, d2, ds2, p2, q2, rfl, rfl, rfl, h2, r2⟩ := trodAll_cons r1
 obtain ⟨rfl, rfl, rfl⟩ := trodAll_nil r2
 obtain rfl : args = #[v0, v1, v2] := by cases args; simp_all
 obtain ⟨rfl, rfl⟩ := trodVars_none hV
 have k0 := h0
 have lt0 : ∀ x ∈ p0, x.block < W.heap.size := by obtain ⟨m, hm⟩ := k0; exact DataW.trod_lt m _ _ _ hm
 obtain ⟨a0, len0, cap0, rfl⟩ := okWide_slice Tryz.underlying22 (hval 0 22 v0 rfl rfl)
 obtain ⟨x0, e0, o0⟩ : ∃ y : Sl aE, Value.slice a0 len0 cap0 = y.v ∧ (bH 25 aE.vals aE.ok) W.heap y := by
  obtain ⟨fuel, hf⟩ := h0
  obtain ⟨y, e, o⟩ := ((sK Tryz.underlying22 (by kernel_rfl) (fun _ => rfl) aE.op) : bR enc Tryz.prog W 22 (fun s : Sl aE => [s.v]) (bH 25 aE.vals aE.ok)) _ _ _ hf
  exact ⟨y, List.head_eq_of_cons_eq e, o⟩
 obtain ⟨rfl, rfl, rfl⟩ : a0 = x0.p ∧ len0 = x0.xs.length ∧ cap0 = x0.cap := by simpa [Sl.v] using e0
 have k1 := h1
 have lt1 : ∀ x ∈ p1, x.block < W.heap.size := by obtain ⟨m, hm⟩ := k1; exact DataW.trod_lt m _ _ _ hm
 obtain ⟨c1, rfl, _⟩ := okWide_struct Tryz.underlying27 (hval 1 27 v1 rfl rfl)
 obtain ⟨x1, e1, o1⟩ : ∃ y : aU, c1 = (aU.vals y).toArray ∧ aU.ok W.heap y := by
  obtain ⟨fuel, hf⟩ := h1
  obtain ⟨y, e, o⟩ := (aU.op : bR enc Tryz.prog W 27 aU.vals aU.ok) _ _ _ hf
  exact ⟨y, by rw [← e]; simp [Value.cells], o⟩
 subst e1
 have k2 := h2
 have lt2 : ∀ x ∈ p2, x.block < W.heap.size := by obtain ⟨m, hm⟩ := k2; exact DataW.trod_lt m _ _ _ hm
 obtain ⟨c2, rfl, _⟩ := okWide_struct Tryz.underlying30 (hval 2 30 v2 rfl rfl)
 obtain ⟨x2, e2, o2⟩ : ∃ y : aQ, c2 = (aQ.vals y).toArray ∧ aQ.ok W.heap y := by
  obtain ⟨fuel, hf⟩ := h2
  obtain ⟨y, e, o⟩ := (aQ.op : bR enc Tryz.prog W 30 aQ.vals aQ.ok) _ _ _ hf
  exact ⟨y, by rw [← e]; simp [Value.cells], o⟩
 subst e2
 clear hA0 hval0 hsz0
 refine (IH (Tryz.call3 _) (fun Q hk => Cv x0 x1 x2 o0 o1 o2 hk)).mono fun e W' ⟨he, bel⟩ => ?_
 subst he
 exact ⟨_, rfl, _, _, _, [], _, [], hW', trodAll_mk1 (shut_bool Tryz.underlying4 _), (trodAll_cons_mk (Below.trod Eh (by kernel_rfl) (of_decide_eq_true (by kernel_rfl)) k0 bel lt0) (trodAll_cons_mk (Below.trod Eh (by kernel_rfl) (of_decide_eq_true (by kernel_rfl)) k1 bel lt1) (trodAll_cons_mk (Below.trod Eh (by kernel_rfl) (of_decide_eq_true (by kernel_rfl)) k2 bel lt2) trodAll_mk0))), rfl, bel.frame _, fun h => by cases h⟩
theorem over : Rows.rulesetScansRow.holds Tryz.pinned (OpenSpec.ofChange Rows.rulesetScansSpec) :=
 OpenClaim.holds_of_wide 3 Tryz.f3 rfl rfl rfl rfl rfl rfl rfl ⟨rfl, rfl, rfl, rfl, rfl⟩ rfl rfl rfl rfl rfl (by kernel_rfl) Tryz.func3 (by kernel_rfl)
  (of_decide_eq_true (by kernel_rfl)) (by unfold Func.isWrapper; first | (rw [if_pos (by decide +kernel)]; kernel_rfl) | (rw [if_neg (by decide +kernel)]; exact ⟨rfl, rfl⟩))
  (fun os started H enc _ => M7 os started H enc)
theorem card_holds : Rows.RulesetScansCardSaid :=
 Claim7.holds_tied_plain_at .later [] [.data, .pinned] true (true, "5e104a27cbbb9a9f702d2c67a6526b429eab3fb5f9ff9b91391d8179eab60239") false
  over (fun _ h => by cases h) (by kernel_rfl) (fun _ h => by cases h) rulesetScans_row_tie rfl ⟨rfl, rfl⟩ (by kernel_rfl) rfl
  (fun f fn hf hfn => by
   obtain rfl : f = 3 := Option.some.inj ((show Tryz.prog.funcNamed "intrusion/intrusionlaw47.RulesetScans" = some 3 by kernel_rfl).symm.trans hf) |>.symm
   obtain rfl : fn = Tryz.f3 := (Option.some.inj (Tryz.func3.symm.trans hfn)).symm
   exact ⟨by kernel_rfl, fun j t ht => by
    rw [Tryz.params3] at ht
    match j, ht with
    | 0, ht => obtain rfl : t = 22 := (Option.some.inj ht).symm; exact (show Tryz.prog.wantsStandIn 22 = false by kernel_rfl)
    | 1, ht => obtain rfl : t = 27 := (Option.some.inj ht).symm; exact (show Tryz.prog.wantsStandIn 27 = false by kernel_rfl)
    | 2, ht => obtain rfl : t = 30 := (Option.some.inj ht).symm; exact (show Tryz.prog.wantsStandIn 30 = false by kernel_rfl)
    | _ + 3, ht => cases ht⟩)
  (by kernel_rfl)
end Go.Proofs.YtjmfpeiidlpngaaGreatDoor.rulesetScans
namespace Go.Proofs.YtjmfpeiidlpngaaGreatDoor
theorem rulesetScans_holds : Rows.RulesetScansCardSaid := rulesetScans.card_holds
#print axioms rulesetScans_holds
end Go.Proofs.YtjmfpeiidlpngaaGreatDoor
