/-
  Part 4 of 6 of the proofs: the texts of wip/ in one file, without what this claim does not use.
-/
import Derived.Test.YtjmfpeiidlpngaaGreatDoorZL3
namespace Go.Proofs.YtjmfpeiidlpngaaGreatDoor.Fp
set_option linter.unusedSimpArgs false
set_option linter.unusedVariables false
set_option maxRecDepth 20000
open Go
theorem IY [Gh] {h : aB} {t2 p5 : Addr} {vs : List Value} {t : List UInt8} {n : Bool} (o2 : Own h t2 vs bE) (hl : vs.length = 2) (o5 : Own h p5 [.string (bs t), .bool n] bE) {Q : Value → aB → Prop}
  (hk : ∀ h', Fr (fun b => b = t2.block ∨ b = p5.block) h h' → Q (.tuple #[.agg #[.string (bs t), .bool n], .bool true]) h') : fB t2 p5 Q h := by
 unfold fB
 refine (aT (o5.cells.at0 rfl) (aG (o5.cells.at rfl) ?_))
 refine jt o2 (by rw [hl]; rfl) rfl fun h1 f1 _ o1 => ?_
 refine (aT (o1.cells.at0 rfl) (aG (o1.cells.at rfl) ?_))
 exact hk _ (f1.mono fun b hb => .inl hb)
theorem Mz [Gh] {h : aB} {t2 p5 : Addr} {vs : List Value} {t : List UInt8} {n : Bool} (ht : t.length < 2 ^ 40) (o2 : Own h t2 vs bE) (hl : vs.length = 2) (o5 : Own h p5 [.string (bs t), .bool n] bE) (ne : t2.block ≠ p5.block) {Q : Value → aB → Prop}
  (hk : ∀ h', Fr (fun b => b = t2.block ∨ b = p5.block) h h' → Q (.tuple #[.agg #[.string (bs (if n then t.map fK else t)), .bool n], .bool true]) h') : dR t2 p5 Q h := by
 unfold dR
 refine aG (o5.cells.at rfl) ?_
 refine ifB (fun hn => ?_) (fun hn => ?_)
 ·subst hn
  refine aT (o5.cells.at0 rfl) ?_
  refine AE t ht fun h1 f1 => ⟨_, rfl, ?_⟩
  refine oi (Own.fr0 f1 o5) (by simp) rfl fun h2 f2 _ o2' => ?_
  have f12 : Fr (fun b => b = t2.block ∨ b = p5.block) h h2 := (f1.mono fun b hb => hb.elim).trans (f2.mono fun b hb => .inr hb)
  refine IY ((Own.fr0 f1 o2).fr f2 ne) hl o2' fun h3 f3 => hk _ ?_
  exact f12.trans f3
 ·subst hn
  exact IY o2 hl o5 hk
theorem HN [Gh] (r : aO) {h : aB} (ok : r.ok h) (sh : vz r.Contents.xs) {Q : Value → aB → Prop} (hk : ∀ h', Fr (fun _ => False) h h' → Q (Ip r.Contents.xs) h') :
  aD Tryz.prog kb #[.agg r.vals.toArray] h Q := by
 apply vi
 unfold oH
 refine aU fun a h1 f1 ha o1 => aU fun b h2 f2 hb o2 => ?_
 have o1' := Own.fr0 f2 o1
 have f02 := f1.trans f2
 refine (aA (o1'.cells.at0 rfl) (aA (o1'.cells.at rfl) (aC (o1'.cells.at rfl) (aC (o1'.cells.at rfl) (aC (o1'.cells.at rfl) (aC (o1'.cells.at rfl) (aG (o1'.cells.at rfl) (aA (o1'.cells.at rfl) (aA (o1'.cells.at rfl) (aA (o1'.cells.at rfl) (aT (o1'.cells.at rfl) (aA (o1'.cells.at rfl) (aA (o1'.cells.at rfl) (aC (o1'.cells.at rfl) (aC (o1'.cells.at rfl) (aC (o1'.cells.at rfl) (aC (o1'.cells.at rfl) (aA (o1'.cells.at rfl) (aA (o1'.cells.at rfl) (aA (o1'.cells.at rfl) (aA (o1'.cells.at rfl) ?_)))))))))))))))))))))
 refine JC r (aO.ok_fr _ _ _ f02 ok) sh fun h3 f3 => ⟨_, rfl, ?_⟩
 have o1'' := Own.fr0 f3 o1'
 have o2'' := Own.fr0 f3 o2
 have f03 := f02.trans f3
 have hlt := re r.Contents.xs
 have fresh : ∀ {h'}, Fr (fun x => x = b.block) h3 h' → Fr (fun _ => False) h h' := fun f => f03.tr f (fun x hx e => by subst e; have := f1.size; omega)
 unfold Ip vg at hk
 refine ifD (fun hneg => ?_) (fun hpos => ?_)
 ·rw [if_pos hneg] at hk
  refine jt o2'' rfl rfl fun h4 f4 _ o4 => ?_
  refine (aT (o4.cells.at0 rfl) (aG (o4.cells.at rfl) ?_))
  exact hk _ (fresh f4)
 ·rw [if_neg hpos] at hk
  simp only at hk
  obtain ⟨k, hk0⟩ : ∃ k : Nat, cY r.Contents.xs = k := ⟨(cY r.Contents.xs).toNat, by omega⟩
  rw [hk0] at hk ⊢
  rw [hk0] at hlt
  have hkl : k < r.Contents.xs.length := by omega
  have hpat := sh.pat _ (List.getElem_mem hkl)
  have hgd : r.Contents.xs.getD ((k : Int)).toNat noC = r.Contents.xs[k] := by
   rw [Int.toNat_natCast, List.getD_eq_getElem?_getD, List.getElem?_eq_getElem hkl]; rfl
  rw [hgd] at hk
  have oc := bH.fr0 aI.ok_fr f03 ok.k14
  refine aC (o1''.cells.at rfl) ?_
  refine cL oc k rfl hkl fun ad cc okc => ?_
  rw [Int.toNat_natCast]
  refine aT (cc.at0 rfl) ?_
  refine aC (o1''.cells.at rfl) ?_
  refine cL oc k rfl hkl fun ad2 cc2 okc2 => ?_
  refine aG (cc2.at rfl) ?_
  have hb2 : b.block < h3.size := o2''.lt
  have end_ : ∀ (c : Addr) (h' : aB), Fr (fun _ => False) h3 h' → h3.size ≤ c.block → Own h' c [.string (bs r.Contents.xs[k].Pattern), .bool r.Contents.xs[k].Nocase] bE → dR b c Q h' := by
   intro c h' f hc oc
   refine Mz (by omega) (Own.fr0 f o2'') rfl oc (by omega) fun h4 f4 => hk _ ?_
   refine f03.tr ((f.mono (S' := fun x => x = b.block) fun _ h => h.elim).tr f4 fun x hx hs => ?_) (fun x hx e => by subst e; have := f1.size; omega)
   rcases hs with hs | hs
   ·exact hs
   ·omega
  constructor
  ·refine GM _ (by omega) fun h5 f5 => ⟨_, rfl, ?_⟩
   refine ⟨aC ((Own.fr0 f5 o1'').cells.at rfl) rfl, aG ((aY.fr0 f5 cc2).at rfl) rfl, ?_⟩
   refine JT ?_
   have f6 := f5.trans (Fr.push (fun _ => False) h5 (.cells #[Value.string ⟨#[]⟩, Value.bool false] bE (0, 0)))
   have o6 : Own (h5.push (.cells #[Value.string ⟨#[]⟩, Value.bool false] bE (0, 0))) ⟨h5.size, 0, none⟩ [Value.string ⟨#[]⟩, Value.bool false] bE := ⟨rfl, rfl, dN⟩
   generalize h5.push (.cells #[Value.string ⟨#[]⟩, Value.bool false] bE (0, 0)) = h6 at *
   refine ⟨aC ((Own.fr0 f6 o1'').cells.at rfl) rfl, aT ((aY.fr0 f6 cc).at0 rfl) rfl, aC ((Own.fr0 f6 o1'').cells.at rfl) rfl, aG ((aY.fr0 f6 cc2).at rfl) rfl, ?_⟩
   refine jt o6 rfl rfl fun h7 f7 _ o7 => ?_
   exact end_ _ _ (f6.tr f7 fun x hx e => by subst e; have := f5.size; simp only at hx; omega) f5.size o7
  ·refine JT ?_
   have f6 := Fr.push (fun _ => False) h3 (.cells #[Value.string ⟨#[]⟩, Value.bool false] bE (0, 0))
   have o6 : Own (h3.push (.cells #[Value.string ⟨#[]⟩, Value.bool false] bE (0, 0))) ⟨h3.size, 0, none⟩ [Value.string ⟨#[]⟩, Value.bool false] bE := ⟨rfl, rfl, dN⟩
   generalize h3.push (.cells #[Value.string ⟨#[]⟩, Value.bool false] bE (0, 0)) = h6 at *
   refine ⟨aC ((Own.fr0 f6 o1'').cells.at rfl) rfl, aT ((aY.fr0 f6 cc).at0 rfl) rfl, aC ((Own.fr0 f6 o1'').cells.at rfl) rfl, aG ((aY.fr0 f6 cc2).at rfl) rfl, ?_⟩
   refine GM _ (by omega) fun h5 f5 => ⟨_, rfl, ?_⟩
   have f65 := f6.trans f5
   refine ⟨aC ((Own.fr0 f65 o1'').cells.at rfl) rfl, aG ((aY.fr0 f65 cc2).at rfl) rfl, ?_⟩
   refine jt (Own.fr0 f5 o6) rfl rfl fun h7 f7 _ o7 => ?_
   exact end_ _ _ (f65.tr f7 fun x hx e => by subst e; simp only at hx; omega) (Nat.le_refl _) o7
theorem Gb [Gh] (r : aO) {h : aB} (ok : r.ok h) (sh : vz r.Contents.xs) {Q : Value → aB → Prop} (hk : ∀ h', Fr (fun _ => False) h h' → Q (Ip r.Contents.xs) h') :
  aD Tryz.prog pb #[.agg r.vals.toArray] h Q := by
 apply At
 unfold uY
 refine aU fun a h1 f1 ha o1 => aU fun b h2 f2 hb o2 => ?_
 have o1' := Own.fr0 f2 o1
 have f02 := f1.trans f2
 refine (aA (o1'.cells.at0 rfl) (aA (o1'.cells.at rfl) (aC (o1'.cells.at rfl) (aC (o1'.cells.at rfl) (aC (o1'.cells.at rfl) (aC (o1'.cells.at rfl) (aG (o1'.cells.at rfl) (aA (o1'.cells.at rfl) (aA (o1'.cells.at rfl) (aA (o1'.cells.at rfl) (aT (o1'.cells.at rfl) (aA (o1'.cells.at rfl) (aA (o1'.cells.at rfl) (aC (o1'.cells.at rfl) (aC (o1'.cells.at rfl) (aC (o1'.cells.at rfl) (aC (o1'.cells.at rfl) (aA (o1'.cells.at rfl) (aA (o1'.cells.at rfl) (aA (o1'.cells.at rfl) (aA (o1'.cells.at rfl) ?_)))))))))))))))))))))
 refine Ij r (aO.ok_fr _ _ _ f02 ok) sh fun h3 f3 => ⟨_, rfl, ?_⟩
 have o1'' := Own.fr0 f3 o1'
 have o2'' := Own.fr0 f3 o2
 have f03 := f02.trans f3
 have hlt := re r.Contents.xs
 have fresh : ∀ {h3 h'}, Fr (fun _ => False) h h3 → Fr (fun x => x = b.block) h3 h' → Fr (fun _ => False) h h' := fun f03 f => f03.tr f (fun x hx e => by subst e; have := f1.size; omega)
 unfold Ip vg at hk
 refine ifD (fun hneg => ?_) (fun hpos => ?_)
 ·rw [if_pos hneg] at hk
  refine jt o2'' rfl rfl fun h4 f4 _ o4 => ?_
  refine (aT (o4.cells.at0 rfl) (aG (o4.cells.at rfl) ?_))
  exact hk _ (fresh f03 f4)
 ·rw [if_neg hpos] at hk
  simp only at hk
  obtain ⟨k, hk0⟩ : ∃ k : Nat, cY r.Contents.xs = k := ⟨(cY r.Contents.xs).toNat, by omega⟩
  rw [hk0] at hk ⊢
  rw [hk0] at hlt
  have hkl : k < r.Contents.xs.length := by omega
  have hpat := sh.pat _ (List.getElem_mem hkl)
  have hgd : r.Contents.xs.getD ((k : Int)).toNat noC = r.Contents.xs[k] := by
   rw [Int.toNat_natCast, List.getD_eq_getElem?_getD, List.getElem?_eq_getElem hkl]; rfl
  rw [hgd] at hk
  have oc := bH.fr0 aI.ok_fr f03 ok.k14
  refine aC (o1''.cells.at rfl) ?_
  refine cL oc k rfl hkl fun ad cc okc => ?_
  rw [Int.toNat_natCast]
  refine (aT (cc.at0 rfl) (aG (cc.at rfl) (aG (cc.at rfl) (aG (cc.at rfl) (aA (cc.at rfl) (aA (cc.at rfl) (aG (cc.at rfl) ?_)))))))
  refine oG rfl rfl fun c h4 f4 hc o4 => ?_
  refine aG (o4.cells.at rfl) ?_
  have f04 := f03.trans f4
  refine ifB (fun hn => ?_) (fun hn => ?_)
  ·rw [hn] at hk
   refine aT (o4.cells.at0 rfl) ?_
   refine Ki _ (by omega) fun h5 f5 => ⟨_, rfl, ?_⟩
   refine jt (Own.fr0 f5 (Own.fr0 f4 o2'')) rfl rfl fun h6 f6 _ o6 => ?_
   refine (aT (o6.cells.at0 rfl) (aG (o6.cells.at rfl) ?_))
   exact hk _ (fresh (f04.trans f5) f6)
  ·rw [hn] at hk
   refine aT (o4.cells.at0 rfl) ?_
   refine jt (Own.fr0 f4 o2'') rfl rfl fun h6 f6 _ o6 => ?_
   refine (aT (o6.cells.at0 rfl) (aG (o6.cells.at rfl) ?_))
   exact hk _ (fresh f04 f6)
end Go.Proofs.YtjmfpeiidlpngaaGreatDoor.Fp
namespace Go.Proofs.YtjmfpeiidlpngaaGreatDoor
set_option linter.unusedSimpArgs false
set_option linter.unusedVariables false
set_option maxRecDepth 20000
open Go
def put {ι α : Type} [DecidableEq ι] (f : ι → α) (x : ι) (v : α) : ι → α := fun y => if y = x then v else f y
theorem cD {ι α : Type} [DecidableEq ι] (f : ι → α) (x : ι) (v : α) : put f x v x = v := if_pos rfl
theorem bI {ι α : Type} [DecidableEq ι] (f : ι → α) {x y : ι} (v : α) (h : y ≠ x) : put f x v y = f y := if_neg h
structure Fam {ι : Type} (sz : ι → Nat) (h : aB) (sl : ι → Option Addr) (cap : ι → Nat) (cs : ι → List Value) : Prop where
 own : ∀ x, sj h (sl x) (cap x) (sz x) (cs x)
 apart : ∀ x y b, InA (sl x) b → InA (sl y) b → x = y
section
variable {ι : Type} {sz : ι → Nat} {h : aB} {sl : ι → Option Addr} {cap : ι → Nat} {cs : ι → List Value}
theorem Fam.fr (F : Fam sz h sl cap cs) {S : Nat → Prop} {h' : aB} (f : Fr S h h') (hs : ∀ x b, InA (sl x) b → ¬ S b) : Fam sz h' sl cap cs :=
 ⟨fun x => (F.own x).fr f (hs x), F.apart⟩
theorem Fam.fr0 (F : Fam sz h sl cap cs) {h' : aB} (f : Fr (fun _ => False) h h') : Fam sz h' sl cap cs := F.fr f fun _ _ _ => id
theorem Fam.lt (F : Fam sz h sl cap cs) {x : ι} {b : Nat} (hb : InA (sl x) b) : b < h.size := (F.own x).lt hb
theorem Fam.none (F : Fam sz h sl cap cs) {x : ι} (hx : sl x = none) : cs x = [] ∧ cap x = 0 := by
 have := F.own x; rw [hx] at this; exact this
theorem Fam.some_of (F : Fam sz h sl cap cs) {x : ι} (hx : (cs x).length ≠ 0) : ∃ ad, sl x = some ad ∧ aY h ad (cs x) := by
 have o := F.own x
 cases hs : sl x with
 | none => rw [hs] at o; rw [o.1] at hx; simp at hx
 | some ad => rw [hs] at o; exact ⟨ad, rfl, o.cells⟩
end
section
variable {ι : Type} [DecidableEq ι] {sz : ι → Nat} {h : aB} {sl : ι → Option Addr} {cap : ι → Nat} {cs : ι → List Value}
theorem Fam.turn (F : Fam sz h sl cap cs) (x : ι) {a' : Option Addr} {cap' : Nat} {cs' : List Value} {h' : aB} (o : sj h' a' cap' (sz x) cs') (f : Fr (InA (sl x)) h h') (hn : ∀ b, InA a' b → InA (sl x) b ∨ h.size ≤ b) :
  Fam sz h' (put sl x a') (put cap x cap') (put cs x cs') := by
 refine ⟨fun y => ?_, fun y z b hy hz => ?_⟩
 ·by_cases e : y = x
  ·subst e; rw [cD, cD, cD]; exact o
  ·rw [bI _ _ e, bI _ _ e, bI _ _ e]
   exact (F.own y).fr f fun b hb hx => e (F.apart _ _ _ hb hx)
 ·by_cases ey : y = x
  ·by_cases ez : z = x
   ·rw [ey, ez]
   ·rw [ey, cD] at hy; rw [bI _ _ ez] at hz
    rcases hn b hy with hb | hb
    ·rw [ey]; exact F.apart _ _ _ hb hz
    ·have := F.lt hz; omega
  ·rw [bI _ _ ey] at hy
   by_cases ez : z = x
   ·rw [ez, cD] at hz
    rcases hn b hz with hb | hb
    ·rw [ez]; exact F.apart _ _ _ hy hb
    ·have := F.lt hy; omega
   ·rw [bI _ _ ez] at hz; exact F.apart _ _ _ hy hz
theorem Fam.app {P : Program} {sT xT ty el : TypeId} {consts : Array Bool} {i : TypeInfo} {z : Value} {d : TypeDesc} (t : gU P sT el i z) (hX : P.underlying xT = some d) (hd : ∀ k, d ≠ .int k)
  (F : Fam sz h sl cap cs) (x : ι) (hz : sz x = i.size) {n m : Nat} {xs : List Value} {v : Value} (hn : (cs x).length = n * sz x) (hnc : n ≤ cap x) (s : Src h i.size v m xs) (hv : ∀ v ∈ xs, eH v = true)
  (hlim : (8 * (n + m) + 4000) * i.bytes ≤ 2 ^ 48) {K : Value → aB → Prop}
  (hk : ∀ (a' : Option Addr) (cap' : Nat) (h' : aB), Fam sz h' (put sl x a') (put cap x cap') (put cs x (cs x ++ xs)) → n + m ≤ cap' → Fr (InA (sl x)) h h' → (∀ b, InA a' b → InA (sl x) b ∨ h.size ≤ b) → K (.slice a' (n + m) cap') h') :
  cQ P .append #[sT, xT] ty consts #[.slice (sl x) n (cap x), v] h K := by
 refine xB t hX hd (by rw [← hz]; exact F.own x) (by rw [hn, hz]) hnc s hv hlim fun a' cap' h' o hc f hb => hk a' cap' h' (F.turn x (by rw [hz]; exact o) f hb) hc f hb
theorem sj.set {h : aB} {ad : Addr} {c n : Nat} {vs : List Value} (o : sj h (some ad) c n vs) {j : Nat} (hj : j < vs.length) {v : Value} (hv : eH v = true) {K : aB → Prop}
  (hK : ∀ h', Fr (InA (some ad)) h h' → sj h' (some ad) c n (vs.set j v) → K h') : st1 h (ad.add j) v K := by
 obtain ⟨h1, h2, ds, t, fr, hfr, hg, hc1, hc2, hc3⟩ := o
 have e : ad.add j = ⟨ad.block, j, none⟩ := by
  obtain ⟨b, o, s⟩ := ad; simp only at h1 h2; subst h1 h2; rw [gN, Nat.zero_add]
 rw [e]
 refine ⟨hv, by rw [kH hg, Array.getElem?_eq_getElem (by omega)]; rfl, rz hg hfr (by omega), ?_⟩
 rw [sU hg]
 refine hK _ (Fr.set _ _ ⟨ad, rfl, rfl⟩) ⟨h1, h2, _, t, fr, by simpa using hfr, l6 hg, by simpa using hc1, by simpa using hc2, ?_⟩
 intro i hi
 rw [List.length_set] at hi
 rw [Array.getElem?_setIfInBounds, List.getElem_set]
 by_cases hik : j = i
 ·subst hik
  rw [if_pos rfl, if_pos (by omega), if_pos rfl]
 ·rw [if_neg hik, if_neg hik]; exact hc3 i hi
theorem Fam.set (F : Fam sz h sl cap cs) (x : ι) {ad : Addr} (hx : sl x = some ad) {j : Nat} (hj : j < (cs x).length) {v : Value} (hv : eH v = true) {K : aB → Prop}
  (hk : ∀ h', Fam sz h' sl cap (put cs x ((cs x).set j v)) → Fr (InA (sl x)) h h' → K h') : st1 h (ad.add j) v K := by
 have o := F.own x
 rw [hx] at o
 refine o.set hj hv fun h' f o' => hk h' ?_ (by rw [hx]; exact f)
 have := F.turn x (a' := some ad) (cap' := cap x) (cs' := (cs x).set j v) (h' := h') o' (by rw [hx]; exact f) (fun b hb => .inl (by rw [hx]; exact hb))
 have e1 : put sl x (some ad) = sl := by funext y; unfold put; split <;> first | rfl | (rename_i e; rw [e, hx])
 have e2 : put cap x (cap x) = cap := by funext y; unfold put; split <;> first | rfl | (rename_i e; rw [e])
 rw [e1, e2] at this; exact this
end
theorem Src.one {h : aB} {a : Addr} {T : TypeId} {vs : List Value} {sz : Nat} (o : Own h a vs T) (hl : vs.length = sz) (c : Nat) : Src h sz (.slice (some a) 1 c) 1 vs :=
 .sl a 1 c vs (by omega) o.cells
end Go.Proofs.YtjmfpeiidlpngaaGreatDoor
namespace Go.Proofs.YtjmfpeiidlpngaaGreatDoor.Fp
set_option linter.unusedSimpArgs false
set_option linter.unusedVariables false
set_option maxRecDepth 20000
open Go
abbrev Ru := aO
abbrev vK (l : List Int) : List Value := l.map fun n => Value.int .i64 n
abbrev iu (h : aB) (s : Sl Int) : Prop := bH 1 (fun n : Int => [Value.int .i64 n]) (kOk .i64) h s
structure Grp where
 kind : Int
 tr : List Int
 pats : List (List UInt8 × Bool)
 rules : List (List Int)
 always : List Int
def sQ (k : Nat) (r : Ru) (g : Grp) : Grp :=
 match vg r.Contents.xs with
 | none => { g with always := g.always ++ [(k : Int)] }
 | some p =>
  if g.pats.findIdx (· == p) = g.pats.length then { g with pats := g.pats ++ [p], rules := g.rules ++ [[(k : Int)]] }
  else { g with rules := g.rules.modify (g.pats.findIdx (· == p)) (· ++ [(k : Int)]) }
def tC (r : Ru) (g : Grp) : Bool := g.kind == r.Kind && g.tr == r.Transforms.xs
def uW (r : Ru) (gs : List Grp) : List Grp := if gs.findIdx (tC r) = gs.length then gs ++ [⟨r.Kind, r.Transforms.xs, [], [], []⟩] else gs
def Ah (k : Nat) (r : Ru) (gs : List Grp) : List Grp := (uW r gs).modify (gs.findIdx (tC r)) (sQ k r)
def fR : List Ru → Nat → List Grp → List Grp
 | [], _, gs => gs
 | r :: l, k, gs => fR l (k + 1) (Ah k r gs)
def pD (l : List Ru) : List Grp := fR l 0 []
structure tz (k : Nat) (gs : List Grp) : Prop where
 len : gs.length ≤ k
 g : ∀ g ∈ gs, g.pats.length ≤ k ∧ g.rules.length = g.pats.length ∧ g.always.length ≤ k ∧ ∀ l ∈ g.rules, l.length ≤ k
theorem mO {α : Type} {f : α → α} : ∀ {l : List α} {i : Nat} {x : α}, x ∈ l.modify i f → x ∈ l ∨ ∃ y ∈ l, x = f y
 | [], i, x, h => by simp at h
 | a :: l, 0, x, h => by
  rw [List.modify_zero_cons] at h
  rcases List.mem_cons.1 h with rfl | h
  ·exact .inr ⟨a, by simp, rfl⟩
  ·exact .inl (by simp [h])
 | a :: l, i + 1, x, h => by
  rw [List.modify_succ_cons] at h
  rcases List.mem_cons.1 h with rfl | h
  ·exact .inl (by simp)
  ·rcases mO h with h | ⟨y, hy, e⟩
   ·exact .inl (by simp [h])
   ·exact .inr ⟨y, by simp [hy], e⟩
theorem tz.add {k : Nat} {gs : List Grp} (s : tz k gs) (r : Ru) : tz (k + 1) (Ah k r gs) := by
 have hs : ∀ g ∈ uW r gs, g.pats.length ≤ k ∧ g.rules.length = g.pats.length ∧ g.always.length ≤ k ∧ ∀ l ∈ g.rules, l.length ≤ k := by
  intro g hg
  unfold uW at hg
  split at hg
  ·rcases List.mem_append.1 hg with hg | hg
   ·exact s.g g hg
   ·rw [List.mem_singleton.1 hg]; simp
  ·exact s.g g hg
 refine ⟨?_, fun g hg => ?_⟩
 ·unfold Ah uW; rw [List.length_modify]; split
  ·rw [List.length_append]; have := s.len; simp; omega
  ·have := s.len; omega
 ·rcases mO hg with hg | ⟨y, hy, rfl⟩
  ·obtain ⟨h1, h2, h3, h4⟩ := hs g hg
   exact ⟨by omega, h2, by omega, fun l hl => by have := h4 l hl; omega⟩
  ·obtain ⟨h1, h2, h3, h4⟩ := hs y hy
   unfold sQ
   split
   ·exact ⟨by simp only; omega, h2, by simp; omega, fun l hl => by have := h4 l hl; omega⟩
   ·split
    ·refine ⟨by simp; omega, by simp [h2], by simp only; omega, fun l hl => ?_⟩
     rcases List.mem_append.1 hl with hl | hl
     ·have := h4 l hl; omega
     ·rw [List.mem_singleton.1 hl]; simp
    ·refine ⟨by simp only; omega, by simp [h2], by simp only; omega, fun l hl => ?_⟩
     rcases mO hl with hl | ⟨z, hz, rfl⟩
     ·have := h4 l hl; omega
     ·have := h4 z hz; simp; omega
abbrev Ix := Nat × Nat × Nat
abbrev xO : Ix := (0, 0, 0)
abbrev xP (i : Nat) : Ix := (1, i, 0)
abbrev xR (i : Nat) : Ix := (2, i, 0)
abbrev xI (i n : Nat) : Ix := (3, i, n)
abbrev xA (i : Nat) : Ix := (4, i, 0)
def szG (x : Ix) : Nat := if x.1 = 0 then 5 else if x.1 = 1 then 2 else 1
structure J6 (g : Grp) (i : Nat) (tr : Nat → Sl Int) (sl : Ix → Option Addr) (cap : Ix → Nat) (cs : Ix → List Value) : Prop where
 o0 : (cs xO)[i * 5]? = some (.int .i64 g.kind)
 o1 : (cs xO)[i * 5 + 1]? = some (.slice (tr i).p (tr i).xs.length (tr i).cap)
 o2 : (cs xO)[i * 5 + 2]? = some (.slice (sl (xP i)) g.pats.length (cap (xP i)))
 o3 : (cs xO)[i * 5 + 3]? = some (.slice (sl (xR i)) g.rules.length (cap (xR i)))
 o4 : (cs xO)[i * 5 + 4]? = some (.slice (sl (xA i)) g.always.length (cap (xA i)))
 trx : (tr i).xs = g.tr
 pl : cs (xP i) = g.pats.flatMap fun p => [Value.string (bs p.1), Value.bool p.2]
 pc : g.pats.length ≤ cap (xP i)
 rl : (cs (xR i)).length = g.rules.length
 rc : g.rules.length ≤ cap (xR i)
 rg : ∀ n (hn : n < g.rules.length), (cs (xR i))[n]? = some (.slice (sl (xI i n)) g.rules[n].length (cap (xI i n)))
 il : ∀ n (hn : n < g.rules.length), cs (xI i n) = vK g.rules[n] ∧ g.rules[n].length ≤ cap (xI i n)
 ifr : ∀ n, g.rules.length ≤ n → sl (xI i n) = none
 al : cs (xA i) = vK g.always
 ac : g.always.length ≤ cap (xA i)
structure lT (h : aB) (gs : List Grp) (tr : Nat → Sl Int) (sl : Ix → Option Addr) (cap : Ix → Nat) (cs : Ix → List Value) : Prop where
 fam : Fam szG h sl cap cs
 olen : (cs xO).length = gs.length * 5
 ocap : gs.length ≤ cap xO
 row : ∀ i (hi : i < gs.length), J6 gs[i] i tr sl cap cs
 trok : ∀ i, i < gs.length → iu h (tr i) ∧ ((tr i).xs ≠ [] → ∀ x b, InA (tr i).p b → ¬ InA (sl x) b)
 free : ∀ i, gs.length ≤ i → sl (xP i) = none ∧ sl (xR i) = none ∧ sl (xA i) = none ∧ ∀ n, sl (xI i n) = none
 kok : ∀ g ∈ gs, kOk .i64 h g.kind
theorem lT.fr {h h' : aB} {gs : List Grp} {tr : Nat → Sl Int} {sl : Ix → Option Addr} {cap : Ix → Nat} {cs : Ix → List Value} (g : lT h gs tr sl cap cs) (f : Fr (fun _ => False) h h') : lT h' gs tr sl cap cs :=
 ⟨g.fam.fr0 f, g.olen, g.ocap, g.row, fun i hi => ⟨bH.fr0 zi f (g.trok i hi).1, (g.trok i hi).2⟩, g.free, g.kok⟩
theorem lT.nil (h : aB) : lT h [] (fun _ => ⟨none, 0, []⟩) (fun _ => none) (fun _ => 0) (fun _ => []) :=
 ⟨⟨fun _ => ⟨rfl, rfl⟩, fun _ _ b hb => by obtain ⟨_, h, _⟩ := hb; cases h⟩, rfl, Nat.le_refl _, fun i hi => absurd hi (Nat.not_lt_zero _), fun i hi => absurd hi (Nat.not_lt_zero _), fun _ _ => ⟨rfl, rfl, rfl, fun _ => rfl⟩, fun g hg => by cases hg⟩
theorem BU {b : Nat} : ¬ InA none b := by rintro ⟨_, h, _⟩; cases h
theorem iu.at {h : aB} {s : Sl Int} (o : iu h s) {i : Nat} (hi : i < s.xs.length) : ∃ ad, s.p = some ad ∧ hcell h (ad.add (i * 1)) = some (.int .i64 s.xs[i]) := by
 obtain ⟨ad, h1, h2, _⟩ := o.at_ i hi; exact ⟨ad, h1, h2.at0 rfl⟩
theorem iu.fr {S : Nat → Prop} {h h' : aB} {s : Sl Int} (o : iu h s) (f : Fr S h h') (hs : ∀ b, InA s.p b → ¬ S b) : iu h' s :=
 ⟨o.len, o.cap, fun i hi => by
  obtain ⟨ad, h1, h2, h3⟩ := o.at_ i hi
  exact ⟨ad, h1, h2.fr f (by rw [wo]; exact hs _ ⟨ad, h1, rfl⟩), h3⟩⟩
theorem KA [Gh] (a b : Sl Int) {h : aB} (oa : iu h a) (ob : iu h b) (hl : b.xs.length < 2 ^ 60) {Q : Value → aB → Prop} (hk : Q (.bool (a.xs == b.xs)) h) :
  aD Tryz.prog jI #[.slice a.p a.xs.length a.cap, .slice b.p b.xs.length b.cap] h Q := by
 apply tX
 unfold nt
 refine lu (fun hne => ?_) (fun heq => ?_)
 ·have : (a.xs == b.xs) = false := by rw [beq_eq_false_iff_ne]; intro e; apply hne; rw [e]
  rw [this] at hk; exact hk
 have hlen : a.xs.length = b.xs.length := by omega
 refine aH.mk (fun i h' => h' = h ∧ ∃ k : Nat, i = k ∧ k ≤ a.xs.length ∧ a.xs.take k = b.xs.take k) (fun i _ => a.xs.length - i.toNat) ⟨rfl, 0, rfl, by omega, by simp⟩ ?_
 rintro i h' ⟨rfl, k, rfl, hkl, hpre⟩
 unfold jV
 refine ifD (fun hlt => ?_) (fun hge => ?_)
 ·have hka : k < a.xs.length := by omega
  have hkb : k < b.xs.length := by omega
  obtain ⟨ad, ea, ca⟩ := oa.at hka
  obtain ⟨bd, eb, cb⟩ := ob.at hkb
  rw [ea, eb, Int.toNat_natCast]
  refine bQ k rfl hka (aV (aA ca ?_))
  refine bQ k rfl hkb (aV (aA cb ?_))
  refine lu (fun hne => ?_) (fun heq => ?_)
  ·have : (a.xs == b.xs) = false := by
    rw [beq_eq_false_iff_ne]; intro e; apply hne
    simp only [e]
   rw [this] at hk; exact hk
  ·rw [wr (by omega) (by omega)]
   refine ⟨⟨rfl, k + 1, by omega, by omega, ?_⟩, by omega⟩
   rw [List.take_succ_eq_append_getElem hka, List.take_succ_eq_append_getElem hkb, hpre, heq]
 ·have e1 : k = a.xs.length := by omega
  have : (a.xs == b.xs) = true := by
   rw [beq_iff_eq]
   rw [e1, List.take_length] at hpre
   rw [hlen, List.take_length] at hpre; exact hpre
  rw [this] at hk; exact hk
theorem rq : gU Tryz.prog bG oF Tryz.t3 (.int .i64 0) := ⟨Tryz.underlying46, by kernel_rfl, by kernel_rfl, by kernel_rfl, by decide⟩
theorem FQ {h : aB} {s : Sl Int} (o : iu h s) {ad : Addr} (hp : s.p = some ad) : aY h ad (vK s.xs) := by
 intro j hj
 obtain ⟨bd, e, c⟩ := o.at (i := j) (by simpa using hj)
 rw [hp] at e; cases e
 simpa using c
theorem Ks [Gh] (s : Sl Int) {h : aB} (o : iu h s) (hl : s.xs.length ≤ 2 ^ 20) {Q : Value → aB → Prop}
  (hk : ∀ (s' : Sl Int) h', Fr (fun _ => False) h h' → iu h' s' → s'.xs = s.xs → (∀ b, InA s'.p b → h.size ≤ b) → Q (.slice s'.p s'.xs.length s'.cap) h') :
  aD Tryz.prog cX #[.slice s.p s.xs.length s.cap] h Q := by
 apply ny
 unfold kh
 refine ifB (fun hn => ?_) (fun hn => ?_)
 ·have hp : s.p = none := by simpa using hn
  have hx : s.xs = [] := by
   cases hs : s.xs with
   | nil => rfl
   | cons x l => obtain ⟨ad, e, _⟩ := o.at (i := 0) (by rw [hs]; simp); rw [hp] at e; cases e
  exact hk ⟨none, 0, []⟩ h (Fr.refl _ _) ⟨Nat.le_refl _, Nat.zero_le _, fun i hi => absurd hi (Nat.not_lt_zero _)⟩ hx.symm (fun b hb => (BU hb).elim)
 ·obtain ⟨ad, hp⟩ : ∃ ad, s.p = some ad := by cases h : s.p with | none => rw [h] at hn; cases hn | some a => exact ⟨a, rfl⟩
  refine aU (vs := []) fun a h1 f1 ha o1 => ?_
  rw [hp]
  have es : (Tryz.t3).size = 1 := by kernel_rfl
  have eb : (Tryz.t3).bytes = 8 := by kernel_rfl
  have hc := FQ (bH.fr0 zi f1 o) hp
  refine xB (a := some a) (cap := 0) rq Tryz.underlying46 (by intro k e; cases e) (n := 0) (cs := []) (xs := vK s.xs) ⟨o1.off, o1.spot, #[], _, (0, 0), .inl rfl, o1.blk, by simp, by simp, fun i hi => absurd hi (by simp)⟩ (by simp) (Nat.le_refl _)
   (.sl ad s.xs.length s.cap _ (by rw [es]; simp) hc) (by intro v hv; obtain ⟨n, _, rfl⟩ := List.mem_map.1 hv; rfl) (by rw [eb]; omega) fun a' c' h2 o2 hc' f2 hb => ⟨_, _, _, rfl, ?_⟩
  have hfr : ∀ b, InA (some a) b → ¬ b < h.size := by rintro b ⟨x, e, rfl⟩ hb; cases e; omega
  have f02 : Fr (fun _ => False) h h2 := f1.tr f2 (fun x hx hi => hfr x hi hx)
  rw [Nat.zero_add] at hc' ⊢
  refine hk ⟨a', c', s.xs⟩ h2 f02 ⟨hc', o.cap, fun i hi => ?_⟩ rfl (fun b hi => ?_)
  ·cases a' with
   | none => have := o2.1; simp at this; simp only at hi; rw [this] at hi; simp at hi
   | some ad' =>
    refine ⟨ad', rfl, fun j hj => ?_, ?_⟩
    ·have hj0 : j = 0 := by simp at hj; exact hj
     subst hj0
     rw [kI]
     refine o2.cells.at ?_
     simp at hi
     simp [hi]
    ·obtain ⟨_, _, _, hok⟩ := o.at_ i hi; exact hok
  ·rcases hb b hi with hb | hb
   ·exact Nat.le_of_not_lt (hfr b hb)
   ·have := f1.size; omega
end Go.Proofs.YtjmfpeiidlpngaaGreatDoor.Fp
namespace Go.Proofs.YtjmfpeiidlpngaaGreatDoor.Fp
set_option linter.unusedSimpArgs false
set_option linter.unusedVariables false
set_option maxRecDepth 20000
open Go
theorem lY {a : Addr} (hs : a.spot = none) (m n : Nat) : (a.add m).add n = a.add (m + n) := by
 obtain ⟨b, o, s⟩ := a
 simp only at hs
 subst hs
 rw [gN, gN, gN, Nat.add_assoc]
section
variable {h : aB} {gs : List Grp} {tr : Nat → Sl Int} {sl : Ix → Option Addr} {cap : Ix → Nat} {cs : Ix → List Value}
theorem lT.out (G : lT h gs tr sl cap cs) {i : Nat} (hi : i < gs.length) : ∃ ad, sl xO = some ad ∧ ad.spot = none ∧ aY h (ad.add (i * 5))
  [.int .i64 gs[i].kind, .slice (tr i).p (tr i).xs.length (tr i).cap, .slice (sl (xP i)) gs[i].pats.length (cap (xP i)), .slice (sl (xR i)) gs[i].rules.length (cap (xR i)), .slice (sl (xA i)) gs[i].always.length (cap (xA i))] := by
 obtain ⟨ad, e, c⟩ := G.fam.some_of (x := xO) (by rw [G.olen]; omega)
 have o := G.fam.own xO
 rw [e] at o
 obtain ⟨_, hs, _⟩ := o
 refine ⟨ad, e, hs, fun j hj => ?_⟩
 have r := G.row i hi
 rw [lY hs]
 refine c.at ?_
 simp only [List.length_cons, List.length_nil] at hj
 match j, hj with
 | 0, _ => exact r.o0
 | 1, _ => exact r.o1
 | 2, _ => exact r.o2
 | 3, _ => exact r.o3
 | 4, _ => exact r.o4
theorem J6.congr {g : Grp} {i : Nat} {sl' : Ix → Option Addr} {cap' : Ix → Nat} {cs' : Ix → List Value} (r : J6 g i tr sl cap cs) (ho : ∀ j, j < 5 → (cs' xO)[i * 5 + j]? = (cs xO)[i * 5 + j]?)
  (hx : ∀ x : Ix, x.1 ≠ 0 → x.2.1 = i → sl' x = sl x ∧ cap' x = cap x ∧ cs' x = cs x) : J6 g i tr sl' cap' cs' := by
 have hP := hx (xP i) (show (1 : Nat) ≠ 0 by decide) rfl
 have hR := hx (xR i) (show (2 : Nat) ≠ 0 by decide) rfl
 have hA := hx (xA i) (show (4 : Nat) ≠ 0 by decide) rfl
 have hI := fun n => hx (xI i n) (show (3 : Nat) ≠ 0 by decide) rfl
 exact ⟨(ho 0 (by omega)).trans r.o0, (ho 1 (by omega)).trans r.o1, by rw [hP.1, hP.2.1]; exact (ho 2 (by omega)).trans r.o2, by rw [hR.1, hR.2.1]; exact (ho 3 (by omega)).trans r.o3,
  by rw [hA.1, hA.2.1]; exact (ho 4 (by omega)).trans r.o4, r.trx, by rw [hP.2.2]; exact r.pl, by rw [hP.2.1]; exact r.pc, by rw [hR.2.2]; exact r.rl, by rw [hR.2.1]; exact r.rc,
  fun n hn => by rw [hR.2.2, (hI n).1, (hI n).2.1]; exact r.rg n hn, fun n hn => by rw [(hI n).2.2, (hI n).2.1]; exact r.il n hn, fun n hn => by rw [(hI n).1]; exact r.ifr n hn, by rw [hA.2.2]; exact r.al, by rw [hA.2.1]; exact r.ac⟩
structure bY (N : Nat) (h h' : aB) (sl sl' : Ix → Option Addr) : Prop where
 fr : ∀ b, b < h.size → (∀ x, ¬ InA (sl x) b) → h'[b]? = h[b]?
 size : h.size ≤ h'.size
 old : ∀ x b, InA (sl' x) b → (∃ y, InA (sl y) b) ∨ h.size ≤ b
theorem bY.trans {N : Nat} {h h1 h2 : aB} {sl sl1 sl2 : Ix → Option Addr} (a : bY N h h1 sl sl1) (b : bY N h1 h2 sl1 sl2) : bY N h h2 sl sl2 := by
 refine ⟨fun x hx hn => ?_, Nat.le_trans a.size b.size, fun x y hy => ?_⟩
 ·rw [b.fr x (by have := a.size; omega) (fun z hz => ?_), a.fr x hx hn]
  rcases a.old z x hz with ⟨y, hy⟩ | hy
  ·exact hn y hy
  ·omega
 ·rcases b.old x y hy with ⟨z, hz⟩ | hz
  ·exact a.old z y hz
  ·have := a.size; exact .inr (by omega)
theorem bY.of_fr {N : Nat} {h h' : aB} {sl : Ix → Option Addr} (f : Fr (fun _ => False) h h') : bY N h h' sl sl := ⟨fun b hb _ => f.same b hb id, f.size, fun x _ hb => .inl ⟨x, hb⟩⟩
theorem bY.of_app {N : Nat} {h h' : aB} {sl : Ix → Option Addr} {x : Ix} {a' : Option Addr} (f : Fr (InA (sl x)) h h') (hn : ∀ b, InA a' b → InA (sl x) b ∨ h.size ≤ b) : bY N h h' sl (put sl x a') :=
 ⟨fun b hb hs => f.same b hb (hs x), f.size, fun y b hb => by
  by_cases e : y = x
  ·subst e; rw [cD] at hb
   rcases hn b hb with hb | hb
   ·exact .inl ⟨_, hb⟩
   ·exact .inr hb
  ·rw [bI _ _ e] at hb; exact .inl ⟨_, hb⟩⟩
theorem bY.of_set {N : Nat} {h h' : aB} {sl : Ix → Option Addr} {x : Ix} (f : Fr (InA (sl x)) h h') : bY N h h' sl sl :=
 ⟨fun b hb hs => f.same b hb (hs x), f.size, fun y b hb => .inl ⟨y, hb⟩⟩
theorem bY.frS {N : Nat} {h h' : aB} {sl sl' : Ix → Option Addr} (t : bY N h h' sl sl') : Fr (fun b => ∃ x, InA (sl x) b) h h' :=
 ⟨t.size, fun b hb hn => t.fr b hb fun x hx => hn ⟨x, hx⟩⟩
theorem iu.lt {s : Sl Int} (o : iu h s) (hx : s.xs ≠ []) {b : Nat} (hb : InA s.p b) : b < h.size := by
 obtain ⟨ad, e, rfl⟩ := hb
 have : 0 < s.xs.length := List.length_pos_iff.2 hx
 obtain ⟨ad', e', hc⟩ := o.at this
 rw [e] at e'; cases e'
 have := J8 hc
 rw [wo] at this; exact this
theorem iu.turn {N : Nat} {h' : aB} {s : Sl Int} {sl' : Ix → Option Addr} (o : iu h s) (t : bY N h h' sl sl') (ha : s.xs ≠ [] → ∀ x b, InA s.p b → ¬ InA (sl x) b) :
  iu h' s ∧ (s.xs ≠ [] → ∀ x b, InA s.p b → ¬ InA (sl' x) b) := by
 by_cases hx : s.xs = []
 ·exact ⟨⟨o.len, o.cap, fun i hi => by rw [hx] at hi; simp at hi⟩, fun h => absurd hx h⟩
 ·refine ⟨iu.fr o t.frS fun b hb ⟨x, hi⟩ => ha hx x b hb hi, fun _ x b hb hi => ?_⟩
  rcases t.old x b hi with ⟨y, hy⟩ | hy
  ·exact ha hx y b hb hy
  ·have := o.lt hx hb; omega
theorem lT.update {N : Nat} (G : lT h gs tr sl cap cs) {i : Nat} (hi : i < gs.length) (f : Grp → Grp) {h' : aB} {sl' : Ix → Option Addr} {cap' : Ix → Nat} {cs' : Ix → List Value} (F : Fam szG h' sl' cap' cs') (t : bY N h h' sl sl')
  (hrow : J6 (f gs[i]) i tr sl' cap' cs') (hother : ∀ x : Ix, x.1 ≠ 0 → x.2.1 ≠ i → sl' x = sl x ∧ cap' x = cap x ∧ cs' x = cs x)
  (hcap : cap' xO = cap xO) (hlen : (cs' xO).length = (cs xO).length) (hout : ∀ m, (m < i * 5 ∨ i * 5 + 5 ≤ m) → (cs' xO)[m]? = (cs xO)[m]?) (hkind : (f gs[i]).kind = gs[i].kind) : lT h' (gs.modify i f) tr sl' cap' cs' := by
 refine ⟨F, by rw [List.length_modify, hlen]; exact G.olen, by rw [List.length_modify, hcap]; exact G.ocap, fun j hj => ?_, fun j hj => ?_, fun j hj => ?_, fun g hg => ?_⟩
 ·rw [List.length_modify] at hj
  rw [List.getElem_modify]
  by_cases e : i = j
  ·subst e; rw [if_pos rfl]; exact hrow
  ·rw [if_neg e]
   refine (G.row j hj).congr (fun m hm => hout _ (by omega)) fun x h0 h1 => hother x h0 (by omega)
 ·rw [List.length_modify] at hj
  exact iu.turn (G.trok j hj).1 t (G.trok j hj).2
 ·rw [List.length_modify] at hj
  obtain ⟨h1, h2, h3, h4⟩ := G.free j hj
  have o := fun (x : Ix) (h0 : x.1 ≠ 0) (h1 : x.2.1 = j) => (hother x h0 (by omega)).1
  exact ⟨(o (xP j) (show (1 : Nat) ≠ 0 by decide) rfl).trans h1, (o (xR j) (show (2 : Nat) ≠ 0 by decide) rfl).trans h2, (o (xA j) (show (4 : Nat) ≠ 0 by decide) rfl).trans h3, fun n => (o (xI j n) (show (3 : Nat) ≠ 0 by decide) rfl).trans (h4 n)⟩
 ·rcases mO hg with hg | ⟨y, hy, e⟩
  ·exact G.kok g hg
  ·obtain ⟨m, hm, hge⟩ := List.mem_iff_getElem.1 hg
   rw [List.length_modify] at hm
   rw [List.getElem_modify] at hge
   split at hge
   ·rename_i e2; subst e2; rw [← hge]; show kOk .i64 h (f gs[i]).kind; rw [hkind]; exact G.kok _ (List.getElem_mem hi)
   ·rw [← hge]; exact G.kok _ (List.getElem_mem hm)
theorem gG {a b : Nat} (h : a ≠ b) (i j n m : Nat) : ((a, i, n) : Ix) ≠ (b, j, m) := fun e => h (congrArg Prod.fst e)
theorem A0 {n m : Nat} (h : n ≠ m) (a b i j : Nat) : ((a, i, n) : Ix) ≠ (b, j, m) := fun e => h (congrArg (fun x : Ix => x.2.2) e)
theorem Dx {l : List Value} {i j m : Nat} {v : Value} (hj : j < 5) (hm : m < i * 5 ∨ i * 5 + 5 ≤ m) : (l.set (i * 5 + j) v)[m]? = l[m]? := by
 rw [List.getElem?_set_ne (by omega)]
theorem jG {α : Type} {f : Ix → α} {a i n : Nat} {v : α} {x : Ix} (h : x.2.1 ≠ i) : put f (a, i, n) v x = f x := bI _ _ fun e => h (by rw [e])
theorem pR {α : Type} {f : Ix → α} {v : α} {x : Ix} (h : x.1 ≠ 0) : put f xO v x = f x := bI _ _ fun e => h (by rw [e])
theorem qG {α : Type} {f : Ix → α} {a i n : Nat} {v : α} (h : a ≠ 0) : put f (a, i, n) v xO = f xO := bI _ _ fun e => h (congrArg Prod.fst e).symm
theorem lT.always {N : Nat} (G : lT h gs tr sl cap cs) {i : Nat} (hi : i < gs.length) (k : Nat) {a' : Option Addr} {cap' : Nat} {h' : aB} (hc : gs[i].always.length + 1 ≤ cap')
  (F : Fam szG h' (put sl (xA i) a') (put cap (xA i) cap') (put (put cs (xA i) (cs (xA i) ++ [.int .i64 k])) xO ((put cs (xA i) (cs (xA i) ++ [.int .i64 k]) xO).set (i * 5 + 4) (.slice a' (gs[i].always.length + 1) cap'))))
  (t : bY N h h' sl (put sl (xA i) a')) : lT h' (gs.modify i fun g => { g with always := g.always ++ [(k : Int)] }) tr (put sl (xA i) a') (put cap (xA i) cap') (put (put cs (xA i) (cs (xA i) ++ [.int .i64 k])) xO ((put cs (xA i) (cs (xA i) ++ [.int .i64 k]) xO).set (i * 5 + 4) (.slice a' (gs[i].always.length + 1) cap'))) := by
 have r := G.row i hi
 have hlen := G.olen
 have eo : put cs (xA i) (cs (xA i) ++ [.int .i64 k]) xO = cs xO := qG (by decide)
 rw [eo] at F ⊢
 refine G.update hi _ F t ?_ (fun x h0 h1 => ⟨jG h1, jG h1, by rw [pR h0, jG h1]⟩) (qG (by decide)) (by rw [cD, List.length_set]) (fun m hm => by rw [cD, Dx (by omega) hm]) rfl
 have nP : (xP i) ≠ xA i := gG (by decide) _ _ _ _
 have nR : (xR i) ≠ xA i := gG (by decide) _ _ _ _
 have nI : ∀ n, (xI i n) ≠ xA i := fun n => gG (by decide) _ _ _ _
 have zP : (xP i) ≠ xO := gG (by decide) _ _ _ _
 have zR : (xR i) ≠ xO := gG (by decide) _ _ _ _
 have zA : (xA i) ≠ xO := gG (by decide) _ _ _ _
 have zI : ∀ n, (xI i n) ≠ xO := fun n => gG (by decide) _ _ _ _
 constructor <;> (try simp only [cD, bI _ _ nP, bI _ _ nR, bI _ _ (nI _), bI _ _ zP, bI _ _ zR, bI _ _ zA, bI _ _ (zI _)])
 ·rw [List.getElem?_set_ne (by omega)]; exact r.o0
 ·rw [List.getElem?_set_ne (by omega)]; exact r.o1
 ·rw [List.getElem?_set_ne (by omega)]; exact r.o2
 ·rw [List.getElem?_set_ne (by omega)]; exact r.o3
 ·rw [List.getElem?_set_self (by omega)]; simp
 ·exact r.trx
 ·exact r.pl
 ·exact r.pc
 ·exact r.rl
 ·exact r.rc
 ·exact r.rg
 ·exact r.il
 ·exact r.ifr
 ·rw [r.al]; simp [vK]
 ·simpa using hc
theorem lT.inner {N : Nat} (G : lT h gs tr sl cap cs) {i : Nat} (hi : i < gs.length) {n : Nat} (hn : n < gs[i].rules.length) (k : Nat) {a' : Option Addr} {cap' : Nat} {h' : aB} (hc : gs[i].rules[n].length + 1 ≤ cap')
  (F : Fam szG h' (put sl (xI i n) a') (put cap (xI i n) cap') (put (put cs (xI i n) (cs (xI i n) ++ [.int .i64 k])) (xR i) ((put cs (xI i n) (cs (xI i n) ++ [.int .i64 k]) (xR i)).set n (.slice a' (gs[i].rules[n].length + 1) cap'))))
  (t : bY N h h' sl (put sl (xI i n) a')) : lT h' (gs.modify i fun g => { g with rules := g.rules.modify n (· ++ [(k : Int)]) }) tr (put sl (xI i n) a') (put cap (xI i n) cap')
   (put (put cs (xI i n) (cs (xI i n) ++ [.int .i64 k])) (xR i) ((put cs (xI i n) (cs (xI i n) ++ [.int .i64 k]) (xR i)).set n (.slice a' (gs[i].rules[n].length + 1) cap'))) := by
 have r := G.row i hi
 have eo : put cs (xI i n) (cs (xI i n) ++ [.int .i64 k]) (xR i) = cs (xR i) := bI _ _ (gG (by decide) _ _ _ _)
 rw [eo] at F ⊢
 refine G.update hi _ F t ?_ (fun x h0 h1 => ⟨jG h1, jG h1, by rw [jG h1, jG h1]⟩) (qG (by decide)) (by rw [qG (by decide), qG (by decide)]) (fun m hm => by rw [qG (by decide), qG (by decide)]) rfl
 have nP : (xP i) ≠ xI i n := gG (by decide) _ _ _ _
 have nR : (xR i) ≠ xI i n := gG (by decide) _ _ _ _
 have nA : (xA i) ≠ xI i n := gG (by decide) _ _ _ _
 have nO : xO ≠ xI i n := gG (by decide) _ _ _ _
 have zP : (xP i) ≠ xR i := gG (by decide) _ _ _ _
 have zA : (xA i) ≠ xR i := gG (by decide) _ _ _ _
 have zI : ∀ n, (xI i n) ≠ xR i := fun n => gG (by decide) _ _ _ _
 have zO : xO ≠ xR i := gG (by decide) _ _ _ _
 have rl := r.rl
 constructor <;> (try simp only [cD, bI _ _ nP, bI _ _ nR, bI _ _ nA, bI _ _ nO, bI _ _ zP, bI _ _ zA, bI _ _ (zI _), bI _ _ zO, List.length_modify, List.length_set])
 ·exact r.o0
 ·exact r.o1
 ·exact r.o2
 ·exact r.o3
 ·exact r.o4
 ·exact r.trx
 ·exact r.pl
 ·exact r.pc
 ·exact r.rl
 ·exact r.rc
 ·intro m hm
  rw [List.getElem_modify]
  by_cases e : n = m
  ·subst e; rw [if_pos rfl, cD, cD, List.getElem?_set_self (by omega)]; simp
  ·rw [if_neg e, List.getElem?_set_ne e, bI _ _ (A0 (fun x => e x.symm) _ _ _ _), bI _ _ (A0 (fun x => e x.symm) _ _ _ _)]; exact r.rg m hm
 ·intro m hm
  rw [List.getElem_modify]
  by_cases e : n = m
  ·subst e; rw [if_pos rfl, cD, cD, (r.il n hn).1]; exact ⟨by simp [vK], by simpa using hc⟩
  ·rw [if_neg e, bI _ _ (A0 (fun x => e x.symm) _ _ _ _), bI _ _ (A0 (fun x => e x.symm) _ _ _ _)]; exact r.il m hm
 ·intro m hm
  rw [bI _ _ (A0 (by omega) _ _ _ _)]; exact r.ifr m hm
 ·exact r.al
 ·exact r.ac
theorem lT.pattern {N : Nat} (G : lT h gs tr sl cap cs) {i : Nat} (hi : i < gs.length) (p : List UInt8 × Bool) {a1 a2 : Option Addr} {c1 c2 : Nat} {h' : aB} (hc1 : gs[i].pats.length + 1 ≤ c1) (hc2 : gs[i].rules.length + 1 ≤ c2)
  {cs' : Ix → List Value} (e0 : cs' xO = ((cs xO).set (i * 5 + 2) (.slice a1 (gs[i].pats.length + 1) c1)).set (i * 5 + 3) (.slice a2 (gs[i].rules.length + 1) c2))
  (e1 : cs' (xP i) = cs (xP i) ++ [.string (bs p.1), .bool p.2]) (e2 : cs' (xR i) = cs (xR i) ++ [.slice none 0 0]) (e3 : ∀ x : Ix, x ≠ xO → x ≠ xP i → x ≠ xR i → cs' x = cs x)
  (F : Fam szG h' (put (put sl (xP i) a1) (xR i) a2) (put (put cap (xP i) c1) (xR i) c2) cs') (t : bY N h h' sl (put (put sl (xP i) a1) (xR i) a2)) :
  lT h' (gs.modify i fun g => { g with pats := g.pats ++ [p], rules := g.rules ++ [[]] }) tr (put (put sl (xP i) a1) (xR i) a2) (put (put cap (xP i) c1) (xR i) c2) cs' := by
 have r := G.row i hi
 have hlen := G.olen
 refine G.update hi _ F t ?_ (fun x h0 h1 => ⟨by rw [jG h1, jG h1], by rw [jG h1, jG h1], e3 x (fun e => h0 (by rw [e])) (fun e => h1 (by rw [e])) (fun e => h1 (by rw [e]))⟩) (by rw [qG (by decide), qG (by decide)]) (by rw [e0, List.length_set, List.length_set])
  (fun m hm => by rw [e0, Dx (by omega) hm, Dx (by omega) hm]) rfl
 have nPR : (xP i) ≠ xR i := gG (by decide) _ _ _ _
 have nAP : (xA i) ≠ xP i := gG (by decide) _ _ _ _
 have nAR : (xA i) ≠ xR i := gG (by decide) _ _ _ _
 have nIP : ∀ n, (xI i n) ≠ xP i := fun n => gG (by decide) _ _ _ _
 have nIR : ∀ n, (xI i n) ≠ xR i := fun n => gG (by decide) _ _ _ _
 have eA := e3 (xA i) (gG (by decide) _ _ _ _) nAP nAR
 have eI := fun n => e3 (xI i n) (gG (by decide) _ _ _ _) (nIP n) (nIR n)
 have rl := r.rl
 have hfree := r.ifr gs[i].rules.length (Nat.le_refl _)
 have hnone := G.fam.none hfree
 constructor <;> (try simp only [e0, e1, e2, eA, eI, cD, bI _ _ nPR, bI _ _ nAP, bI _ _ nAR, bI _ _ (nIP _), bI _ _ (nIR _), List.length_append, List.length_cons, List.length_nil])
 ·rw [List.getElem?_set_ne (by omega), List.getElem?_set_ne (by omega)]; exact r.o0
 ·rw [List.getElem?_set_ne (by omega), List.getElem?_set_ne (by omega)]; exact r.o1
 ·rw [List.getElem?_set_ne (by omega), List.getElem?_set_self (by omega)]
 ·rw [List.getElem?_set_self (by rw [List.length_set]; omega)]
 ·rw [List.getElem?_set_ne (by omega), List.getElem?_set_ne (by omega)]; exact r.o4
 ·exact r.trx
 ·rw [r.pl]; simp
 ·exact hc1
 ·omega
 ·exact hc2
 ·intro n hn
  by_cases e : n < gs[i].rules.length
  ·rw [List.getElem?_append_left (by omega), List.getElem_append_left e]; exact r.rg n e
  ·have : n = gs[i].rules.length := by omega
   subst this
   rw [List.getElem?_append_right (by omega), List.getElem_append_right (Nat.le_refl _), hfree, hnone.2]
   simp [rl]
 ·intro n hn
  by_cases e : n < gs[i].rules.length
  ·rw [List.getElem_append_left e]; exact r.il n e
  ·have : n = gs[i].rules.length := by omega
   subst this
   rw [List.getElem_append_right (Nat.le_refl _), hnone.1]
   simp
 ·intro n hn; exact r.ifr n (by omega)
 ·exact r.al
 ·exact r.ac
theorem lT.push {N : Nat} (G : lT h gs tr sl cap cs) (kind : Int) (hkind : kOk .i64 h kind) (T : Sl Int) {a' : Option Addr} {c' : Nat} {h' : aB} (hc : gs.length + 1 ≤ c')
  (F : Fam szG h' (put sl xO a') (put cap xO c') (put cs xO (cs xO ++ [.int .i64 kind, .slice T.p T.xs.length T.cap, .slice none 0 0, .slice none 0 0, .slice none 0 0]))) (t : bY N h h' sl (put sl xO a'))
  (hT : iu h' T) (hTa : T.xs ≠ [] → ∀ x b, InA T.p b → ¬ InA (put sl xO a' x) b) :
  lT h' (gs ++ [⟨kind, T.xs, [], [], []⟩]) (put tr gs.length T) (put sl xO a') (put cap xO c') (put cs xO (cs xO ++ [.int .i64 kind, .slice T.p T.xs.length T.cap, .slice none 0 0, .slice none 0 0, .slice none 0 0])) := by
 have hlen := G.olen
 refine ⟨F, by rw [cD, List.length_append, hlen, List.length_append]; simp; omega, by rw [cD, List.length_append]; simpa using hc, fun j hj => ?_, fun j hj => ?_, fun j hj => ?_, fun g hg => ?_⟩
 ·rw [List.length_append, List.length_singleton] at hj
  by_cases e : j < gs.length
  ·rw [List.getElem_append_left e]
   have r := (G.row j e).congr (sl' := put sl xO a') (cap' := put cap xO c') (cs' := put cs xO (cs xO ++ [.int .i64 kind, .slice T.p T.xs.length T.cap, .slice none 0 0, .slice none 0 0, .slice none 0 0]))
    (fun m hm => by rw [cD, List.getElem?_append_left (by omega)]) fun x h0 h1 => ⟨pR h0, pR h0, pR h0⟩
   have e2 : put tr gs.length T j = tr j := bI _ _ (by omega)
   exact ⟨r.o0, by rw [e2]; exact r.o1, r.o2, r.o3, r.o4, by rw [e2]; exact r.trx, r.pl, r.pc, r.rl, r.rc, r.rg, r.il, r.ifr, r.al, r.ac⟩
  ·have e : j = gs.length := by omega
   subst e
   rw [List.getElem_append_right (Nat.le_refl _)]
   simp only [Nat.sub_self, List.getElem_cons_zero]
   obtain ⟨h1, h2, h3, h4⟩ := G.free gs.length (Nat.le_refl _)
   have n1 := G.fam.none h1
   have n2 := G.fam.none h2
   have n3 := G.fam.none h3
   have zP : (xP gs.length) ≠ xO := gG (by decide) _ _ _ _
   have zR : (xR gs.length) ≠ xO := gG (by decide) _ _ _ _
   have zA : (xA gs.length) ≠ xO := gG (by decide) _ _ _ _
   have zI : ∀ n, (xI gs.length n) ≠ xO := fun n => gG (by decide) _ _ _ _
   constructor <;> (try simp only [cD, bI _ _ zP, bI _ _ zR, bI _ _ zA, bI _ _ (zI _), h1, h2, h3, h4, n1, n2, n3, List.length_nil])
   ·rw [List.getElem?_append_right (by omega), hlen]; simp
   ·rw [List.getElem?_append_right (by omega), hlen, show gs.length * 5 + 1 - gs.length * 5 = 1 by omega]; rfl
   ·rw [List.getElem?_append_right (by omega), hlen, show gs.length * 5 + 2 - gs.length * 5 = 2 by omega]; rfl
   ·rw [List.getElem?_append_right (by omega), hlen, show gs.length * 5 + 3 - gs.length * 5 = 3 by omega]; rfl
   ·rw [List.getElem?_append_right (by omega), hlen, show gs.length * 5 + 4 - gs.length * 5 = 4 by omega]; rfl
   ·rfl
   ·exact Nat.le_refl _
   ·exact Nat.le_refl _
   ·intro n hn; exact absurd hn (Nat.not_lt_zero _)
   ·intro n hn; exact absurd hn (Nat.not_lt_zero _)
   ·intro n _; trivial
   ·rfl
   ·exact Nat.le_refl _
 ·rw [List.length_append, List.length_singleton] at hj
  by_cases e : j < gs.length
  ·have e2 : put tr gs.length T j = tr j := bI _ _ (by omega)
   rw [e2]
   exact iu.turn (G.trok j e).1 t (G.trok j e).2
  ·have e : j = gs.length := by omega
   rw [e, cD]
   exact ⟨hT, hTa⟩
 ·rw [List.length_append, List.length_singleton] at hj
  obtain ⟨h1, h2, h3, h4⟩ := G.free j (by omega)
  exact ⟨(pR (show (1 : Nat) ≠ 0 by decide)).trans h1, (pR (show (2 : Nat) ≠ 0 by decide)).trans h2, (pR (show (4 : Nat) ≠ 0 by decide)).trans h3, fun n => (pR (show (3 : Nat) ≠ 0 by decide)).trans (h4 n)⟩
 ·rcases List.mem_append.1 hg with hg | hg
  ·exact G.kok g hg
  ·rw [List.mem_singleton.1 hg]; exact hkind
end
end Go.Proofs.YtjmfpeiidlpngaaGreatDoor.Fp
namespace Go.Proofs.YtjmfpeiidlpngaaGreatDoor.Fp
set_option linter.unusedSimpArgs false
set_option linter.unusedVariables false
set_option maxRecDepth 20000
open Go
theorem Jm {α : Type} (A B : α → Value) : ∀ (l : List α) (n : Nat) (hn : n < l.length), (l.flatMap fun p => [A p, B p])[n * 2]? = some (A l[n]) ∧ (l.flatMap fun p => [A p, B p])[n * 2 + 1]? = some (B l[n])
 | [], n, hn => absurd hn (Nat.not_lt_zero _)
 | x :: l, 0, hn => by simp
 | x :: l, n + 1, hn => by
  have := Jm A B l n (by simpa using hn)
  have e1 : (n + 1) * 2 = n * 2 + 2 := by omega
  rw [e1]
  simpa using this
theorem BJ {α : Type} {p : α → Bool} {l : List α} {k : Nat} (hk : k < l.length) (h1 : p l[k] = true) (h2 : ∀ j (hj : j < l.length), j < k → p l[j] = false) : l.findIdx p = k :=
 (List.findIdx_eq hk).2 ⟨h1, fun j hj => h2 j (by omega) hj⟩
theorem AL {α : Type} {p : α → Bool} {l : List α} (h : ∀ j (hj : j < l.length), p l[j] = false) : l.findIdx p = l.length := by
 rw [List.findIdx_eq_length]
 intro x hx
 obtain ⟨j, hj, rfl⟩ := List.mem_iff_getElem.1 hx
 exact h j hj
theorem LR [Gh] (r : Ru) (kind : Int) (T : Sl Int) (a2 a3 a4 : Option Addr) (n2 n3 n4 c2 c3 c4 : Nat) {t5 : Addr} {h : aB} (o5 : Own h t5 r.vals cK) (ok : r.ok h) (hT : iu h T) (ht : r.Transforms.xs.length ≤ 2 ^ 20) {K : Value → aB → Prop}
  (hk : ∀ h', Fr (fun _ => False) h h' → K (.bool (kind == r.Kind && T.xs == r.Transforms.xs)) h') :
  my Tryz.prog (.func (.func jN) #[] #[.pointer (some t5)]) #[.agg #[.int .i64 kind, .slice T.p T.xs.length T.cap, .slice a2 n2 c2, .slice a3 n3 c3, .slice a4 n4 c4]] h K := by
 rw [cM]
 simp only [List.append_toArray, List.nil_append, List.cons_append]
 apply uf
 unfold nJ
 refine aU fun a h1 f1 ha o1 => ?_
 refine aA (o1.cells.at0 rfl) (aA ((Own.fr0 f1 o5).cells.at rfl) ?_)
 refine ifE (fun he => ?_) (fun hne => ?_)
 ·refine aC (o1.cells.at rfl) (aC ((Own.fr0 f1 o5).cells.at rfl) ?_)
  refine KA T r.Transforms (bH.fr0 zi f1 hT) (bH.fr0 zi f1 ok.k13) (by omega) ⟨_, rfl, ?_⟩
  have := hk _ f1
  have e : (kind == r.Kind) = true := by simpa using he
  rw [e, Bool.true_and] at this; exact this
 ·have := hk _ f1
  have e : (kind == r.Kind) = false := by simpa using hne
  rw [e, Bool.false_and] at this; exact this
section
variable {h : aB} {gs : List Grp} {tr : Nat → Sl Int} {sl : Ix → Option Addr} {cap : Ix → Nat} {cs : Ix → List Value}
theorem IH [Gh] (G : lT h gs tr sl cap cs) (r : Ru) {t5 : Addr} (o5 : Own h t5 r.vals cK) (ok : r.ok h) (ht : r.Transforms.xs.length ≤ 2 ^ 20) (hl : gs.length ≤ 2 ^ 20) {Q : Value → aB → Prop}
  (hk : ∀ h', Fr (fun _ => False) h h' → Q (.int .i64 (gs.findIdx (tC r) : Nat)) h') :
  aD Tryz.prog gB #[.slice (sl xO) gs.length (cap xO), .func (.func jN) #[] #[.pointer (some t5)]] h Q := by
 apply pV
 unfold j0
 refine aH.mk (fun i h' => ∃ k : Nat, i = k ∧ k ≤ gs.length ∧ Fr (fun _ => False) h h' ∧ ∀ j (hj : j < gs.length), j < k → tC r gs[j] = false) (fun i _ => gs.length - i.toNat) ⟨0, rfl, by omega, Fr.refl _ _, fun j _ hj => by omega⟩ ?_
 rintro i h1 ⟨k, rfl, hkl, f1, hpre⟩
 unfold fT
 refine ifD (fun hlt => ?_) (fun hge => ?_)
 ·have hks : k < gs.length := by omega
  have G1 := G.fr f1
  obtain ⟨ad, eo, hs, cc⟩ := G1.out hks
  refine bQ k rfl hks ?_
  rw [eo, Int.toNat_natCast]
  refine aV ?_
  refine (aA (cc.at0 rfl) (aC (cc.at rfl) (aC (cc.at rfl) (aC (cc.at rfl) (aC (cc.at rfl) ?_)))))
  refine oG rfl rfl fun t6 h2 f2 _ o6 => ?_
  refine (aA (o6.cells.at0 rfl) (aC (o6.cells.at rfl) (aC (o6.cells.at rfl) (aC (o6.cells.at rfl) (aC (o6.cells.at rfl) ?_)))))
  have f12 := f1.trans f2
  refine LR r _ (tr k) _ _ _ _ _ _ _ _ _ (Own.fr0 f12 o5) (aO.ok_fr _ _ _ f12 ok) (bH.fr0 zi f12 (G.trok k hks).1) ht fun h3 f3 => ⟨_, rfl, ?_⟩
  have ef : (gs[k].kind == r.Kind && (tr k).xs == r.Transforms.xs) = tC r gs[k] := by rw [(G.row k hks).trx]; rfl
  rw [ef]
  refine ifB (fun hf => ?_) (fun hf => ?_)
  ·have := hk _ (f12.trans f3)
   rw [BJ hks hf hpre] at this; exact this
  ·rw [wr (by omega) (by omega)]
   refine ⟨⟨k + 1, by omega, by omega, f12.trans f3, fun j hj hjk => ?_⟩, by omega⟩
   by_cases e : j = k
   ·subst e; exact hf
   ·exact hpre j hj (by omega)
 ·have e : k = gs.length := by omega
  unfold fY
  have := hk _ f1
  rw [AL fun j hj => hpre j hj (by omega)] at this; exact this
theorem KX [Gh] (p q : List UInt8 × Bool) {t8 : Addr} {h : aB} {T : TypeId} (o8 : Own h t8 [.string (bs p.1), .bool p.2] T) {K : Value → aB → Prop} (hk : ∀ h', Fr (fun _ => False) h h' → K (.bool (q == p)) h') :
  my Tryz.prog (.func (.func jF) #[] #[.pointer (some t8)]) #[.agg #[.string (bs q.1), .bool q.2]] h K := by
 rw [cM]
 simp only [List.append_toArray, List.nil_append, List.cons_append]
 apply uj
 unfold nB
 refine aU fun a h1 f1 ha o1 => ?_
 refine aT (o1.cells.at0 rfl) (aG (o1.cells.at rfl) (aT ((Own.fr0 f1 o8).cells.at0 rfl) (aG ((Own.fr0 f1 o8).cells.at rfl) ?_)))
 have := hk _ f1
 have e : (q == p) = ((bs q.1 == bs p.1) && ((q.2 == p.2) && true)) := by rw [MF, Bool.and_true]; rfl
 rw [e] at this; exact this
theorem IA [Gh] (G : lT h gs tr sl cap cs) {i : Nat} (hi : i < gs.length) (p : List UInt8 × Bool) {t8 : Addr} {T : TypeId} (o8 : Own h t8 [.string (bs p.1), .bool p.2] T) (hl : gs[i].pats.length ≤ 2 ^ 20) {Q : Value → aB → Prop}
  (hk : ∀ h', Fr (fun _ => False) h h' → Q (.int .i64 (gs[i].pats.findIdx (· == p) : Nat)) h') :
  aD Tryz.prog fC #[.slice (sl (xP i)) gs[i].pats.length (cap (xP i)), .func (.func jF) #[] #[.pointer (some t8)]] h Q := by
 apply oB
 unfold jD
 refine aH.mk (fun j h' => ∃ k : Nat, j = k ∧ k ≤ gs[i].pats.length ∧ Fr (fun _ => False) h h' ∧ ∀ j (hj : j < gs[i].pats.length), j < k → (gs[i].pats[j] == p) = false) (fun j _ => gs[i].pats.length - j.toNat) ⟨0, rfl, by omega, Fr.refl _ _, fun j _ hj => by omega⟩ ?_
 rintro j h1 ⟨k, rfl, hkl, f1, hpre⟩
 unfold fH
 refine ifD (fun hlt => ?_) (fun hge => ?_)
 ·have hks : k < gs[i].pats.length := by omega
  have G1 := G.fr f1
  have hpl := (G.row i hi).pl
  have hget := Jm (fun p : List UInt8 × Bool => Value.string (bs p.1)) (fun p => Value.bool p.2) gs[i].pats k hks
  rw [← hpl] at hget
  obtain ⟨ad, eo, cc⟩ := G1.fam.some_of (x := xP i) (by intro e; rw [List.length_eq_zero_iff.1 e] at hget; simp at hget)
  have hs : ad.spot = none := by have := G1.fam.own (xP i); rw [eo] at this; exact this.2.1
  refine bQ k rfl hks ?_
  rw [eo, Int.toNat_natCast]
  refine aV ?_
  refine aT (cc.at hget.1) (aG (by rw [lY hs]; exact cc.at hget.2) ?_)
  refine oG rfl rfl fun t6 h2 f2 _ o6 => ?_
  refine (aT (o6.cells.at0 rfl) (aG (o6.cells.at rfl) ?_))
  have f12 := f1.trans f2
  refine KX p gs[i].pats[k] (Own.fr0 f12 o8) fun h3 f3 => ⟨_, rfl, ?_⟩
  refine ifB (fun hf => ?_) (fun hf => ?_)
  ·have := hk _ (f12.trans f3)
   rw [BJ hks hf hpre] at this; exact this
  ·rw [wr (by omega) (by omega)]
   refine ⟨⟨k + 1, by omega, by omega, f12.trans f3, fun j hj hjk => ?_⟩, by omega⟩
   by_cases e : j = k
   ·subst e; exact hf
   ·exact hpre j hj (by omega)
 ·have e : k = gs[i].pats.length := by omega
  unfold eU
  have := hk _ f1
  rw [AL fun j hj => hpre j hj (by omega)] at this; exact this
theorem Na {x y : Ix} (F : Fam szG h sl cap cs) {ad : Addr} (hx : sl x = some ad) (hn : x ≠ y) : ¬ InA (sl y) ad.block := fun hb => hn (F.apart _ _ _ ⟨ad, hx, rfl⟩ hb)
theorem M6 {N : Nat} (G : lT h gs tr sl cap cs) {i : Nat} (hi : i < gs.length) {n : Nat} (hn : n < gs[i].rules.length) (hb : gs[i].rules[n].length ≤ 2 ^ 20) (k : Nat) {oa : Option Addr} {on oc : Nat} {ad : Addr} (hoa : sl xO = some ad)
  {ta : Option Addr} {tn tc : Nat} {tl t13 : Int} {Q : QT} {Kn : Option Addr × Nat × Nat × Int → aB → Prop}
  (hk : ∀ h' sl' cap' cs', lT h' (gs.modify i fun g => { g with rules := g.rules.modify n (· ++ [(k : Int)]) }) tr sl' cap' cs' → bY N h h' sl sl' → sl' xO = sl xO → cap' xO = cap xO → Kn (oa, on, oc, IntKind.wrap .i64 (t13 + 1)) h') :
  fO oa on oc k (ad.add (i * 5)) n ta tn tc tl t13 Q Kn h := by
 unfold fO
 obtain ⟨ad', eo, hs, cc⟩ := G.out hi
 rw [hoa] at eo; cases eo
 have r := G.row i hi
 refine aC (cc.at rfl) (aC (cc.at rfl) ?_)
 obtain ⟨rd, er, rc⟩ := G.fam.some_of (x := xR i) (by rw [r.rl]; omega)
 refine bQ n rfl hn ?_
 rw [er, Int.toNat_natCast]
 refine aV (aC (by rw [Nat.mul_one]; exact rc.at (r.rg n hn)) ?_)
 refine aU (vs := [.int .i64 k]) fun b h1 f1 hb1 o1 => ?_
 refine ⟨aC ((aY.fr0 f1 cc).at rfl) (by rw [er]), aC ((aY.fr0 f1 cc).at rfl) (by rw [er]), aC (by rw [Nat.mul_one]; exact (aY.fr0 f1 rc).at (r.rg n hn)) rfl, ?_⟩
 have es : (Tryz.t3).size = 1 := by kernel_rfl
 have eb : (Tryz.t3).bytes = 8 := by kernel_rfl
 have hil := r.il n hn
 have G1 := G.fr f1
 refine Fam.app rq Tryz.underlying46 (by intro k e; cases e) G1.fam (xI i n) (by rw [es]; rfl) (by rw [hil.1]; simp [vK, szG]) hil.2 (Src.one o1 (by rw [es]; rfl) 1) (by intro v hv; rw [List.mem_singleton.1 hv]; rfl) (by rw [eb]; omega) fun a' c' h2 F2 hc2 f2 hn2 => ⟨_, _, _, rfl, ?_⟩
 have nR : (xR i) ≠ xI i n := gG (by decide) _ _ _ _
 have nO : xO ≠ xI i n := gG (by decide) _ _ _ _
 have hnO := Na G1.fam hoa nO
 refine ⟨aC ((aY.fr (aY.fr0 f1 cc) f2 (by rw [wo]; exact hnO)).at rfl) (by rw [er]), ?_⟩
 refine bQ n rfl hn (aV ?_)
 rw [Nat.mul_one]
 refine F2.set (xR i) (by rw [bI _ _ nR]; exact er) (by rw [bI _ _ nR, r.rl]; exact hn) rfl fun h3 F3 f3 => ?_
 have t2 : bY N h h2 sl (put sl (xI i n) a') := (bY.of_fr f1).trans (bY.of_app f2 hn2)
 have t3 : bY N h h3 sl (put sl (xI i n) a') := t2.trans (bY.of_set f3)
 exact hk _ _ _ _ (G.inner hi hn k hc2 F3 t3) t3 (bI _ _ nO) (bI _ _ nO)
end
end Go.Proofs.YtjmfpeiidlpngaaGreatDoor.Fp
namespace Go.Proofs.YtjmfpeiidlpngaaGreatDoor.Fp
set_option linter.unusedSimpArgs false
set_option linter.unusedVariables false
set_option maxRecDepth 20000
open Go
theorem Mj : gU Tryz.prog eK bE Tryz.t160 (.agg #[.string ⟨#[]⟩, .bool false]) := ⟨Tryz.underlying84, by kernel_rfl, by kernel_rfl, by kernel_rfl, by decide⟩
theorem MO : gU Tryz.prog r4 bG Tryz.t46 (.slice none 0 0) := ⟨Tryz.underlying85, by kernel_rfl, by kernel_rfl, by kernel_rfl, by decide⟩
theorem Gm : gU Tryz.prog nU m8 Tryz.t87 (.agg #[.int .i64 0, .slice none 0 0, .slice none 0 0, .slice none 0 0, .slice none 0 0]) := ⟨Tryz.underlying82, by kernel_rfl, by kernel_rfl, by kernel_rfl, by decide⟩
theorem Dg {α : Type} (A B : α → Value) : ∀ (l : List α), (l.flatMap fun p => [A p, B p]).length = l.length * 2
 | [] => rfl
 | x :: l => by rw [List.flatMap_cons, List.length_append, Dg A B l]; simp; omega
theorem _root_.Go.Proofs.YtjmfpeiidlpngaaGreatDoor.Fam.cell {h : aB} {sl : Ix → Option Addr} {cap : Ix → Nat} {cs : Ix → List Value} (F : Fam szG h sl cap cs) {x : Ix} {ad : Addr} (hx : sl x = some ad) {j : Nat} {v : Value} (hj : (cs x)[j]? = some v) : hcell h (ad.add j) = some v := by
 have o := F.own x; rw [hx] at o; exact o.cells.at hj
theorem ux {α : Type} {l : List α} {i : Nat} (hi : i < l.length) {f g : α → α} (h : f l[i] = g l[i]) : l.modify i f = l.modify i g := by
 apply List.ext_getElem (by simp)
 intro j h1 h2
 rw [List.getElem_modify, List.getElem_modify]
 split
 ·rename_i e; subst e; exact h
 ·rfl
theorem DC {α : Type} (l : List α) (i : Nat) (f g : α → α) : (l.modify i f).modify i g = l.modify i (fun x => g (f x)) := by
 apply List.ext_getElem (by simp)
 intro j h1 h2
 rw [List.getElem_modify, List.getElem_modify, List.getElem_modify]
 split <;> simp_all
theorem EP {α : Type} (l : List α) (x : α) (f : α → α) : (l ++ [x]).modify l.length f = l ++ [f x] := by
 apply List.ext_getElem (by simp)
 intro j h1 h2
 rw [List.getElem_modify]
 by_cases e : l.length = j
 ·subst e; rw [if_pos rfl]; simp
 ·have hj : j < l.length := by simp at h1; omega
  rw [if_neg e, List.getElem_append_left hj, List.getElem_append_left hj]
section
variable {h : aB} {gs : List Grp} {tr : Nat → Sl Int} {sl : Ix → Option Addr} {cap : Ix → Nat} {cs : Ix → List Value}
theorem MT [Gh] {N : Nat} (G : lT h gs tr sl cap cs) {i : Nat} (hi : i < gs.length) {m : Nat} (sm : ∀ g ∈ gs, g.pats.length ≤ m ∧ g.rules.length = g.pats.length ∧ g.always.length ≤ m ∧ ∀ l ∈ g.rules, l.length ≤ m) (hm : m ≤ 2 ^ 20) (k : Nat) (r : Ru) {t5 : Addr} (o5 : Own h t5 r.vals cK) (h5 : ∀ x b, InA (sl x) b → b ≠ t5.block)
  (ok : r.ok h) (sh : vz r.Contents.xs) {ta : Option Addr} {tn tc : Nat} {tl t13 : Int} {Q : QT} {Kn : Option Addr × Nat × Nat × Int → aB → Prop}
  (hk : ∀ h' sl' cap' cs', lT h' (gs.modify i (sQ k r)) tr sl' cap' cs' → bY N h h' sl sl' → sl' xO = sl xO → cap' xO = cap xO → Kn (sl xO, gs.length, cap xO, IntKind.wrap .i64 (t13 + 1)) h') :
  fP (sl xO) gs.length (cap xO) k t5 i ta tn tc tl t13 Q Kn h := by
 unfold fP
 obtain ⟨ad, eo, hs, cc⟩ := G.out hi
 have rw_ := G.row i hi
 obtain ⟨sm1, sm2, sm3, sm4⟩ := sm _ (List.getElem_mem hi)
 refine bQ i rfl hi ?_
 generalize hoa : sl xO = oa at hk ⊢
 rw [hoa] at eo
 subst eo
 rw [Int.toNat_natCast]
 refine aV ?_
 refine (aA (o5.cells.at0 rfl) (aA (o5.cells.at rfl) (aC (o5.cells.at rfl) (aC (o5.cells.at rfl) (aC (o5.cells.at rfl) (aC (o5.cells.at rfl) (aG (o5.cells.at rfl) (aA (o5.cells.at rfl) (aA (o5.cells.at rfl) (aA (o5.cells.at rfl) (aT (o5.cells.at rfl) (aA (o5.cells.at rfl) (aA (o5.cells.at rfl) (aC (o5.cells.at rfl) (aC (o5.cells.at rfl) (aC (o5.cells.at rfl) (aC (o5.cells.at rfl) (aA (o5.cells.at rfl) (aA (o5.cells.at rfl) (aA (o5.cells.at rfl) (aA (o5.cells.at rfl) ?_)))))))))))))))))))))
 refine HN r ok sh fun h1 f1 => ?_
 unfold Ip
 cases hp : vg r.Contents.xs with
 | none =>
  refine ⟨bs [], false, false, rfl, ?_⟩
  refine oG rfl rfl fun t8 h2 f2 _ o8 => ?_
  have f12 := f1.trans f2
  have G2 := G.fr f12
  have cc2 := aY.fr0 f12 cc
  refine ifN (fun _ => ?_) (fun hx => by cases hx)
  refine aC (cc2.at rfl) ?_
  refine aU (vs := [.int .i64 k]) fun b h3 f3 hb3 o3 => ?_
  have es : (Tryz.t3).size = 1 := by kernel_rfl
  have eb : (Tryz.t3).bytes = 8 := by kernel_rfl
  have G3 := G2.fr f3
  refine Fam.app rq Tryz.underlying46 (by intro k e; cases e) G3.fam (xA i) (by rw [es]; rfl) (by rw [rw_.al]; simp [vK, szG]) rw_.ac (Src.one o3 (by rw [es]; rfl) 1) (by intro v hv; rw [List.mem_singleton.1 hv]; rfl) (by rw [eb]; omega) fun a' c' h4 F4 hc4 f4 hn4 => ⟨_, _, _, rfl, ?_⟩
  have nO : xO ≠ xA i := gG (by decide) _ _ _ _
  have hO : put sl (xA i) a' xO = some ad := by rw [bI _ _ nO]; exact hoa
  rw [lY hs]
  refine F4.set xO hO (by rw [bI _ _ nO, G.olen]; omega) rfl fun h5 F5 f5 => ?_
  have t4 : bY N h h4 sl (put sl (xA i) a') := (bY.of_fr (f12.trans f3)).trans (bY.of_app f4 hn4)
  have t5' : bY N h h5 sl (put sl (xA i) a') := t4.trans (bY.of_set f5)
  have e : gs.modify i (sQ k r) = gs.modify i fun g => { g with always := g.always ++ [(k : Int)] } := ux hi (by unfold sQ; rw [hp])
  rw [e] at hk
  exact hk _ _ _ _ (G.always hi k hc4 F5 t5') t5' ((bI _ _ nO).trans hoa) (bI _ _ nO)
 | some p =>
  refine ⟨bs p.1, p.2, true, rfl, ?_⟩
  refine oG rfl rfl fun t8 h2 f2 _ o8 => ?_
  have f12 := f1.trans f2
  have G2 := G.fr f12
  have cc2 := aY.fr0 f12 cc
  refine ifN (fun hx => by cases hx) (fun _ => ?_)
  refine aC (cc2.at rfl) ?_
  refine IA G2 hi p o8 (by omega) fun h3 f3 => ⟨_, rfl, ?_⟩
  have f13 := f12.trans f3
  have G3 := G.fr f13
  have cc3 := aY.fr0 f13 cc
  refine aC (cc3.at rfl) ?_
  have hle : gs[i].pats.findIdx (· == p) ≤ gs[i].pats.length := List.findIdx_le_length
  refine ifE (fun hq => ?_) (fun hq => ?_)
  ·have hq' : gs[i].pats.findIdx (· == p) = gs[i].pats.length := by omega
   have o8' := Own.fr0 f3 o8
   refine aC (cc3.at rfl) (aT (o8'.cells.at0 rfl) (aG (o8'.cells.at rfl) ?_))
   refine aU fun b h4 f4 hb4 o4 => ?_
   have f14 := f13.trans f4
   have G4 := G.fr f14
   have cc4 := aY.fr0 f14 cc
   refine ⟨aC (cc4.at rfl) rfl, ?_⟩
   have es : (Tryz.t160).size = 2 := by kernel_rfl
   have eb : (Tryz.t160).bytes = 24 := by kernel_rfl
   refine Fam.app Mj Tryz.underlying84 (by intro k e; cases e) G4.fam (xP i) (by rw [es]; rfl) (by rw [rw_.pl, Dg (fun p : List UInt8 × Bool => Value.string (bs p.1)) (fun p => Value.bool p.2)]; rfl) rw_.pc (Src.one o4 (by rw [es]; rfl) 1) (by intro v hv; simp at hv; rcases hv with rfl | rfl <;> rfl) (by rw [eb]; omega) fun a1 c1 h5 F5 hc5 f5 hn5 => ⟨_, _, _, rfl, ?_⟩
   have nO : xO ≠ xP i := gG (by decide) _ _ _ _
   have nRP : xR i ≠ xP i := gG (by decide) _ _ _ _
   have nRO : xR i ≠ xO := gG (by decide) _ _ _ _
   have nOR : xO ≠ xR i := gG (by decide) _ _ _ _
   have nPO : xP i ≠ xO := gG (by decide) _ _ _ _
   have nPR : xP i ≠ xR i := gG (by decide) _ _ _ _
   have hO : put sl (xP i) a1 xO = some ad := by rw [bI _ _ nO]; exact hoa
   have hol := G.olen
   rw [lY hs]
   refine F5.set xO hO (by rw [bI _ _ nO, hol]; omega) rfl fun h6 F6 f6 => ?_
   rw [lY hs]
   refine aC (F6.cell hO (by rw [cD, List.getElem?_set_ne (by omega), bI _ _ nO]; exact rw_.o3)) ?_
   refine aU (vs := [.slice none 0 0]) fun b2 h7 f7 hb7 o7 => ?_
   have F7 := F6.fr0 f7
   have es2 : (Tryz.t46).size = 1 := by kernel_rfl
   have eb2 : (Tryz.t46).bytes = 24 := by kernel_rfl
   have eR : put sl (xP i) a1 (xR i) = sl (xR i) := bI _ _ nRP
   have eRc : put cap (xP i) c1 (xR i) = cap (xR i) := bI _ _ nRP
   rw [← eR, ← eRc]
   refine Fam.app MO Tryz.underlying85 (by intro k e; cases e) F7 (xR i) (by rw [es2]; rfl) (by rw [bI _ _ nRO, bI _ _ nRP, rw_.rl]; simp [szG]) (by rw [eRc]; exact rw_.rc) (Src.one o7 (by rw [es2]; rfl) 1) (by intro v hv; rw [List.mem_singleton.1 hv]; rfl) (by rw [eb2]; omega) fun a2 c2 h8 F8 hc8 f8 hn8 => ⟨_, _, _, rfl, ?_⟩
   have hO8 : put (put sl (xP i) a1) (xR i) a2 xO = some ad := by rw [bI _ _ nOR]; exact hO
   refine F8.set xO hO8 (by rw [bI _ _ nOR, cD, List.length_set, bI _ _ nO, hol]; omega) rfl fun h9 F9 f9 => ?_
   have t5' : bY N h h5 sl (put sl (xP i) a1) := (bY.of_fr f14).trans (bY.of_app f5 hn5)
   have t7 : bY N h h7 sl (put sl (xP i) a1) := (t5'.trans (bY.of_set f6)).trans (bY.of_fr f7)
   have t9 : bY N h h9 sl (put (put sl (xP i) a1) (xR i) a2) := (t7.trans (bY.of_app f8 hn8)).trans (bY.of_set f9)
   have G9 := G.pattern hi p (a1 := a1) (a2 := a2) (c1 := c1) (c2 := c2) hc5 hc8 (by rw [cD, bI _ _ nOR, cD, bI _ _ nO])
    (by rw [bI _ _ nPO, bI _ _ nPR, bI _ _ nPO, cD]) (by rw [bI _ _ nRO, cD, bI _ _ nRO, bI _ _ nRP])
    (fun x h0 hP hR => by rw [bI _ _ h0, bI _ _ hR, bI _ _ h0, bI _ _ hP]) F9 t9
   have hi9 : i < (gs.modify i fun g => { g with pats := g.pats ++ [p], rules := g.rules ++ [[]] }).length := by rw [List.length_modify]; exact hi
   have e9 : (gs.modify i fun g => { g with pats := g.pats ++ [p], rules := g.rules ++ [[]] })[i] = { gs[i] with pats := gs[i].pats ++ [p], rules := gs[i].rules ++ [[]] } := by rw [List.getElem_modify, if_pos rfl]
   rw [hq']
   refine M6 (N := N) G9 hi9 (n := gs[i].pats.length) (by rw [e9]; simp; omega) (by simp only [e9]; rw [List.getElem_append_right (by omega)]; simp) k hO8 fun h' sl' cap' cs' G' t' es' ec' => ?_
   have e : gs.modify i (sQ k r) = (gs.modify i fun g => { g with pats := g.pats ++ [p], rules := g.rules ++ [[]] }).modify i fun g => { g with rules := g.rules.modify gs[i].pats.length (· ++ [(k : Int)]) } := by
    rw [DC]
    refine ux hi ?_
    unfold sQ
    rw [hp]
    simp only
    rw [if_pos hq', ← sm2, EP]
    rfl
   rw [← e] at G'
   exact hk _ _ _ _ G' (t9.trans t') (by rw [es', hO8]) (by rw [ec', bI _ _ nOR, bI _ _ nO])
  ·have hlt : gs[i].pats.findIdx (· == p) < gs[i].rules.length := by omega
   refine M6 (N := N) G3 hi hlt (by have := sm4 _ (List.getElem_mem hlt); omega) k hoa fun h' sl' cap' cs' G' t' es' ec' => ?_
   have e : gs.modify i (sQ k r) = gs.modify i fun g => { g with rules := g.rules.modify (gs[i].pats.findIdx (· == p)) (· ++ [(k : Int)]) } := by
    refine ux hi ?_
    unfold sQ
    rw [hp]
    simp only
    rw [if_neg (by omega)]
   rw [← e] at G'
   exact hk _ _ _ _ G' ((bY.of_fr f13).trans t') (by rw [es', hoa]) ec'
end
end Go.Proofs.YtjmfpeiidlpngaaGreatDoor.Fp
namespace Go.Proofs.YtjmfpeiidlpngaaGreatDoor.Fp
set_option linter.unusedSimpArgs false
set_option linter.unusedVariables false
set_option maxRecDepth 20000
open Go
theorem Gt {h : aB} {n : Int} (h1 : -9223372036854775808 ≤ n) (h2 : n ≤ 9223372036854775807) : kOk .i64 h n := by
 unfold kOk
 simp [Lit.wf, IntKind.min, IntKind.max, IntKind.signed, IntKind.bits]
 omega
structure JS (r : Ru) : Prop where
 c : vz r.Contents.xs
 t : r.Transforms.xs.length ≤ 70
def zM (k : Nat) (gs : List Grp) : Prop := ∀ g ∈ gs, (∀ n ∈ g.always, 0 ≤ n ∧ n < (k : Int)) ∧ (∀ l ∈ g.rules, ∀ n ∈ l, 0 ≤ n ∧ n < (k : Int)) ∧ ∀ p ∈ g.pats, p.1.length ≤ 200
theorem BR {cs : List Cn} (sh : vz cs) {p : List UInt8 × Bool} (hp : vg cs = some p) : p.1.length ≤ 200 := by
 unfold vg at hp
 split at hp
 ·cases hp
 ·rename_i hneg
  have hlt := re cs
  simp only [Option.some.injEq] at hp
  subst hp
  have hk : (cY cs).toNat < cs.length := by omega
  have e : cs.getD (cY cs).toNat noC = cs[(cY cs).toNat] := by rw [List.getD_eq_getElem?_getD, List.getElem?_eq_getElem hk]; rfl
  have := sh.pat _ (List.getElem_mem hk)
  simp only [e]
  split
  ·simpa using this
  ·exact this
theorem zM.add {k : Nat} {gs : List Grp} (s : zM k gs) (r : Ru) (sh : vz r.Contents.xs) : zM (k + 1) (Ah k r gs) := by
 have hs : zM k (uW r gs) := by
  intro g hg
  unfold uW at hg
  split at hg
  ·rcases List.mem_append.1 hg with hg | hg
   ·exact s g hg
   ·rw [List.mem_singleton.1 hg]; simp
  ·exact s g hg
 have up : zM (k + 1) (uW r gs) := fun g hg => by
  obtain ⟨h1, h2, h3⟩ := hs g hg
  exact ⟨fun n hn => by have := h1 n hn; omega, fun l hl n hn => by have := h2 l hl n hn; omega, h3⟩
 intro g hg
 rcases mO hg with hg | ⟨y, hy, rfl⟩
 ·exact up g hg
 ·obtain ⟨h1, h2, h3⟩ := up y hy
  unfold sQ
  split
  ·refine ⟨fun n hn => ?_, h2, h3⟩
   rcases List.mem_append.1 hn with hn | hn
   ·exact h1 n hn
   ·rw [List.mem_singleton.1 hn]; omega
  ·rename_i p hp
   split
   ·refine ⟨h1, fun l hl n hn => ?_, fun q hq => ?_⟩
    ·rcases List.mem_append.1 hl with hl | hl
     ·exact h2 l hl n hn
     ·rw [List.mem_singleton.1 hl] at hn; rw [List.mem_singleton.1 hn]; omega
    ·rcases List.mem_append.1 hq with hq | hq
     ·exact h3 q hq
     ·rw [List.mem_singleton.1 hq]; exact BR sh hp
   ·refine ⟨h1, fun l hl n hn => ?_, h3⟩
    rcases mO hl with hl | ⟨z, hz, rfl⟩
    ·exact h2 l hl n hn
    ·rcases List.mem_append.1 hn with hn | hn
     ·exact h2 z hz n hn
     ·rw [List.mem_singleton.1 hn]; omega
def fJ (g : bK) : Grp := ⟨g.Kind, g.Transforms.xs, g.Patterns.xs.map fun p => (p.Text, p.Nocase), g.Rules.xs.map (·.xs), g.Always.xs⟩
abbrev FI (h : aB) (g : Sl bK) : Prop := bH 5 bK.vals bK.ok h g
theorem Ep {h : aB} {a : Option Addr} {c : Nat} {l : List Int} (o : sj h a c 1 (vK l)) (hc : l.length ≤ c) (hl : l.length ≤ 9223372036854775807) (hk : ∀ n ∈ l, kOk .i64 h n) : iu h ⟨a, c, l⟩ := by
 refine ⟨hc, hl, fun i hi => ?_⟩
 cases a with
 | none => have := o.1; simp only at hi; simp [vK] at this; rw [this] at hi; simp at hi
 | some ad =>
  refine ⟨ad, rfl, fun j hj => ?_, hk _ (List.getElem_mem hi)⟩
  have hj0 : j = 0 := by simp at hj; exact hj
  subst hj0
  rw [kI]
  refine o.cells.at ?_
  simp only at hi
  simp [vK, hi]
section
variable {h : aB} {gs : List Grp} {tr : Nat → Sl Int} {sl : Ix → Option Addr} {cap : Ix → Nat} {cs : Ix → List Value}
def wJ (gs : List Grp) (tr : Nat → Sl Int) (sl : Ix → Option Addr) (cap : Ix → Nat) (i : Fin gs.length) : bK :=
 ⟨gs[i].kind, tr i, ⟨sl (xP i), cap (xP i), gs[i].pats.map fun p => ⟨p.1, p.2⟩⟩, ⟨sl (xR i), cap (xR i), (List.finRange gs[i].rules.length).map fun n : Fin gs[i].rules.length => ⟨sl (xI i n.val), cap (xI i n.val), gs[i].rules[n.val]⟩⟩, ⟨sl (xA i), cap (xA i), gs[i].always⟩⟩
theorem lT.read (G : lT h gs tr sl cap cs) {k : Nat} (sm : tz k gs) (gd : zM k gs) (hk : k ≤ 2 ^ 20) : ∃ g : Sl bK, g.p = sl xO ∧ g.xs.length = gs.length ∧ g.cap = cap xO ∧ FI h g ∧ g.xs.map fJ = gs := by
 refine ⟨⟨sl xO, cap xO, (List.finRange gs.length).map (wJ gs tr sl cap)⟩, rfl, by simp, rfl, ⟨by simpa using G.ocap, by have := sm.len; simp; omega, fun i hi => ?_⟩, ?_⟩
 ·have hig : i < gs.length := by simpa using hi
  obtain ⟨ad, eo, hs, cc⟩ := G.out hig
  have r := G.row i hig
  obtain ⟨s1, s2, s3, s4⟩ := sm.g _ (List.getElem_mem hig)
  obtain ⟨g1, g2, g3⟩ := gd _ (List.getElem_mem hig)
  refine ⟨ad, eo, ?_, ?_⟩
  ·simpa [wJ, bK.vals] using cc
  ·simp only [List.getElem_map, List.getElem_finRange]
   refine ⟨G.kok _ (List.getElem_mem hig), (G.trok i hig).1, ⟨by simpa [wJ] using r.pc, by simp [wJ]; omega, fun n hn => ?_⟩, ⟨by simpa [wJ] using r.rc, by simp [wJ]; omega, fun n hn => ?_⟩, ?_⟩
   ·have hn' : n < gs[i].pats.length := by simpa [wJ] using hn
    have hget := Jm (fun p : List UInt8 × Bool => Value.string (bs p.1)) (fun p => Value.bool p.2) gs[i].pats n hn'
    rw [← r.pl] at hget
    obtain ⟨pd, ep, pc⟩ := G.fam.some_of (x := xP i) (by intro e; rw [List.length_eq_zero_iff.1 e] at hget; simp at hget)
    have hps : pd.spot = none := by have := G.fam.own (xP i); rw [ep] at this; exact this.2.1
    refine ⟨pd, ep, fun j hj => ?_, ?_⟩
    ·have hj2 : j < 2 := by simpa [bM.vals] using hj
     rw [lY hps]
     match j, hj2 with
     | 0, _ => exact pc.at (by simpa [wJ, bM.vals] using hget.1)
     | 1, _ => exact pc.at (by simpa [wJ, bM.vals] using hget.2)
    ·have := g3 _ (List.getElem_mem hn')
     exact ⟨by show ((wJ gs tr sl cap ⟨i, hig⟩).Patterns.xs[n]).Text.length ≤ _; simp [wJ]; omega, trivial⟩
   ·have hn' : n < gs[i].rules.length := by simpa [wJ] using hn
    obtain ⟨rd, er, rc⟩ := G.fam.some_of (x := xR i) (by rw [r.rl]; omega)
    refine ⟨rd, er, fun j hj => ?_, ?_⟩
    ·have hj0 : j = 0 := by simpa using hj
     subst hj0
     rw [kI, Nat.mul_one]
     exact rc.at (by simpa [wJ, Sl.v] using r.rg n hn')
    ·have o := G.fam.own (xI i n)
     rw [(r.il n hn').1] at o
     have := Ep (l := gs[i].rules[n]) o (r.il n hn').2 (by have := s4 _ (List.getElem_mem hn'); omega) (fun m hm => by have := g2 _ (List.getElem_mem hn') m hm; exact Gt (by omega) (by omega))
     simpa [wJ] using this
   ·have o := G.fam.own (xA i)
    rw [r.al] at o
    have := Ep (l := gs[i].always) o r.ac (by omega) (fun m hm => by have := g1 m hm; exact Gt (by omega) (by omega))
    simpa [wJ] using this
 ·apply List.ext_getElem (by simp)
  intro i h1 h2
  simp only [List.getElem_map, List.getElem_finRange]
  have r := G.row i h2
  have e3 : (List.finRange gs[i].rules.length).map (fun n : Fin gs[i].rules.length => gs[i].rules[n.val]) = gs[i].rules := by
   apply List.ext_getElem (by simp)
   intro j j1 j2; simp
  have et := r.trx
  simp only [fJ, wJ, List.map_map]
  show (⟨gs[i].kind, (tr i).xs, _, _, gs[i].always⟩ : Grp) = gs[i]
  rw [et]
  have e2 : gs[i].pats.map ((fun p : bM => (p.Text, p.Nocase)) ∘ fun p : List UInt8 × Bool => (⟨p.1, p.2⟩ : bM)) = gs[i].pats := by
   apply List.ext_getElem (by simp)
   intro j j1 j2; simp
  have e4 : (List.finRange gs[i].rules.length).map ((fun x : Sl Int => x.xs) ∘ fun n : Fin gs[i].rules.length => (⟨sl (xI i n.val), cap (xI i n.val), gs[i].rules[n.val]⟩ : Sl Int)) = gs[i].rules := e3
  show (⟨gs[i].kind, gs[i].tr, gs[i].pats.map ((fun p : bM => (p.Text, p.Nocase)) ∘ fun p : List UInt8 × Bool => (⟨p.1, p.2⟩ : bM)), (List.finRange gs[i].rules.length).map ((fun x : Sl Int => x.xs) ∘ fun n : Fin gs[i].rules.length => (⟨sl (xI i n.val), cap (xI i n.val), gs[i].rules[n.val]⟩ : Sl Int)), gs[i].always⟩ : Grp) = gs[i]
  rw [e2, e4]
end
theorem Ky {N : Nat} {h h' : aB} {sl sl' : Ix → Option Addr} (t : bY N h h' sl sl') (nw : ∀ x b, InA (sl x) b → N ≤ b) (hN : N ≤ h.size) : ∀ x b, InA (sl' x) b → N ≤ b := fun x b hb => by
 rcases t.old x b hb with ⟨y, hy⟩ | hb
 ·exact nw y b hy
 ·omega
theorem GG {N : Nat} {h0 h h' : aB} {sl sl' : Ix → Option Addr} (f : Fr (fun _ => False) h0 h) (t : bY N h h' sl sl') (nw : ∀ x b, InA (sl x) b → h0.size ≤ b) : Fr (fun _ => False) h0 h' :=
 f.tr t.frS fun x hx ⟨y, hy⟩ => by have := nw y x hy; omega
theorem zZ (l : List Ru) (k : Nat) (hk : k < l.length) (gs : List Grp) : fR (l.drop k) k gs = fR (l.drop (k + 1)) (k + 1) (Ah k l[k] gs) := by
 rw [List.drop_eq_getElem_cons hk, fR]
theorem J4 [Gh] (s : Sl Ru) {h : aB} (ok : bH 21 aO.vals aO.ok h s) (hl : s.xs.length ≤ 40) (sh : ∀ r ∈ s.xs, JS r) {Q : Value → aB → Prop}
  (hk : ∀ (g : Sl bK) h', Fr (fun _ => False) h h' → FI h' g → g.xs.map fJ = pD s.xs → Q (.slice g.p g.xs.length g.cap) h') :
  aD Tryz.prog iR #[.slice s.p s.xs.length s.cap] h Q := by
 apply vH
 unfold pU
 refine aH.mk (fun st h' => ∃ (k : Nat) (gs : List Grp) (tr : Nat → Sl Int) (sl : Ix → Option Addr) (cap : Ix → Nat) (cs : Ix → List Value), st = (sl xO, gs.length, cap xO, (k : Int)) ∧ k ≤ s.xs.length ∧ Fr (fun _ => False) h h' ∧ lT h' gs tr sl cap cs ∧ (∀ x b, InA (sl x) b → h.size ≤ b) ∧ tz k gs ∧ zM k gs ∧ fR (s.xs.drop k) k gs = pD s.xs)
  (fun st _ => s.xs.length - st.2.2.2.toNat) ⟨0, [], _, _, _, _, rfl, by omega, Fr.refl _ _, lT.nil h, fun x b hb => (BU hb).elim, ⟨Nat.le_refl _, fun g hg => by cases hg⟩, (fun g hg => by cases hg), rfl⟩ ?_
 rintro st h1 ⟨k, gs, tr, sl, cap, cs, rfl, hkl, f1, G, nw, sm, gd, hg⟩
 unfold kT
 refine ifD (fun hlt => ?_) (fun hge => ?_)
 ·simp only at hlt
  have hks : k < s.xs.length := by omega
  have ok1 := bH.fr0 aO.ok_fr f1 ok
  have shr := sh _ (List.getElem_mem hks)
  rw [zZ _ _ hks] at hg
  have okr0 : aO.ok h s.xs[k] := by obtain ⟨_, _, _, o⟩ := ok.at_ k hks; exact o
  refine cL ok1 k rfl hks fun ad cc okr => ?_
  simp only [Int.toNat_natCast]
  refine (aA (cc.at0 rfl) (aA (cc.at rfl) (aC (cc.at rfl) (aC (cc.at rfl) (aC (cc.at rfl) (aC (cc.at rfl) (aG (cc.at rfl) (aA (cc.at rfl) (aA (cc.at rfl) (aA (cc.at rfl) (aT (cc.at rfl) (aA (cc.at rfl) (aA (cc.at rfl) (aC (cc.at rfl) (aC (cc.at rfl) (aC (cc.at rfl) (aC (cc.at rfl) (aA (cc.at rfl) (aA (cc.at rfl) (aA (cc.at rfl) (aA (cc.at rfl) ?_)))))))))))))))))))))
  refine oG rfl rfl fun t5 h2 f2 ht5 o5 => ?_
  have f02 := f1.trans f2
  have G2 := G.fr f2
  have okr2 := aO.ok_fr _ _ _ f2 okr
  have hsl := sm.len
  refine IH G2 s.xs[k] o5 okr2 (by have := shr.t; omega) (by omega) fun h3 f3 => ⟨_, rfl, ?_⟩
  have G3 := G2.fr f3
  have o5' := Own.fr0 f3 o5
  have f23 := f2.trans f3
  have f03 := f02.trans f3
  have okr3 := aO.ok_fr _ _ _ f3 okr2
  have ht5' : t5.block = h1.size := ht5
  have apart : ∀ {h' : aB} {sl' : Ix → Option Addr}, bY h.size h1 h' sl sl' → True := fun _ => trivial
  have hnt : ∀ x b, InA (sl x) b → b ≠ t5.block := fun x b hb e => by have := G.fam.lt hb; omega
  have back : ∀ (h' : aB) (gs' : List Grp) (tr' : Nat → Sl Int) (sl' : Ix → Option Addr) (cap' : Ix → Nat) (cs' : Ix → List Value), lT h' gs' tr' sl' cap' cs' → gs' = Ah k s.xs[k] gs → bY h.size h1 h' sl sl' →
    (∃ (k' : Nat) (gs : List Grp) (tr : Nat → Sl Int) (sl : Ix → Option Addr) (cap : Ix → Nat) (cs : Ix → List Value), (sl' xO, gs'.length, cap' xO, IntKind.wrap .i64 ((k : Int) + 1)) = (sl xO, gs.length, cap xO, (k' : Int)) ∧ k' ≤ s.xs.length ∧ Fr (fun _ => False) h h' ∧ lT h' gs tr sl cap cs ∧ (∀ x b, InA (sl x) b → h.size ≤ b) ∧ tz k' gs ∧ zM k' gs ∧ fR (s.xs.drop k') k' gs = pD s.xs) ∧ s.xs.length - (IntKind.wrap .i64 ((k : Int) + 1)).toNat < s.xs.length - ((k : Int)).toNat := by
   intro h' gs' tr' sl' cap' cs' G' e' t'
   subst e'
   rw [wr (by omega) (by omega)]
   exact ⟨⟨k + 1, _, tr', sl', cap', cs', rfl, by omega, GG f1 t' nw, G', Ky t' nw f1.size, sm.add _, gd.add _ shr.c, hg⟩, by omega⟩
  have hfl : gs.findIdx (tC s.xs[k]) ≤ gs.length := List.findIdx_le_length
  refine ifE (fun hq => ?_) (fun hq => ?_)
  ·have hq' : gs.findIdx (tC s.xs[k]) = gs.length := by omega
   refine aA (o5'.cells.at rfl) (aC (o5'.cells.at rfl) ?_)
   refine Ks s.xs[k].Transforms okr3.k13 (by have := shr.t; omega) fun T h4 f4 oT eT hnew => ⟨_, _, _, rfl, ?_⟩
   have o54 := Own.fr0 f4 o5'
   refine ⟨aA (o54.cells.at rfl) rfl, ?_⟩
   refine aU fun b h5 f5 hb5 o5b => ?_
   have G5 := (G3.fr f4).fr f5
   have es : (Tryz.t87).size = 5 := by kernel_rfl
   have eb : (Tryz.t87).bytes = 104 := by kernel_rfl
   refine Fam.app Gm Tryz.underlying82 (by intro k e; cases e) G5.fam xO (by rw [es]; rfl) (by rw [G.olen]; rfl) G.ocap (Src.one o5b (by rw [es]; rfl) 1) (by intro v hv; simp at hv; rcases hv with rfl | rfl | rfl | rfl | rfl <;> rfl) (by rw [eb]; omega) fun a' c' h6 F6 hc6 f6 hn6 => ⟨_, _, _, rfl, ?_⟩
   have t6 : bY h.size h1 h6 sl (put sl xO a') := (bY.of_fr ((f23.trans f4).trans f5)).trans (bY.of_app f6 hn6)
   have hTb : T.xs ≠ [] → ∀ b, InA T.p b → h3.size ≤ b ∧ b < h4.size := fun hx b hb => ⟨hnew b hb, oT.lt hx hb⟩
   have hTapart : T.xs ≠ [] → ∀ x b, InA T.p b → ¬ InA (put sl xO a' x) b := by
    intro hx x b hb hi
    obtain ⟨hb1, hb2⟩ := hTb hx b hb
    rcases t6.old x b hi with ⟨y, hy⟩ | hy
    ·have h1' := G.fam.lt hy; have h2' := f23.size; omega
    ·by_cases e : x = xO
     ·subst e; rw [cD] at hi
      rcases hn6 b hi with hi | hi
      ·have h1' := G.fam.lt hi; have h2' := f23.size; omega
      ·have := f5.size; omega
     ·rw [bI _ _ e] at hi
      have h1' := G.fam.lt hi; have h2' := f23.size; omega
   have hTok : iu h6 T := by
    by_cases hx : T.xs = []
    ·exact ⟨oT.len, oT.cap, fun i hi => by rw [hx] at hi; simp at hi⟩
    ·refine iu.fr (bH.fr0 zi f5 oT) f6 fun b hb hi => ?_
     obtain ⟨hb1, hb2⟩ := hTb hx b hb
     have h1' := G.fam.lt hi; have h2' := f23.size; omega
   have t56 : bY h.size h5 h6 sl (put sl xO a') := bY.of_app f6 hn6
   have G6 := G5.push (N := h.size) s.xs[k].Kind okr.k12 T hc6 F6 t56 hTok hTapart
   have hlen : (gs ++ [(⟨s.xs[k].Kind, T.xs, [], [], []⟩ : Grp)]).length = gs.length + 1 := by simp
   rw [← hlen]
   have e1 : put sl xO a' xO = a' := cD _ _ _
   have e2 : put cap xO c' xO = c' := cD _ _ _
   rw [hq', ← e1, ← e2]
   have o56 : Own h6 t5 s.xs[k].vals cK := (Own.fr0 f5 o54).fr f6 (fun hi => hnt xO _ hi rfl)
   refine MT (N := h.size) (m := k) G6 (i := gs.length) (by simp) (fun g hgm => ?_) (by omega) k s.xs[k] o56 (fun x b hb e => ?_) (aO.ok_fr _ _ _ (GG f1 t6 nw) okr0) shr.c fun h7 sl7 cap7 cs7 G7 t7 es7 ec7 => ?_
   ·rcases List.mem_append.1 hgm with hgm | hgm
    ·exact sm.g g hgm
    ·rw [List.mem_singleton.1 hgm]; simp
   ·by_cases ex : x = xO
    ·subst ex; rw [cD] at hb
     rcases hn6 b hb with hb | hb
     ·exact hnt _ b hb e
     ·have h1' := f2.size; have h2' := ((f3.trans f4).trans f5).size
      have := o5.lt; omega
    ·rw [bI _ _ ex] at hb; exact hnt x b hb e
   ·rw [← es7, ← ec7]
    have eL : gs.length + 1 = ((gs ++ [(⟨s.xs[k].Kind, T.xs, [], [], []⟩ : Grp)]).modify gs.length (sQ k s.xs[k])).length := by simp
    rw [hlen, eL]
    refine back h7 _ _ sl7 cap7 cs7 G7 ?_ (t6.trans t7)
    unfold Ah uW
    rw [if_pos hq', hq', eT]
  ·have hlt : gs.findIdx (tC s.xs[k]) < gs.length := by omega
   refine MT (N := h.size) (m := k) G3 hlt sm.g (by omega) k s.xs[k] o5' hnt okr3 shr.c fun h7 sl7 cap7 cs7 G7 t7 es7 ec7 => ?_
   rw [← es7, ← ec7]
   have eL : gs.length = (gs.modify (gs.findIdx (tC s.xs[k])) (sQ k s.xs[k])).length := by simp
   conv => lhs; rw [eL]
   refine back h7 _ _ sl7 cap7 cs7 G7 ?_ ((bY.of_fr f23).trans t7)
   unfold Ah uW
   rw [if_neg (by omega)]
 ·simp only at hge
  have e : k = s.xs.length := by omega
  rw [e, List.drop_length] at hg
  obtain ⟨g, hp, hlen, hc, hgok, hmap⟩ := G.read sm gd (by omega)
  have := hk g h1 f1 hgok (by rw [hmap]; exact hg)
  rw [hp, hlen, hc] at this; exact this
end Go.Proofs.YtjmfpeiidlpngaaGreatDoor.Fp
namespace Go.Proofs.YtjmfpeiidlpngaaGreatDoor.Au
set_option linter.unusedSimpArgs false
set_option linter.unusedVariables false
set_option maxRecDepth 20000
open Go
open Go.IntKind (wrap)
section
variable {h : aB} {Q : Value → aB → Prop}
theorem Fj [Gh] (c : Int) (hk : ∀ b : Bool, Q (.bool b) h) : aD Tryz.prog mF #[.int .u8 c] h Q := by
 apply BT
 unfold vn
 exact ifD (fun _ => ifD (fun _ => hk _) fun _ => ifD (fun _ => hk _) fun _ => hk _) fun _ => ifD (fun _ => hk _) fun _ => hk _
theorem Le [Gh] (c : Int) (hk : ∀ b : Bool, Q (.bool b) h) : aD Tryz.prog rC #[.int .u8 c] h Q := by
 apply Cm
 unfold xi
 exact ifD (fun _ => hk _) fun _ => hk _
theorem Kh [Gh] (c : Int) (hk : ∀ b : Bool, Q (.bool b) h) : aD Tryz.prog qi #[.int .u8 c] h Q := by
 apply AU
 unfold vB
 exact Fj c fun b => ⟨b, rfl, ifB (fun _ => hk _) fun _ => Le c fun b => ⟨b, rfl, ifB (fun _ => hk _) fun _ => hk _⟩⟩
theorem BV [Gh] (s : Nm) (hk : ∀ b : Bool, (b = true → s.length ≤ 32) → Q (.bool b) h) : aD Tryz.prog kC #[.string (bs s)] h Q := by
 apply AQ
 unfold vY
 have no : Q (.bool false) h := hk false fun h => by cases h
 refine An (fun _ => no) fun e => ?_
 rw [aX]
 refine ifD (fun _ => no) fun e2 => ?_
 have hp := List.length_pos_iff.2 e
 refine ixS s 0 rfl hp (Fj _ fun b => ⟨b, rfl, ifN (fun _ => no) fun _ => ?_⟩)
 refine aH.go (fun n st h' => ∃ i : Nat, st = (i : Int) ∧ i ≤ s.length ∧ n = s.length - i ∧ h' = h) s.length ⟨0, rfl, by omega, rfl, rfl⟩ ?_
 rintro n - h1 ⟨i, rfl, hi, rfl, rfl⟩ Kn hK
 unfold qo
 rw [aX]
 refine ifD (fun e3 => ?_) fun e3 => hk true fun _ => by omega
 have hil : i < s.length := by omega
 refine ixS s i rfl hil (Kh _ fun b => ⟨b, rfl, ifN (fun _ => no) fun _ => ?_⟩)
 rw [wr (by omega) (by omega)]
 exact hK (s.length - (i + 1)) _ _ (by omega) ⟨i + 1, rfl, hil, rfl, rfl⟩
theorem Hp [Gh] (a : aK) (hk : ∀ h', Fr (fun _ => False) h h' → Q (.int .i64 (if a.V6 = true then 128 else 32)) h') : aD Tryz.prog om #[.agg a.vals.toArray] h Q := by
 apply Ct
 unfold xm
 refine aU (vs := a.vals) fun t1 h1 f1 e1 o1 => ?_
 have c1 : aY h1 t1 a.vals := o1.cells
 refine aG (c1.at0 rfl) (ifB (fun e => ?_) fun e => ?_)
 ·have := hk h1 f1; rw [if_pos e] at this; exact this
 ·have := hk h1 f1; rw [if_neg (by rw [e]; decide)] at this; exact this
theorem KN [Gh] (a : aK) (hk : ∀ (b : Bool) h', Fr (fun _ => False) h h' → Q (.bool b) h') : aD Tryz.prog qT #[.agg a.vals.toArray] h Q := by
 apply Cj
 unfold xq
 refine aU (vs := a.vals) fun t1 h1 f1 e1 o1 => ?_
 have c1 : aY h1 t1 a.vals := o1.cells
 exact aG (c1.at0 rfl) (ifB (fun e => hk _ h1 f1) fun e => aA (c1.at (j := 1) rfl) (ifE (fun _ => aA (c1.at (j := 2) rfl) (hk _ h1 f1)) fun _ => hk _ h1 f1))
theorem DK (x : Int) : 0 ≤ wrap .u64 x := by
 unfold IntKind.wrap IntKind.signed
 simp only [Bool.false_and, Bool.false_eq_true, if_false]
 exact Int.emod_nonneg _ (by decide)
theorem MM [Gh] (a : aK) (i : Int) (hk : ∀ (b : Bool) h', Fr (fun _ => False) h h' → Q (.bool b) h') : aD Tryz.prog ui #[.agg a.vals.toArray, .int .i64 i] h Q := by
 apply Fk
 unfold zB
 refine aU (vs := a.vals) fun t1 h1 f1 e1 o1 => ?_
 have c1 : aY h1 t1 a.vals := o1.cells
 refine aG (c1.at0 rfl) (ifN (fun e => aA (c1.at (j := 2) rfl) ⟨DK _, hk _ h1 f1⟩) fun e => ifD (fun _ => aA (c1.at (j := 1) rfl) ⟨DK _, hk _ h1 f1⟩) fun _ => aA (c1.at (j := 2) rfl) ⟨DK _, hk _ h1 f1⟩)
theorem Me [Gh] (a : aK) (n : Int) (hn : 0 ≤ n ∧ n ≤ 1000) (one : Bool) (hk : ∀ (b : Bool) (x y : Int) h', Fr (fun _ => False) h h' → Q (.agg #[.bool b, .int .u64 x, .int .u64 y]) h') : aD Tryz.prog sL #[.agg a.vals.toArray, .int .i64 n, .bool one] h Q := by
 apply D0
 unfold x9
 refine aU (vs := a.vals) fun t3 h1 f1 e1 o1 => ?_
 have z1 := f1.size
 have l1 := o1.lt
 refine aU (vs := [.bool false, .int .u64 0, .int .u64 0]) fun t6 h2 f2 e2 o2 => ?_
 have z2 := f2.size
 have f12 := f1.trans f2
 have o12 : Own h2 t3 a.vals cI := o1.fr0 f2
 refine aH.go (fun m st h' => ∃ (i : Nat) (x : aK), st = (i : Int) ∧ n ≤ i ∧ i ≤ 1000 ∧ m = 1000 - i ∧ x.V6 = a.V6 ∧ Fr (fun _ => False) h h' ∧ Own h' t3 x.vals cI ∧ Own h' t6 [.bool false, .int .u64 0, .int .u64 0] cI) (1000 - n.toNat)
  ⟨n.toNat, a, by omega, by omega, by omega, rfl, rfl, f12, o12, o2⟩ ?_
 rintro m - h3 ⟨i, x, rfl, hi1, hi2, rfl, hx, f3, o3, o6⟩ Kn hK
 unfold sD
 have c3 := o3.cells
 refine aG (c3.at0 rfl) (aA (c3.at (j := 1) rfl) (aA (c3.at (j := 2) rfl) ?_))
 refine Hp x fun h4 f4 => ⟨_, rfl, ?_⟩
 have o34 := o3.fr0 f4
 have o64 := o6.fr0 f4
 have c4 := o34.cells
 have f34 := f3.trans f4
 refine ifD (fun e => ?_) fun e => ?_
 ·have hil : i < 128 := by split at e <;> omega
  refine aG (c4.at0 rfl) (aA (c4.at (j := 1) rfl) (aA (c4.at (j := 2) rfl) ?_))
  refine MM x i fun b h5 f5 => ⟨b, rfl, ?_⟩
  have o35 := o34.fr0 f5
  have o65 := o64.fr0 f5
  have c5 := o35.cells
  have f35 := f34.trans f5
  rw [wr (x := (i : Int) + 1) (by omega) (by omega)]
  have go : ∀ (x' : aK) h6, x'.V6 = a.V6 → Fr (fun _ => False) h h6 → Own h6 t3 x'.vals cI → Own h6 t6 [.bool false, .int .u64 0, .int .u64 0] cI → Kn ((i : Int) + 1) h6 := fun x' h6 hx' f6 o36 o66 => hK (1000 - (i + 1)) _ _ (by omega) ⟨i + 1, x', rfl, by omega, by omega, rfl, hx', f6, o36, o66⟩
  by_cases hb : b = one
  ·rw [if_pos (by rw [hb]; simp)]; exact go x h5 hx f35 o35 o65
  ·rw [if_neg (by simpa using hb)]
   have hi' : ∀ v : Int, st1 h5 (Addr.add t3 1) (.int .u64 v) fun h6 => Kn ((i : Int) + 1) h6 := fun v => cO o35 1 (by show 1 < 3; omega) rfl fun h6 f6 s6 o6' => go ⟨x.V6, v, x.Lo⟩ h6 hx (f35.tr f6 fun y hy hh => by omega) o6' (o65.fr f6 fun hh => by omega)
   have lo' : ∀ v : Int, st1 h5 (Addr.add t3 2) (.int .u64 v) fun h6 => Kn ((i : Int) + 1) h6 := fun v => cO o35 2 (by show 2 < 3; omega) rfl fun h6 f6 s6 o6' => go ⟨x.V6, x.Hi, v⟩ h6 hx (f35.tr f6 fun y hy hh => by omega) o6' (o65.fr f6 fun hh => by omega)
   refine aG (c5.at0 rfl) (ifN (fun _ => aA (c5.at (j := 2) rfl) ⟨DK _, lo' _⟩) fun _ => ifD (fun _ => aA (c5.at (j := 1) rfl) ⟨DK _, hi' _⟩) fun _ => aA (c5.at (j := 2) rfl) ⟨DK _, lo' _⟩)
 ·unfold sP
  refine aG (c4.at0 rfl) (aA (c4.at (j := 1) rfl) (aA (c4.at (j := 2) rfl) ?_))
  refine jt o64 (ws := x.vals) (by rfl) (by rfl) fun h5 f5 s5 o5 => ?_
  have c5 := o5.cells
  refine aG (c5.at0 rfl) (aA (c5.at (j := 1) rfl) (aA (c5.at (j := 2) rfl) ?_))
  exact hk _ _ _ h5 (f34.tr f5 fun y hy hh => by omega)
theorem Cw [Gh] (p : bS) (hk : ∀ (b : Bool) h', Fr (fun _ => False) h h' → Q (.bool b) h') : aD Tryz.prog ly #[.agg p.vals.toArray] h Q := by
 apply wO
 unfold qv
 refine aU (vs := p.vals) fun t1 h1 f1 e1 o1 => ?_
 have c1 : aY h1 t1 p.vals := o1.cells
 refine aG (c1.at0 rfl) (aA (c1.at (j := 1) rfl) (aA (c1.at (j := 2) rfl) ?_))
 refine KN p.Addr fun b h2 f2 => ⟨b, rfl, ifB (fun _ => ?_) fun _ => hk _ h2 (f1.trans f2)⟩
 have c2 := c1.fr0 f2
 refine aA (c2.at (j := 3) rfl) (ifD (fun e => ?_) fun _ => hk _ h2 (f1.trans f2))
 refine aA (c2.at (j := 3) rfl) (aG (c2.at0 rfl) (aA (c2.at (j := 1) rfl) (aA (c2.at (j := 2) rfl) ?_)))
 refine Hp p.Addr fun h3 f3 => ⟨_, rfl, aA ((c2.fr0 f3).at (j := 3) rfl) rfl, ?_⟩
 have c3 := c2.fr0 f3
 have f13 := (f1.trans f2).trans f3
 refine ifD (fun e2 => ?_) fun _ => hk _ h3 f13
 refine aG (c3.at0 rfl) (aA (c3.at (j := 1) rfl) (aA (c3.at (j := 2) rfl) (aA (c3.at (j := 3) rfl) (aG (c3.at0 rfl) (aA (c3.at (j := 1) rfl) (aA (c3.at (j := 2) rfl) ?_))))))
 refine Me p.Addr p.Bits ⟨by omega, by split at e2 <;> omega⟩ false fun b x y h4 f4 => ⟨_, _, _, rfl, ?_⟩
 have c4 := c3.fr0 f4
 exact ⟨aG (c4.at0 rfl) (aA (c4.at (j := 1) rfl) (aA (c4.at (j := 2) rfl) rfl)), hk _ h4 (f13.trans f4)⟩
end
end Go.Proofs.YtjmfpeiidlpngaaGreatDoor.Au
namespace Go.Proofs.YtjmfpeiidlpngaaGreatDoor.Au
set_option linter.unusedSimpArgs false
set_option linter.unusedVariables false
set_option maxRecDepth 20000
open Go
open Go.IntKind (wrap)
structure Hc (r : aO) : Prop where
 act : 1 ≤ r.Action ∧ r.Action ≤ 4
 proto : r.Proto = 6 ∨ r.Proto = 17
 sid : 1 ≤ r.Sid ∧ r.Sid < 4294967296
 prio : 1 ≤ r.Priority ∧ r.Priority ≤ 4
 dir : 0 ≤ r.Dir ∧ r.Dir ≤ 2
 kind : 1 ≤ r.Kind ∧ r.Kind ≤ 18
 msg : r.Msg.length ≤ 128
 trn : r.Transforms.xs.length ≤ 4
 conn : r.Contents.xs.length ≤ 8
 tesn : r.Tests.xs.length ≤ 8
 flon : r.Flow.xs.length ≤ 8
 src : r.Src.xs.length ≤ 64
 dst : r.Dst.xs.length ≤ 64
 sp : r.SrcPorts.xs.length ≤ 64
 dp : r.DstPorts.xs.length ≤ 64
 tr : ∀ x ∈ r.Transforms.xs, 1 ≤ x ∧ x ≤ 6
 con : ∀ c ∈ r.Contents.xs, 1 ≤ c.Pattern.length ∧ c.Pattern.length ≤ 64 ∧ -1024 ≤ c.Offset ∧ c.Offset ≤ 1024 ∧ 0 ≤ c.Depth ∧ c.Depth ≤ 1024
 tes : ∀ t ∈ r.Tests.xs, -1024 ≤ t.Offset ∧ t.Offset ≤ 1024
 flo : ∀ f ∈ r.Flow.xs, f.Name.length ≤ 32 ∧ 1 ≤ f.Op ∧ f.Op ≤ 4
section
variable {h : aB} {Q : Value → aB → Prop}
theorem vF {α : Type} {l : List α} {P : α → Prop} {i : Nat} (hi : i < l.length) (h : ∀ x ∈ l.take i, P x) (hx : P l[i]) : ∀ x ∈ l.take (i + 1), P x := fun x hm => by
 rw [show l.take (i + 1) = l.take i ++ [l[i]] by rw [List.take_append_getElem]] at hm
 rcases List.mem_append.1 hm with hm | hm
 ·exact h x hm
 ·rw [List.mem_singleton.1 hm]; exact hx
theorem Lg [Gh] (r : aO) (hk : ∀ (b : Bool) h', Fr (fun _ => False) h h' → (b = true → (1 ≤ r.Action ∧ r.Action ≤ 4) ∧ (r.Proto = 6 ∨ r.Proto = 17) ∧ (1 ≤ r.Sid ∧ r.Sid < 4294967296) ∧ (1 ≤ r.Priority ∧ r.Priority ≤ 4) ∧ (0 ≤ r.Dir ∧ r.Dir ≤ 2) ∧ (1 ≤ r.Kind ∧ r.Kind ≤ 18)) → Q (.bool b) h') :
  aD Tryz.prog rA #[.agg r.vals.toArray] h Q := by
 apply Ce
 unfold xr
 refine aU (vs := r.vals) fun t1 h1 f1 e1 o1 => ?_
 have c1 : aY h1 t1 r.vals := o1.cells
 have no : Q (.bool false) h1 := hk _ h1 f1 fun h => by cases h
 have rest : 1 ≤ r.Action → r.Action ≤ 4 → (r.Proto = 6 ∨ r.Proto = 17) → ldI h1 (Addr.add t1 7) .i64 fun t23 => if (decide (t23 ≥ 1)) = true then (ldI h1 (Addr.add t1 7) .i64 fun t28 => if (decide (t28 < 4294967296)) = true then (ldI h1 (Addr.add t1 8) .i64 fun t33 => if (decide (t33 ≥ 1)) = true then (ldI h1 (Addr.add t1 8) .i64 fun t38 => if (decide (t38 ≤ 65535)) = true then (ldI h1 (Addr.add t1 9) .i64 fun t43 => if (decide (t43 ≥ 1)) = true then (ldI h1 (Addr.add t1 9) .i64 fun t48 => if (decide (t48 ≤ 4)) = true then (ldI h1 (Addr.add t1 11) .i64 fun t53 => if (decide (t53 ≥ 0)) = true then (ldI h1 (Addr.add t1 11) .i64 fun t58 => if (decide (t58 ≤ 2)) = true then (ldI h1 (Addr.add t1 12) .i64 fun t63 => if (decide (t63 ≥ 1)) = true then (ldI h1 (Addr.add t1 12) .i64 fun t68 => Q (.bool (decide (t68 ≤ 18))) h1) else (Q (.bool false) h1)) else (Q (.bool false) h1)) else (Q (.bool false) h1)) else (Q (.bool false) h1)) else (Q (.bool false) h1)) else (Q (.bool false) h1)) else (Q (.bool false) h1)) else (Q (.bool false) h1)) else (Q (.bool false) h1) := fun a1 a2 a3 => by
  refine aA (c1.at (j := 7) rfl) (ifD (fun b1 => ?_) fun _ => no)
  refine aA (c1.at (j := 7) rfl) (ifD (fun b2 => ?_) fun _ => no)
  refine aA (c1.at (j := 8) rfl) (ifD (fun b3 => ?_) fun _ => no)
  refine aA (c1.at (j := 8) rfl) (ifD (fun b4 => ?_) fun _ => no)
  refine aA (c1.at (j := 9) rfl) (ifD (fun b5 => ?_) fun _ => no)
  refine aA (c1.at (j := 9) rfl) (ifD (fun b6 => ?_) fun _ => no)
  refine aA (c1.at (j := 11) rfl) (ifD (fun b7 => ?_) fun _ => no)
  refine aA (c1.at (j := 11) rfl) (ifD (fun b8 => ?_) fun _ => no)
  refine aA (c1.at (j := 12) rfl) (ifD (fun b9 => ?_) fun _ => no)
  refine aA (c1.at (j := 12) rfl) (hk _ h1 f1 fun e => ?_)
  exact ⟨⟨a1, a2⟩, a3, ⟨b1, b2⟩, ⟨b5, b6⟩, ⟨b7, b8⟩, b9, of_decide_eq_true e⟩
 refine aA (c1.at0 rfl) (ifD (fun a1 => aA (c1.at0 rfl) (ifD (fun a2 => ?_) fun _ => no)) fun _ => no)
 refine aA (c1.at (j := 1) rfl) (ifE (fun a3 => rest a1 a2 (.inl a3)) fun _ => aA (c1.at (j := 1) rfl) (ifE (fun a3 => rest a1 a2 (.inr a3)) fun _ => no))
theorem Lx [Gh] (r : aO) (hk : ∀ (b : Bool) h', Fr (fun _ => False) h h' → Q (.bool b) h') : aD Tryz.prog rk #[.agg r.vals.toArray] h Q := by
 apply Cf
 unfold w8
 refine aU (vs := r.vals) fun t1 h1 f1 e1 o1 => ?_
 have c1 : aY h1 t1 r.vals := o1.cells
 refine aA (c1.at (j := 1) rfl) (ifE (fun _ => aA (c1.at (j := 12) rfl) (hk _ h1 f1)) fun _ => ?_)
 refine aA (c1.at (j := 12) rfl) (ifE (fun _ => hk _ h1 f1) fun _ => aA (c1.at (j := 12) rfl) (ifE (fun _ => hk _ h1 f1) fun _ => aA (c1.at (j := 12) rfl) (ifE (fun _ => hk _ h1 f1) fun _ => aA (c1.at (j := 12) rfl) (hk _ h1 f1))))
theorem KW [Gh] (r : aO) (hk : ∀ (b : Bool) h', Fr (fun _ => False) h h' → (b = true → r.Msg.length ≤ 128 ∧ r.Transforms.xs.length ≤ 4 ∧ r.Contents.xs.length ≤ 8 ∧ r.Tests.xs.length ≤ 8 ∧ r.Flow.xs.length ≤ 8 ∧ r.Src.xs.length ≤ 64 ∧ r.Dst.xs.length ≤ 64 ∧ r.SrcPorts.xs.length ≤ 64 ∧ r.DstPorts.xs.length ≤ 64) → Q (.bool b) h') :
  aD Tryz.prog rb #[.agg r.vals.toArray] h Q := by
 apply Cc
 unfold xa
 refine aU (vs := r.vals) fun t1 h1 f1 e1 o1 => ?_
 have c1 : aY h1 t1 r.vals := o1.cells
 have no : Q (.bool false) h1 := hk _ h1 f1 fun h => by cases h
 refine aT (c1.at (j := 10) rfl) ?_
 rw [aX]
 refine ifD (fun b0 => ?_) fun _ => no
 refine aC (c1.at (j := 13) rfl) (ifD (fun b1 => ?_) fun _ => no)
 refine aC (c1.at (j := 14) rfl) (ifD (fun b2 => ?_) fun _ => no)
 refine aC (c1.at (j := 15) rfl) (ifD (fun b3 => ?_) fun _ => no)
 refine aC (c1.at (j := 16) rfl) (ifD (fun b4 => ?_) fun _ => no)
 refine aC (c1.at (j := 2) rfl) (ifD (fun b5 => ?_) fun _ => no)
 refine aC (c1.at (j := 3) rfl) (ifD (fun b6 => ?_) fun _ => no)
 refine aC (c1.at (j := 4) rfl) (ifD (fun b7 => ?_) fun _ => no)
 refine aC (c1.at (j := 5) rfl) (hk _ h1 f1 fun e => ?_)
 have e := of_decide_eq_true e
 exact ⟨by omega, by omega, by omega, by omega, by omega, by omega, by omega, by omega, by omega⟩
theorem Fn [Gh] (n : Int) (rel : Bool) (hk : ∀ b : Bool, (b = true → -1024 ≤ n ∧ n ≤ 1024) → Q (.bool b) h) : aD Tryz.prog hZ #[.int .i64 n, .bool rel] h Q := by
 apply AP
 unfold vZ
 have no : Q (.bool false) h := hk _ fun h => by cases h
 refine ifD (fun e1 => ifD (fun e2 => hk _ fun _ => by omega) fun e2 => ifB (fun _ => hk _ fun e => ?_) fun _ => no) fun _ => no
 have := of_decide_eq_true e; omega
theorem zT [Gh] (l : Sl aN) (o : bH 6 aN.vals aN.ok h l) (hk : ∀ b : Bool, Q (.bool b) h) : aD Tryz.prog kv #[.slice l.p l.xs.length l.cap] h Q := by
 apply yj
 unfold r5
 have hcap := o.cap
 refine aH.go (fun n st h' => ∃ i : Nat, st = (i : Int) ∧ i ≤ l.xs.length ∧ n = l.xs.length - i ∧ h' = h) l.xs.length ⟨0, rfl, by omega, rfl, rfl⟩ ?_
 rintro n - h1 ⟨i, rfl, hi, rfl, rfl⟩ Kn hK
 unfold mP
 refine ifD (fun e => ?_) fun _ => hk _
 have hil : i < l.xs.length := by omega
 refine cL o i rfl hil fun ad c _ => ?_
 rw [Int.toNat_natCast]
 have nx : Kn (wrap .i64 ((i : Int) + 1)) h1 := by
  rw [wr (by omega) (by omega)]
  exact hK (l.xs.length - (i + 1)) _ _ (by omega) ⟨i + 1, rfl, hil, rfl, rfl⟩
 refine aT (c.at (j := 1) rfl) (HO (m := []) (fun _ => ?_) fun _ => nx)
 refine cL o i rfl hil fun ad c _ => ?_
 refine aT (c.at (j := 1) rfl) (BV _ fun b _ => ⟨b, rfl, ifN (fun _ => hk _) fun _ => nx⟩)
theorem zU [Gh] (l : Sl aM) (o : bH 4 aM.vals aM.ok h l) (hk : ∀ b : Bool, Q (.bool b) h) : aD Tryz.prog j7 #[.slice l.p l.xs.length l.cap] h Q := by
 apply yw
 unfold sf
 have hcap := o.cap
 refine aH.go (fun n st h' => ∃ i : Nat, st = (i : Int) ∧ i ≤ l.xs.length ∧ n = l.xs.length - i ∧ h' = h) l.xs.length ⟨0, rfl, by omega, rfl, rfl⟩ ?_
 rintro n - h1 ⟨i, rfl, hi, rfl, rfl⟩ Kn hK
 unfold mN
 refine ifD (fun e => ?_) fun _ => hk _
 have hil : i < l.xs.length := by omega
 refine cL o i rfl hil fun ad c _ => ?_
 rw [Int.toNat_natCast]
 have nx : Kn (wrap .i64 ((i : Int) + 1)) h1 := by
  rw [wr (by omega) (by omega)]
  exact hK (l.xs.length - (i + 1)) _ _ (by omega) ⟨i + 1, rfl, hil, rfl, rfl⟩
 refine aT (c.at (j := 1) rfl) (HO (m := []) (fun _ => ?_) fun _ => nx)
 refine cL o i rfl hil fun ad c _ => ?_
 refine aT (c.at (j := 1) rfl) (BV _ fun b _ => ⟨b, rfl, ifN (fun _ => hk _) fun _ => nx⟩)
theorem EF [Gh] (l : Sl aZ) (o : bH 2 aZ.vals aZ.ok h l) (hk : ∀ b : Bool, (b = true → ∀ f ∈ l.xs, f.Name.length ≤ 32) → Q (.bool b) h) : aD Tryz.prog mK #[.slice l.p l.xs.length l.cap] h Q := by
 apply yu
 unfold r9
 have hcap := o.cap
 refine aH.go (fun n st h' => ∃ i : Nat, st = (i : Int) ∧ i ≤ l.xs.length ∧ n = l.xs.length - i ∧ h' = h ∧ ∀ f ∈ l.xs.take i, f.Name.length ≤ 32) l.xs.length ⟨0, rfl, by omega, rfl, rfl, by simp⟩ ?_
 rintro n - h1 ⟨i, rfl, hi, rfl, rfl, ha⟩ Kn hK
 unfold mL
 refine ifD (fun e => ?_) fun e => hk true fun _ => ?_
 ·have hil : i < l.xs.length := by omega
  refine cL o i rfl hil fun ad c _ => ?_
  rw [Int.toNat_natCast]
  refine aT (c.at (j := 1) rfl) (BV _ fun b hb => ⟨b, rfl, ifN (fun _ => hk _ fun h => by cases h) fun e2 => ?_⟩)
  rw [wr (by omega) (by omega)]
  exact hK (l.xs.length - (i + 1)) _ _ (by omega) ⟨i + 1, rfl, hil, rfl, rfl, vF hil ha (hb e2)⟩
 ·have : i = l.xs.length := by omega
  subst this
  rw [List.take_length] at ha; exact ha
theorem FV [Gh] (l : Sl Cn) (o : bH 7 aI.vals aI.ok h l) (hk : ∀ (e : Int) h', Fr (fun _ => False) h h' → (e = 0 → ∀ c ∈ l.xs, 1 ≤ c.Pattern.length ∧ c.Pattern.length ≤ 64 ∧ -1024 ≤ c.Offset ∧ c.Offset ≤ 1024 ∧ 0 ≤ c.Depth ∧ c.Depth ≤ 1024) → Q (.int .i64 e) h') : aD Tryz.prog nX #[.slice l.p l.xs.length l.cap] h Q := by
 apply yT
 unfold tM
 have hcap := o.cap
 refine aH.go (fun n st h' => ∃ i : Nat, st = (i : Int) ∧ i ≤ l.xs.length ∧ n = l.xs.length - i ∧ Fr (fun _ => False) h h' ∧ ∀ c ∈ l.xs.take i, 1 ≤ c.Pattern.length ∧ c.Pattern.length ≤ 64 ∧ -1024 ≤ c.Offset ∧ c.Offset ≤ 1024 ∧ 0 ≤ c.Depth ∧ c.Depth ≤ 1024) l.xs.length ⟨0, rfl, by omega, rfl, Fr.refl _ _, by simp⟩ ?_
 rintro n - h1 ⟨i, rfl, hi, rfl, f1, ha⟩ Kn hK
 unfold og
 refine ifD (fun e => ?_) fun e => hk 0 h1 f1 fun _ => ?_
 ·have hil : i < l.xs.length := by omega
  refine cL (bH.fr0 aI.ok_fr f1 o) i rfl hil fun ad c _ => ?_
  rw [Int.toNat_natCast]
  refine aT (c.at0 rfl) (aG (c.at (j := 1) rfl) (aG (c.at (j := 2) rfl) (aG (c.at (j := 3) rfl) (aA (c.at (j := 4) rfl) (aA (c.at (j := 5) rfl) (aG (c.at (j := 6) rfl) ?_))))))
  refine aU (vs := [.string (bs []), .bool false, .bool false, .bool false, .int .i64 0, .int .i64 0, .bool false]) fun t4 h2 f2 e2 o2 => ?_
  refine jt o2 (ws := l.xs[i].vals) (by rfl) (by rfl) fun h3 f3 s3 o3 => ?_
  have f13 : Fr (fun _ => False) h h3 := f1.trans (f2.tr f3 fun b hb hi => by omega)
  have c3 : aY h3 t4 l.xs[i].vals := o3.cells
  have no : ∀ e : Int, e ≠ 0 → Q (.int .i64 e) h3 := fun e he => hk _ h3 f13 fun h => absurd h he
  refine aT (c3.at0 rfl) ?_
  rw [aX]
  refine ifD (fun _ => no _ (by decide)) fun b1 => ?_
  refine aT (c3.at0 rfl) ?_
  rw [aX]
  refine ifD (fun _ => no _ (by decide)) fun b2 => ?_
  refine aA (c3.at (j := 4) rfl) (aG (c3.at (j := 3) rfl) (Fn _ _ fun b hb => ⟨b, rfl, ifN (fun _ => no _ (by decide)) fun b3 => ?_⟩))
  have hb := hb b3
  refine aA (c3.at (j := 5) rfl) (ifD (fun _ => no _ (by decide)) fun b4 => aA (c3.at (j := 5) rfl) (ifD (fun _ => no _ (by decide)) fun b5 => ?_))
  rw [wr (by omega) (by omega)]
  exact hK (l.xs.length - (i + 1)) _ _ (by omega) ⟨i + 1, rfl, hil, rfl, f13, vF hil ha ⟨by omega, by omega, hb.1, hb.2, by omega, by omega⟩⟩
 ·have : i = l.xs.length := by omega
  subst this
  rw [List.take_length] at ha; exact ha
theorem JX [Gh] (l : Sl Ts) (o : bH 7 bL.vals bL.ok h l) (hk : ∀ (b : Bool) h', Fr (fun _ => False) h h' → (b = true → ∀ t ∈ l.xs, -1024 ≤ t.Offset ∧ t.Offset ≤ 1024) → Q (.bool b) h') : aD Tryz.prog rf #[.slice l.p l.xs.length l.cap] h Q := by
 apply Cp
 unfold wU
 have hcap := o.cap
 refine aH.go (fun n st h' => ∃ i : Nat, st = (i : Int) ∧ i ≤ l.xs.length ∧ n = l.xs.length - i ∧ Fr (fun _ => False) h h' ∧ ∀ t ∈ l.xs.take i, -1024 ≤ t.Offset ∧ t.Offset ≤ 1024) l.xs.length ⟨0, rfl, by omega, rfl, Fr.refl _ _, by simp⟩ ?_
 rintro n - h1 ⟨i, rfl, hi, rfl, f1, ha⟩ Kn hK
 unfold ro
 refine ifD (fun e => ?_) fun e => hk true h1 f1 fun _ => ?_
 ·have hil : i < l.xs.length := by omega
  refine cL (bH.fr0 bL.ok_fr f1 o) i rfl hil fun ad c _ => ?_
  rw [Int.toNat_natCast]
  refine aA (c.at0 rfl) (aA (c.at (j := 1) rfl) (aA (c.at (j := 2) rfl) (aA (c.at (j := 3) rfl) (aG (c.at (j := 4) rfl) (aG (c.at (j := 5) rfl) (aG (c.at (j := 6) rfl) ?_))))))
  refine aU (vs := [.int .i64 0, .int .i64 0, .int .i64 0, .int .i64 0, .bool false, .bool false, .bool false]) fun t4 h2 f2 e2 o2 => ?_
  refine jt o2 (ws := l.xs[i].vals) (by rfl) (by rfl) fun h3 f3 s3 o3 => ?_
  have f13 : Fr (fun _ => False) h h3 := f1.trans (f2.tr f3 fun b hb hi => by omega)
  have c3 : aY h3 t4 l.xs[i].vals := o3.cells
  have no : Q (.bool false) h3 := hk _ h3 f13 fun h => by cases h
  have last : ldI h3 (Addr.add t4 3) .i64 fun t55 => ldB h3 (Addr.add t4 4) fun t57 => aD Tryz.prog hZ #[.int .i64 t55, .bool t57] h3 fun v h3 => ∃ t58 : Bool, v = .bool t58 ∧ if (!t58) = true then (Q (.bool false) h3) else (Kn (wrap .i64 ((i : Int) + 1)) h3) :=
   aA (c3.at (j := 3) rfl) (aG (c3.at (j := 4) rfl) (Fn _ _ fun b hb => ⟨b, rfl, ifN (fun _ => no) fun b3 => by
    rw [wr (by omega) (by omega)]
    exact hK (l.xs.length - (i + 1)) _ _ (by omega) ⟨i + 1, rfl, hil, rfl, f13, vF hil ha (hb b3)⟩⟩))
  refine aA (c3.at0 rfl) (ifD (fun _ => no) fun _ => aA (c3.at0 rfl) (ifD (fun _ => no) fun _ => ?_))
  refine aA (c3.at (j := 1) rfl) (lu (fun _ => aA (c3.at (j := 1) rfl) (lu (fun _ => aA (c3.at (j := 1) rfl) (lu (fun _ => no) fun _ => ?_)) fun _ => ?_)) fun _ => ?_)
  ·exact aA (c3.at (j := 2) rfl) (ifD (fun _ => no) fun _ => aA (c3.at (j := 2) rfl) (aA (c3.at (j := 1) rfl) ⟨DK _, ifD (fun _ => no) fun _ => last⟩))
  ·exact aA (c3.at (j := 2) rfl) (ifD (fun _ => no) fun _ => aA (c3.at (j := 2) rfl) (aA (c3.at (j := 1) rfl) ⟨DK _, ifD (fun _ => no) fun _ => last⟩))
  ·exact aA (c3.at (j := 2) rfl) (ifD (fun _ => no) fun _ => aA (c3.at (j := 2) rfl) (aA (c3.at (j := 1) rfl) ⟨DK _, ifD (fun _ => no) fun _ => last⟩))
 ·have : i = l.xs.length := by omega
  subst this
  rw [List.take_length] at ha; exact ha
theorem Mg [Gh] (t : aM) (hk : ∀ (b : Bool) h', Fr (fun _ => False) h h' → Q (.bool b) h') : aD Tryz.prog sk #[.agg t.vals.toArray] h Q := by
 apply D4
 unfold x5
 refine aU (vs := t.vals) fun t1 h1 f1 e1 o1 => ?_
 have c1 : aY h1 t1 t.vals := o1.cells
 refine aT (c1.at (j := 1) rfl) (HO (m := []) (fun _ => hk _ h1 f1) fun _ => ?_)
 exact aA (c1.at (j := 2) rfl) (ifD (fun _ => aA (c1.at (j := 2) rfl) (aA (c1.at (j := 3) rfl) (ifD (fun _ => aA (c1.at (j := 3) rfl) (hk _ h1 f1)) fun _ => hk _ h1 f1))) fun _ => hk _ h1 f1)
theorem Hs [Gh] (l : Sl aM) (o : bH 4 aM.vals aM.ok h l) (hk : ∀ (b : Bool) h', Fr (fun _ => False) h h' → Q (.bool b) h') : aD Tryz.prog nH #[.slice l.p l.xs.length l.cap] h Q := by
 apply Cb
 unfold xf
 have hcap := o.cap
 refine aH.go (fun n st h' => ∃ i : Nat, st = (i : Int) ∧ i ≤ l.xs.length ∧ n = l.xs.length - i ∧ Fr (fun _ => False) h h') l.xs.length ⟨0, rfl, by omega, rfl, Fr.refl _ _⟩ ?_
 rintro n - h1 ⟨i, rfl, hi, rfl, f1⟩ Kn hK
 unfold rh
 refine ifD (fun e => ?_) fun _ => hk _ h1 f1
 have hil : i < l.xs.length := by omega
 refine cL (bH.fr0 aM.ok_fr f1 o) i rfl hil fun ad c _ => ?_
 rw [Int.toNat_natCast]
 refine aG (c.at0 rfl) (aT (c.at (j := 1) rfl) (aA (c.at (j := 2) rfl) (aA (c.at (j := 3) rfl) ?_)))
 refine Mg l.xs[i] fun b h2 f2 => ⟨b, rfl, ifN (fun _ => hk _ h2 (f1.trans f2)) fun _ => ?_⟩
 rw [wr (by omega) (by omega)]
 exact hK (l.xs.length - (i + 1)) _ _ (by omega) ⟨i + 1, rfl, hil, rfl, f1.trans f2⟩
theorem Ez [Gh] (t : bF) (hk : ∀ (b : Bool) h', Fr (fun _ => False) h h' → Q (.bool b) h') : aD Tryz.prog mV #[.agg t.vals.toArray] h Q := by
 apply x8
 unfold rV
 refine aU (vs := t.vals) fun t1 h1 f1 e1 o1 => ?_
 have c1 : aY h1 t1 t.vals := o1.cells
 have q : ∀ b : Bool, Q (.bool b) h1 := fun b => hk b h1 f1
 refine aA (c1.at0 rfl) (ifE (fun _ => aA (c1.at0 rfl) (aA (c1.at (j := 1) rfl) (aA (c1.at (j := 2) rfl) (aA (c1.at (j := 3) rfl) (q _))))) fun _ => ?_)
 refine aA (c1.at0 rfl) (ifD (fun _ => aA (c1.at0 rfl) (ifD (fun _ => ?_) fun _ => q _)) fun _ => q _)
 refine aA (c1.at (j := 1) rfl) (ifD (fun _ => aA (c1.at (j := 1) rfl) (ifD (fun _ => ?_) fun _ => q _)) fun _ => q _)
 refine aA (c1.at (j := 2) rfl) (ifD (fun _ => aA (c1.at (j := 2) rfl) (ifD (fun _ => ?_) fun _ => q _)) fun _ => q _)
 exact aA (c1.at (j := 3) rfl) (ifD (fun _ => aA (c1.at (j := 3) rfl) (q _)) fun _ => q _)
theorem H2 [Gh] (r : aO) (ok : aO.ok h r) (hk : ∀ (b : Bool) h', Fr (fun _ => False) h h' → (b = true → ∀ f ∈ r.Flow.xs, 1 ≤ f.Op ∧ f.Op ≤ 4) → Q (.bool b) h') : aD Tryz.prog pw #[.agg r.vals.toArray] h Q := by
 apply Am
 unfold uX
 refine aU (vs := r.vals) fun t1 h1 f1 e1 o1 => ?_
 have c1 : aY h1 t1 r.vals := o1.cells
 have o1 := aO.ok_fr _ _ _ f1 ok
 have hcap := o1.k16.cap
 refine aH.go (fun n st h' => ∃ i : Nat, st = (i : Int) ∧ i ≤ r.Flow.xs.length ∧ n = r.Flow.xs.length - i ∧ h' = h1 ∧ ∀ f ∈ r.Flow.xs.take i, 1 ≤ f.Op ∧ f.Op ≤ 4) r.Flow.xs.length ⟨0, rfl, by omega, rfl, rfl, by simp⟩ ?_
 rintro n - h2 ⟨i, rfl, hi, rfl, rfl, ha⟩ Kn hK
 have no : Q (.bool false) h2 := hk _ h2 f1 fun h => by cases h
 unfold pi
 refine aC (c1.at (j := 16) rfl) (ifD (fun e => ?_) fun e => ?_)
 ·have hil : i < r.Flow.xs.length := by omega
  refine aC (c1.at (j := 16) rfl) (cL o1.k16 i rfl hil fun ad c _ => ?_)
  rw [Int.toNat_natCast]
  refine aA (c.at0 rfl) (ifD (fun _ => no) fun b1 => aC (c1.at (j := 16) rfl) (cL o1.k16 i rfl hil fun ad c _ => aA (c.at0 rfl) (ifD (fun _ => no) fun b2 => ?_)))
  rw [wr (by omega) (by omega)]
  exact hK (r.Flow.xs.length - (i + 1)) _ _ (by omega) ⟨i + 1, rfl, hil, rfl, rfl, vF hil ha ⟨by omega, by omega⟩⟩
 ·have : i = r.Flow.xs.length := by omega
  subst this
  rw [List.take_length] at ha
  unfold pv
  refine aC (c1.at (j := 4) rfl) (Hs r.SrcPorts o1.k4 fun b h3 f3 => ⟨b, rfl, ifB (fun _ => ?_) fun _ => hk _ h3 (f1.trans f3) fun h => by cases h⟩)
  have c3 := c1.fr0 f3
  have o3 := aO.ok_fr _ _ _ f3 o1
  refine aC (c3.at (j := 5) rfl) (Hs r.DstPorts o3.k5 fun b h4 f4 => ⟨b, rfl, ifB (fun _ => ?_) fun _ => hk _ h4 ((f1.trans f3).trans f4) fun h => by cases h⟩)
  have c4 := c3.fr0 f4
  refine aA (c4.at (j := 17) rfl) (aA (c4.at (j := 18) rfl) (aA (c4.at (j := 19) rfl) (aA (c4.at (j := 20) rfl) ?_)))
  exact Ez r.Threshold fun b h5 f5 => ⟨b, rfl, hk _ h5 (((f1.trans f3).trans f4).trans f5) fun _ => ha⟩
theorem Br [Gh] (l : Sl aN) (o : bH 6 aN.vals aN.ok h l) (hk : ∀ (b : Bool) h', Fr (fun _ => False) h h' → Q (.bool b) h') : aD Tryz.prog lk #[.slice l.p l.xs.length l.cap] h Q := by
 apply zb
 unfold sX
 have hcap := o.cap
 refine aH.go (fun n st h' => ∃ i : Nat, st = (i : Int) ∧ i ≤ l.xs.length ∧ n = l.xs.length - i ∧ Fr (fun _ => False) h h') l.xs.length ⟨0, rfl, by omega, rfl, Fr.refl _ _⟩ ?_
 rintro n - h1 ⟨i, rfl, hi, rfl, f1⟩ Kn hK
 unfold ot
 refine ifD (fun e => ?_) fun _ => hk _ h1 f1
 have hil : i < l.xs.length := by omega
 have ol := bH.fr0 aN.ok_fr f1 o
 refine cL ol i rfl hil fun ad c _ => ?_
 rw [Int.toNat_natCast]
 have nx : ∀ h', Fr (fun _ => False) h1 h' → Kn (wrap .i64 ((i : Int) + 1)) h' := fun h' f => by
  rw [wr (by omega) (by omega)]
  exact hK (l.xs.length - (i + 1)) _ _ (by omega) ⟨i + 1, rfl, hil, rfl, f1.trans f⟩
 refine aT (c.at (j := 1) rfl) (An (fun _ => ?_) fun _ => nx h1 (Fr.refl _ _))
 refine cL ol i rfl hil fun ad c _ => ?_
 have a2 : (ad.add (i * 6)).add 2 = (ad.add (i * 6)).add 2 := rfl
 refine aG (c.at (j := 2) rfl) (aA (c.at (j := 3) rfl) (aA (c.at (j := 4) rfl) (aA (c.at (j := 5) rfl) ?_)))
 exact Cw l.xs[i].Prefix fun b h2 f2 => ⟨b, rfl, ifN (fun _ => hk _ h2 (f1.trans f2)) fun _ => nx h2 f2⟩
theorem Mb [Gh] (l : Sl Cn) (o : bH 7 aI.vals aI.ok h l) (hl : l.xs.length ≤ 1000) (hk : ∀ b : Bool, Q (.bool b) h) : aD Tryz.prog sE #[.slice l.p l.xs.length l.cap] h Q := by
 apply D7
 unfold xH
 refine aH.go (fun n st h' => ∃ i : Nat, st.2 = (i : Int) ∧ i ≤ l.xs.length ∧ n = l.xs.length - i ∧ h' = h) l.xs.length ⟨0, rfl, by omega, rfl, rfl⟩ ?_
 rintro n ⟨x, y⟩ h1 ⟨i, e0, hi, rfl, rfl⟩ Kn hK
 dsimp only at e0
 subst e0
 dsimp only
 unfold sI
 refine ifD (fun e => ?_) fun _ => hk _
 have hil : i < l.xs.length := by omega
 refine cL o i rfl hil fun ad c _ => ?_
 rw [Int.toNat_natCast, wr (x := (i : Int) + 1) (by omega) (by omega)]
 have nx : ∀ z, Kn (z, (i : Int) + 1) h1 := fun z => hK (l.xs.length - (i + 1)) _ _ (by omega) ⟨i + 1, rfl, hil, rfl, rfl⟩
 refine aG (c.at (j := 6) rfl) (ifB (fun _ => ?_) fun _ => nx _)
 exact cL o i rfl hil fun ad c _ => aG (c.at (j := 2) rfl) (ifB (fun _ => hk _) fun _ => nx _)
theorem Ku [Gh] (r : aO) (ok : aO.ok h r) (hk : ∀ (e : Int) h', Fr (fun _ => False) h h' → (e = 0 → Hc r) → Q (.int .i64 e) h') : aD Tryz.prog rG #[.agg r.vals.toArray] h Q := by
 apply Cr
 unfold xp
 refine aU (vs := r.vals) fun t1 h1 f1 e1 o1 => ?_
 have c1 : aY h1 t1 r.vals := o1.cells
 have k1 := aO.ok_fr _ _ _ f1 ok
 clear o1
 have no : ∀ {h'} (e : Int), Fr (fun _ => False) h1 h' → e ≠ 0 → Q (.int .i64 e) h' := fun e f he => hk e _ (f1.trans f) fun h => absurd h he
 refine (aA (c1.at0 rfl) (aA (c1.at rfl) (aC (c1.at rfl) (aC (c1.at rfl) (aC (c1.at rfl) (aC (c1.at rfl) (aG (c1.at rfl) (aA (c1.at rfl) (aA (c1.at rfl) (aA (c1.at rfl) (aT (c1.at rfl) (aA (c1.at rfl) (aA (c1.at rfl) (aC (c1.at rfl) (aC (c1.at rfl) (aC (c1.at rfl) (aC (c1.at rfl) (aA (c1.at rfl) (aA (c1.at rfl) (aA (c1.at rfl) (aA (c1.at rfl) ?_)))))))))))))))))))))
 refine Lg r fun b h2 f2 hb1 => ⟨b, rfl, ifN (fun _ => no _ f2 (by decide)) fun b1 => ?_⟩
 have c2 := c1.fr0 f2
 refine (aA (c2.at0 rfl) (aA (c2.at rfl) (aC (c2.at rfl) (aC (c2.at rfl) (aC (c2.at rfl) (aC (c2.at rfl) (aG (c2.at rfl) (aA (c2.at rfl) (aA (c2.at rfl) (aA (c2.at rfl) (aT (c2.at rfl) (aA (c2.at rfl) (aA (c2.at rfl) (aC (c2.at rfl) (aC (c2.at rfl) (aC (c2.at rfl) (aC (c2.at rfl) (aA (c2.at rfl) (aA (c2.at rfl) (aA (c2.at rfl) (aA (c2.at rfl) ?_)))))))))))))))))))))
 refine Lx r fun b h3 f3 => ⟨b, rfl, ifN (fun _ => no _ (f2.trans f3) (by decide)) fun b2 => ?_⟩
 have f13 := f2.trans f3
 have c3 := c2.fr0 f3
 refine (aA (c3.at0 rfl) (aA (c3.at rfl) (aC (c3.at rfl) (aC (c3.at rfl) (aC (c3.at rfl) (aC (c3.at rfl) (aG (c3.at rfl) (aA (c3.at rfl) (aA (c3.at rfl) (aA (c3.at rfl) (aT (c3.at rfl) (aA (c3.at rfl) (aA (c3.at rfl) (aC (c3.at rfl) (aC (c3.at rfl) (aC (c3.at rfl) (aC (c3.at rfl) (aA (c3.at rfl) (aA (c3.at rfl) (aA (c3.at rfl) (aA (c3.at rfl) ?_)))))))))))))))))))))
 refine KW r fun b h4 f4 hb3 => ⟨b, rfl, ifN (fun _ => no _ (f13.trans f4) (by decide)) fun b3 => ?_⟩
 have f14 := f13.trans f4
 have c4 := c3.fr0 f4
 have k4 := aO.ok_fr _ _ _ f14 k1
 refine aC (c4.at (j := 2) rfl) (zT r.Src k4.k2 fun b => ⟨b, rfl, ifN (fun _ => no _ f14 (by decide)) fun _ => ?_⟩)
 refine aC (c4.at (j := 3) rfl) (zT r.Dst k4.k3 fun b => ⟨b, rfl, ifN (fun _ => no _ f14 (by decide)) fun _ => ?_⟩)
 refine aC (c4.at (j := 4) rfl) (zU r.SrcPorts k4.k4 fun b => ⟨b, rfl, ifN (fun _ => no _ f14 (by decide)) fun _ => ?_⟩)
 refine aC (c4.at (j := 5) rfl) (zU r.DstPorts k4.k5 fun b => ⟨b, rfl, ifN (fun _ => no _ f14 (by decide)) fun _ => ?_⟩)
 refine aC (c4.at (j := 16) rfl) (EF r.Flow k4.k16 fun b hb4 => ⟨b, rfl, ifN (fun _ => no _ f14 (by decide)) fun b4 => ?_⟩)
 have hs := hb3 b3
 refine aH.go (fun n st h' => ∃ i : Nat, st = (i : Int) ∧ i ≤ r.Transforms.xs.length ∧ n = r.Transforms.xs.length - i ∧ h' = h4 ∧ ∀ x ∈ r.Transforms.xs.take i, 1 ≤ x ∧ x ≤ 6) r.Transforms.xs.length ⟨0, rfl, by omega, rfl, rfl, by simp⟩ ?_
 rintro n - h5 ⟨i, rfl, hi, rfl, rfl, ha⟩ Kn hK
 unfold ry
 refine aC (c4.at (j := 13) rfl) (ifD (fun e => ?_) fun e => ?_)
 ·have hil : i < r.Transforms.xs.length := by omega
  refine aC (c4.at (j := 13) rfl) (cL k4.k13 i rfl hil fun ad c _ => ?_)
  rw [Int.toNat_natCast]
  refine aA (c.at0 rfl) (ifD (fun _ => no _ f14 (by decide)) fun b5 => aC (c4.at (j := 13) rfl) (cL k4.k13 i rfl hil fun ad c _ => aA (c.at0 rfl) (ifD (fun _ => no _ f14 (by decide)) fun b6 => ?_)))
  rw [wr (by omega) (by omega)]
  exact hK (r.Transforms.xs.length - (i + 1)) _ _ (by omega) ⟨i + 1, rfl, hil, rfl, rfl, vF hil ha ⟨by omega, by omega⟩⟩
 have hit : i = r.Transforms.xs.length := by omega
 subst hit
 rw [List.take_length] at ha
 unfold ri
 refine aC (c4.at (j := 14) rfl) (FV r.Contents k4.k14 fun e h6 f6 hc => ⟨e, rfl, lu (fun he => no _ (f14.trans f6) he) fun he => ?_⟩)
 have f16 := f14.trans f6
 have c6 := c4.fr0 f6
 have k6 := aO.ok_fr _ _ _ f6 k4
 refine aC (c6.at (j := 15) rfl) (JX r.Tests k6.k15 fun b h7 f7 ht => ⟨b, rfl, ifN (fun _ => no _ (f16.trans f7) (by decide)) fun bt => ?_⟩)
 have f17 := f16.trans f7
 have c7 := c6.fr0 f7
 have k7 := aO.ok_fr _ _ _ f7 k6
 refine (aA (c7.at0 rfl) (aA (c7.at rfl) (aC (c7.at rfl) (aC (c7.at rfl) (aC (c7.at rfl) (aC (c7.at rfl) (aG (c7.at rfl) (aA (c7.at rfl) (aA (c7.at rfl) (aA (c7.at rfl) (aT (c7.at rfl) (aA (c7.at rfl) (aA (c7.at rfl) (aC (c7.at rfl) (aC (c7.at rfl) (aC (c7.at rfl) (aC (c7.at rfl) (aA (c7.at rfl) (aA (c7.at rfl) (aA (c7.at rfl) (aA (c7.at rfl) ?_)))))))))))))))))))))
 refine H2 r k7 fun b h8 f8 hn => ⟨b, rfl, ifN (fun _ => no _ (f17.trans f8) (by decide)) fun bn => ?_⟩
 have f18 := f17.trans f8
 have c8 := c7.fr0 f8
 have k8 := aO.ok_fr _ _ _ f8 k7
 refine aC (c8.at (j := 2) rfl) (Br r.Src k8.k2 fun b h9 f9 => ⟨b, rfl, ifN (fun _ => no _ (f18.trans f9) (by decide)) fun _ => ?_⟩)
 have f19 := f18.trans f9
 have c9 := c8.fr0 f9
 have k9 := aO.ok_fr _ _ _ f9 k8
 refine aC (c9.at (j := 3) rfl) (Br r.Dst k9.k3 fun b h10 f10 => ⟨b, rfl, ifN (fun _ => no _ (f19.trans f10) (by decide)) fun _ => ?_⟩)
 have f110 := f19.trans f10
 have c10 := c9.fr0 f10
 have k10 := aO.ok_fr _ _ _ f10 k9
 refine aC (c10.at (j := 14) rfl) (Mb r.Contents k10.k14 (by omega) fun b => ⟨b, rfl, ifN (fun _ => no _ f110 (by decide)) fun _ => ?_⟩)
 refine aC (c10.at (j := 14) rfl) (aC (c10.at (j := 15) rfl) (ifE (fun _ => no _ f110 (by decide)) fun _ => hk 0 h10 (f1.trans f110) fun _ => ?_))
 obtain ⟨g1, g2, g3, g4, g5, g6⟩ := hb1 b1
 obtain ⟨s1, s2, s3, s4, s5, s6, s7, s8, s9⟩ := hs
 exact ⟨g1, g2, g3, g4, g5, g6, s1, s2, s3, s4, s5, s6, s7, s8, s9, ha, hc he, ht bt, fun f hf => ⟨hb4 b4 f hf, hn bn f hf⟩⟩
end
end Go.Proofs.YtjmfpeiidlpngaaGreatDoor.Au
namespace Go.Proofs.YtjmfpeiidlpngaaGreatDoor
set_option linter.unusedSimpArgs false
set_option linter.unusedVariables false
set_option maxRecDepth 20000
open Go
open Go.IntKind (wrap)
theorem FU : KJ Tryz.prog oF (Bn .i64) := KB Tryz.underlying3
theorem Ml {h : aB} {K : Value → aB → Prop} (hk : K (.bool false) h) : wpH Tryz.prog (zeroValue zu) K h := DX (i := Tryz.t4) (by kernel_rfl) (by kernel_rfl) hk
theorem JR : gU Tryz.prog nE cA Tryz.t65 (.agg #[.int .i64 0, .int .i64 0, .slice none 0 0, .slice none 0 0, .slice none 0 0, .slice none 0 0, .bool false, .int .i64 0, .int .i64 0, .int .i64 0, .string (bs []), .int .i64 0, .int .i64 0, .slice none 0 0, .slice none 0 0, .slice none 0 0, .slice none 0 0, .int .i64 0, .int .i64 0, .int .i64 0, .int .i64 0, .slice none 0 0, .slice none 0 0, .slice none 0 0, .slice none 0 0]) := ⟨Tryz.underlying22, by kernel_rfl, by kernel_rfl, by kernel_rfl, by decide +kernel⟩
theorem KH : gU Tryz.prog pJ cK Tryz.t61 (.agg #[.int .i64 0, .int .i64 0, .slice none 0 0, .slice none 0 0, .slice none 0 0, .slice none 0 0, .bool false, .int .i64 0, .int .i64 0, .int .i64 0, .string (bs []), .int .i64 0, .int .i64 0, .slice none 0 0, .slice none 0 0, .slice none 0 0, .slice none 0 0, .int .i64 0, .int .i64 0, .int .i64 0, .int .i64 0]) := ⟨Tryz.underlying80, by kernel_rfl, by kernel_rfl, by kernel_rfl, by decide +kernel⟩
theorem Dj (x : aE) : (aE.vals x).length = 25 := rfl
theorem FA (x : aE) : (aE.vals x).all eH = true := rfl
theorem Ea (x : aO) : (aO.vals x).length = 21 := rfl
theorem H5 (x : aO) : (aO.vals x).all eH = true := rfl
abbrev Bd := aE
def oV (b : Bd) : Int := b.Rule.Sid
structure CpI (h0 : aB) (A : Addr) (m seen : Nat) (l : List Bd) (h : aB) (i : Nat) (p1 : Option Addr) (c1 : Nat) (p2 : Option Addr) (c2 : Nat) (bs : List Bd) : Prop where
 le : i ≤ l.length
 fr : Fr (fun _ => False) h0 h
 own : Own h A [.slice p1 i c1, .map (some m)] pE
 r1 : Row 25 aE.vals h p1 c1 bs
 r2 : Row 21 aO.vals h p2 c2 (bs.map (·.Rule))
 mm : wH (Bn .i64) h m []
 ms : wH (Bn .i64) h seen ((l.take i).map fun b => (oV b, .bool true))
 wp : bs.map wipe = (l.take i).map wipe
 st : ∀ b ∈ bs, St (fun x => h0.size ≤ x ∧ x ≠ A.block ∧ x ≠ m ∧ x ≠ seen ∧ ¬ InA p1 x ∧ ¬ InA p2 x) h b
 n1 : ∀ x, InA p1 x → h0.size ≤ x ∧ x ≠ A.block ∧ x ≠ m ∧ x ≠ seen ∧ ¬ InA p2 x
 n2 : ∀ x, InA p2 x → h0.size ≤ x ∧ x ≠ A.block ∧ x ≠ m ∧ x ≠ seen
 nA : h0.size ≤ A.block ∧ h0.size ≤ m ∧ h0.size ≤ seen ∧ A.block ≠ m ∧ A.block ≠ seen ∧ m ≠ seen
 nd : ((l.take i).map oV).Nodup
theorem CpI.len {h0 : aB} {A : Addr} {m seen : Nat} {l : List Bd} {h : aB} {i : Nat} {p1 : Option Addr} {c1 : Nat} {p2 : Option Addr} {c2 : Nat} {bs : List Bd} (C : CpI h0 A m seen l h i p1 c1 p2 c2 bs) : bs.length = i := by
 have h1 := congrArg List.length C.wp
 have h2 := C.le
 simp at h1; omega
set_option maxHeartbeats 1000000 in
theorem Ir [Gh] (l : Sl Bd) {h0 : aB} (ok : bH 25 aE.vals aE.ok h0 l) (hl : l.xs.length ≤ 40) (L : ∀ b ∈ l.xs, L0 b) {A : Addr} {m seen : Nat} {h : aB} (C0 : CpI h0 A m seen l.xs h 0 none 0 none 0 []) {Q : Value → aB → Prop}
  (hbad : ∀ h', Fr (fun _ => False) h0 h' → ¬ (l.xs.map oV).Nodup → Q (.tuple #[.pointer none, .int .i64 7]) h')
  (hk : ∀ h' p1 c1 p2 c2 bs, CpI h0 A m seen l.xs h' l.xs.length p1 c1 p2 c2 bs → ka A p2 l.xs.length c2 Q h') :
  aH (fun (s : (Option Addr) × Nat × Nat × Int) h Kn => j5 A (some seen) l.p l.xs.length l.cap ((l.xs.length : Nat) : Int) Q s.1 s.2.1 s.2.2.1 s.2.2.2 h Kn) (none, 0, 0, 0) h := by
 refine aH.mk (fun st h' => ∃ (i : Nat) (p1 : Option Addr) (c1 : Nat) (p2 : Option Addr) (c2 : Nat) (bs : List Bd), st = (p2, i, c2, (i : Int)) ∧ CpI h0 A m seen l.xs h' i p1 c1 p2 c2 bs)
  (fun st _ => l.xs.length - st.2.2.2.toNat) ⟨0, none, 0, none, 0, [], rfl, C0⟩ ?_
 rintro st h1 ⟨i, p1, c1, p2, c2, bs, rfl, C⟩
 dsimp only
 have hil := C.le
 have clen := C.len
 subst clen
 unfold j5
 refine ifD (fun hlt => ?_) (fun hge => ?_)
 ·have hi : bs.length < l.xs.length := by omega
  have ok1 := bH.fr0 aE.ok_fr C.fr ok
  have Lb := L _ (List.getElem_mem hi)
  refine cL ok1 bs.length rfl hi fun ad cc okr => ?_
  rw [Int.toNat_natCast]
  refine (aA (cc.at0 rfl) (aA (cc.at rfl) (aC (cc.at rfl) (aC (cc.at rfl) (aC (cc.at rfl) (aC (cc.at rfl) (aG (cc.at rfl) (aA (cc.at rfl) (aA (cc.at rfl) (aA (cc.at rfl) (aT (cc.at rfl) (aA (cc.at rfl) (aA (cc.at rfl) (aC (cc.at rfl) (aC (cc.at rfl) (aC (cc.at rfl) (aC (cc.at rfl) (aA (cc.at rfl) (aA (cc.at rfl) (aA (cc.at rfl) (aA (cc.at rfl) (aC (cc.at rfl) (aC (cc.at rfl) (aC (cc.at rfl) (aC (cc.at rfl) ?_)))))))))))))))))))))))))
  refine oG rfl rfl fun t8 h2 f2 ht8 o8 => ?_
  have zA := C.own.lt
  have zm := C.mm.lt
  have zs := C.ms.lt
  have z2 := f2.size
  refine aA (o8.cells.at (j := 7) rfl) ?_
  refine yC FU Tryz.underlying79 Ml (C.ms.fr f2 id) (oV l.xs[bs.length]) false ?_
  rw [if_neg (by decide)]
  have etake : l.xs.take (bs.length + 1) = l.xs.take bs.length ++ [l.xs[bs.length]] := by rw [List.take_append_getElem]
  cases hg : pT ((l.xs.take bs.length).map fun b => (oV b, Value.bool true)) (oV l.xs[bs.length]) with
  | some v =>
   have hm := HZ hg
   obtain ⟨b, hb, e⟩ := List.mem_map.1 hm
   simp only [Prod.mk.injEq] at e
   obtain ⟨e1, e2⟩ := e
   refine ⟨true, by rw [← e2]; rfl, ?_⟩
   rw [if_pos rfl]
   refine hbad h2 (C.fr.trans f2) fun nd => ?_
   have nd2 : ((l.xs.take (bs.length + 1)).map oV).Nodup := nd.sublist ((List.take_sublist _ _).map _)
   rw [etake, List.map_append, List.nodup_append] at nd2
   exact nd2.2.2 _ (List.mem_map_of_mem hb) _ (by simp) e1
  | none =>
   have hn := H9 hg
   refine ⟨false, rfl, ?_⟩
   rw [if_neg (by decide)]
   refine aA (o8.cells.at (j := 7) rfl) ?_
   refine Dh FU Tryz.underlying79 (C.ms.fr f2 id) (oV l.xs[bs.length]) (.bool true) fun h3 f3 s3 M3 => ?_
   rw [K5 hn] at M3
   have z3 := f3.size
   have o83 := o8.fr f3 (by omega)
   refine (aA (o83.cells.at0 rfl) (aA (o83.cells.at rfl) (aC (o83.cells.at rfl) (aC (o83.cells.at rfl) (aC (o83.cells.at rfl) (aC (o83.cells.at rfl) (aG (o83.cells.at rfl) (aA (o83.cells.at rfl) (aA (o83.cells.at rfl) (aA (o83.cells.at rfl) (aT (o83.cells.at rfl) (aA (o83.cells.at rfl) (aA (o83.cells.at rfl) (aC (o83.cells.at rfl) (aC (o83.cells.at rfl) (aC (o83.cells.at rfl) (aC (o83.cells.at rfl) (aA (o83.cells.at rfl) (aA (o83.cells.at rfl) (aA (o83.cells.at rfl) (aA (o83.cells.at rfl) (aC (o83.cells.at rfl) (aC (o83.cells.at rfl) (aC (o83.cells.at rfl) (aC (o83.cells.at rfl) ?_)))))))))))))))))))))))))
   have C3fr : Fr (fun _ => False) h0 h3 := (C.fr.trans f2).tr f3 fun x hx hh => by have := C.nA; omega
   refine J3 l.xs[bs.length] (aE.ok_fr _ _ _ C3fr (by obtain ⟨_, _, _, o⟩ := ok.at_ bs.length hi; exact o)) Lb fun b' h4 f4 S4 w4 => ⟨_, _, _, _, _, _, _, _, _, _, _, _, _, _, _, _, _, _, _, _, _, _, _, _, _, _, _, _, _, _, _, _, _, _, _, _, _, _, _, _, _, _, _, _, _, _, _, _, _, rfl, ?_⟩
   have z4 := f4.size
   refine oG rfl rfl fun t9 h5 f5 ht9 o9 => ?_
   have z5 := f5.size
   have A5 : Own h5 A _ _ := (((C.own.fr f2 id).fr f3 (fun e => C.nA.2.2.2.2.1 e)).fr f4 id).fr f5 id
   refine aC (A5.cells.at0 rfl) ?_
   refine (aA (o9.cells.at0 rfl) (aA (o9.cells.at rfl) (aC (o9.cells.at rfl) (aC (o9.cells.at rfl) (aC (o9.cells.at rfl) (aC (o9.cells.at rfl) (aG (o9.cells.at rfl) (aA (o9.cells.at rfl) (aA (o9.cells.at rfl) (aA (o9.cells.at rfl) (aT (o9.cells.at rfl) (aA (o9.cells.at rfl) (aA (o9.cells.at rfl) (aC (o9.cells.at rfl) (aC (o9.cells.at rfl) (aC (o9.cells.at rfl) (aC (o9.cells.at rfl) (aA (o9.cells.at rfl) (aA (o9.cells.at rfl) (aA (o9.cells.at rfl) (aA (o9.cells.at rfl) (aC (o9.cells.at rfl) (aC (o9.cells.at rfl) (aC (o9.cells.at rfl) (aC (o9.cells.at rfl) ?_)))))))))))))))))))))))))
   refine aU (vs := b'.vals) fun t44 h6 f6 e6 o44 => ?_
   have z6 := f6.size
   have A6 := A5.fr f6 id
   refine ⟨aC (A6.cells.at0 rfl) rfl, ?_⟩
   have Rb : Row 25 aE.vals h6 p1 c1 bs := ((((C.r1.fr f2 fun _ _ => id).fr f3 fun x hx hh => (C.n1 x hx).2.2.2.1 hh).fr f4 fun _ _ => id).fr f5 fun _ _ => id).fr f6 fun _ _ => id
   have Rr : Row 21 aO.vals h6 p2 c2 (bs.map (·.Rule)) := ((((C.r2.fr f2 fun _ _ => id).fr f3 fun x hx hh => (C.n2 x hx).2.2.2 hh).fr f4 fun _ _ => id).fr f5 fun _ _ => id).fr f6 fun _ _ => id
   refine Rb.app JR Tryz.underlying22 (by intro k e; cases e) (by kernel_rfl) (by decide +kernel) Dj FA o44 1 (by omega) fun p1' c1' h7 R1' f7 hn1 => ⟨_, _, _, rfl, ?_⟩
   have z7 := f7.size
   have hA1 : ¬ InA p1 A.block := fun hh => (C.n1 _ hh).2.1 rfl
   have lp1 : ∀ x, InA p1 x → x < h1.size := fun x hx => C.r1.lt hx
   have lp2 : ∀ x, InA p2 x → x < h1.size := fun x hx => C.r2.lt hx
   refine oi (A6.fr f7 hA1) (by show 0 < 2; omega) rfl fun h8 f8 z8 o8A => ?_
   have z8' := f8.size
   have o98 : Own h8 t9 _ _ := (((o9.fr f6 id)).fr f7 fun hh => by have := lp1 _ hh; omega).fr f8 (by omega)
   refine (aA (o98.cells.at0 rfl) (aA (o98.cells.at rfl) (aC (o98.cells.at rfl) (aC (o98.cells.at rfl) (aC (o98.cells.at rfl) (aC (o98.cells.at rfl) (aG (o98.cells.at rfl) (aA (o98.cells.at rfl) (aA (o98.cells.at rfl) (aA (o98.cells.at rfl) (aT (o98.cells.at rfl) (aA (o98.cells.at rfl) (aA (o98.cells.at rfl) (aC (o98.cells.at rfl) (aC (o98.cells.at rfl) (aC (o98.cells.at rfl) (aC (o98.cells.at rfl) (aA (o98.cells.at rfl) (aA (o98.cells.at rfl) (aA (o98.cells.at rfl) (aA (o98.cells.at rfl) ?_)))))))))))))))))))))
   refine aU (vs := b'.Rule.vals) fun t51 h9 f9 e9 o51 => ?_
   have z9 := f9.size
   have R2 : Row 21 aO.vals h9 p2 c2 (bs.map (·.Rule)) := ((Rr.fr f7 fun x hx hh => (C.n1 x hh).2.2.2.2 hx).fr f8 fun x hx hh => (C.n2 x hx).2.1 hh).fr f9 fun _ _ => id
   rw [show (Value.slice p2 bs.length c2) = .slice p2 (bs.map (·.Rule)).length c2 by rw [List.length_map]]
   refine R2.app KH Tryz.underlying80 (by intro k e; cases e) (by kernel_rfl) (by decide +kernel) Ea H5 o51 1 (by rw [List.length_map]; omega) fun p2' c2' h10 R2' f10 hn2 => ⟨_, _, _, rfl, ?_⟩
   have z10 := f10.size
   rw [wr (by omega) (by omega)]
   have F6 : Fr (fun x => x = seen) h1 h6 := ((((f2.mono fun _ => False.elim).trans f3).trans (f4.mono fun _ => False.elim)).trans (f5.mono fun _ => False.elim)).trans (f6.mono fun _ => False.elim)
   have F10 : Fr (fun x => x = seen ∨ InA p1 x ∨ x = A.block ∨ InA p2 x) h1 h10 := ((((F6.mono fun _ => .inl).trans (f7.mono fun _ hh => .inr (.inl hh))).trans (f8.mono fun _ hh => .inr (.inr (.inl hh)))).trans (f9.mono fun _ => False.elim)).trans (f10.mono fun _ hh => .inr (.inr (.inr hh)))
   have new1 : ∀ x, InA p1' x → InA p1 x ∨ h6.size ≤ x := hn1
   have hlen : (bs ++ [b']).length = bs.length + 1 := by simp
   have nA := C.nA
   have p1n : ∀ x, InA p1' x → h0.size ≤ x ∧ x ≠ A.block ∧ x ≠ m ∧ x ≠ seen ∧ ¬ InA p2 x := fun x hx => by
    rcases hn1 x hx with hh | hh
    ·exact C.n1 x hh
    ·have := C.fr.size
     exact ⟨by omega, by omega, by omega, by omega, fun h2 => by have := lp2 x h2; omega⟩
   have p2n : ∀ x, InA p2' x → h0.size ≤ x ∧ x ≠ A.block ∧ x ≠ m ∧ x ≠ seen ∧ (InA p2 x ∨ h9.size ≤ x) := fun x hx => by
    rcases hn2 x hx with hh | hh
    ·have := C.n2 x hh; exact ⟨this.1, this.2.1, this.2.2.1, this.2.2.2, .inl hh⟩
    ·have := C.fr.size
     exact ⟨by omega, by omega, by omega, by omega, .inr hh⟩
   refine ⟨⟨bs.length + 1, p1', c1', p2', c2', bs ++ [b'], by simp, ?_⟩, by dsimp only; omega⟩
   refine ⟨by omega, C.fr.tr F10 fun x hx hh => ?_, ?_, ?_, ?_, ?_, ?_, ?_, ?_, ?_, ?_, C.nA, ?_⟩
   ·rcases hh with hh | hh | hh | hh
    ·omega
    ·have := C.n1 x hh; omega
    ·omega
    ·have := C.n2 x hh; omega
   ·have o8A' := (o8A.fr f9 id).fr f10 fun hh => (C.n2 _ hh).2.1 rfl
    rw [List.length_append, List.length_singleton] at o8A'
    exact o8A'
   ·exact ((R1'.fr f8 fun x hx hh => (p1n x hx).2.1 hh).fr f9 fun _ _ => id).fr f10 fun x hx hh => (p1n x hx).2.2.2.2 hh
   ·rw [List.map_append]; exact R2'
   ·exact C.mm.fr F10 fun hh => by
     rcases hh with hh | hh | hh | hh
     ·omega
     ·have := C.n1 _ hh; omega
     ·omega
     ·have := C.n2 _ hh; omega
   ·rw [etake, List.map_append]
    exact (((((((M3.fr f4 id).fr f5 id).fr f6 id).fr f7 fun hh => by have := C.n1 _ hh; omega).fr f8 (by omega)).fr f9 id).fr f10 fun hh => by have := C.n2 _ hh; omega)
   ·rw [etake, List.map_append, List.map_append, C.wp]; simp [w4]
   ·intro b hb
    rcases List.mem_append.1 hb with hb | hb
    ·refine (C.st b hb).fr F10 (fun x hx ⟨b1, b2, b3, b4, b5, b6⟩ hh => ?_) fun x hx ⟨b1, b2, b3, b4, b5, b6⟩ => ?_
     ·rcases hh with hh | hh | hh | hh
      ·exact b4 hh
      ·exact b5 hh
      ·exact b2 hh
      ·exact b6 hh
     ·refine ⟨b1, b2, b3, b4, fun hh => ?_, fun hh => ?_⟩
      ·rcases hn1 x hh with h | h
       ·exact b5 h
       ·omega
      ·rcases hn2 x hh with h | h
       ·exact b6 h
       ·omega
    ·rw [List.mem_singleton.1 hb]
     have F4 : Fr (fun x => InA p1 x ∨ x = A.block ∨ InA p2 x) h4 h10 := ((((((f5.trans f6).mono fun _ => False.elim).trans (f7.mono fun _ hh => .inl hh)).trans (f8.mono fun _ hh => .inr (.inl hh)))).trans (f9.mono fun _ => False.elim)).trans (f10.mono fun _ hh => .inr (.inr hh))
     have z0 := C.fr.size
     refine S4.fr F4 (fun x hx b1 hh => ?_) fun x hx b1 => ?_
     ·rcases hh with hh | hh | hh
      ·have := lp1 x hh; omega
      ·omega
      ·have := lp2 x hh; omega
     ·refine ⟨by omega, by omega, by omega, by omega, fun hh => ?_, fun hh => ?_⟩
      ·rcases hn1 x hh with h | h
       ·have := lp1 x h; omega
       ·omega
      ·rcases hn2 x hh with h | h
       ·have := lp2 x h; omega
       ·omega
   ·intro x hx
    have := p1n x hx
    refine ⟨this.1, this.2.1, this.2.2.1, this.2.2.2.1, fun hh => ?_⟩
    rcases hn2 x hh with h | h
    ·exact this.2.2.2.2 h
    ·have := R1'.lt hx; omega
   ·intro x hx
    have := p2n x hx
    exact ⟨this.1, this.2.1, this.2.2.1, this.2.2.2.1⟩
   ·rw [etake, List.map_append, List.nodup_append]
    refine ⟨C.nd, by simp, fun a ha b hb e => ?_⟩
    obtain ⟨y, hy, rfl⟩ := List.mem_map.1 ha
    rw [List.map_singleton, List.mem_singleton] at hb
    exact hn _ (List.mem_map_of_mem hy) (e.trans hb)
 ·have : bs.length = l.xs.length := by omega
  rw [this] at C ⊢
  exact hk h1 p1 c1 p2 c2 bs C
end Go.Proofs.YtjmfpeiidlpngaaGreatDoor
namespace Go.Proofs.YtjmfpeiidlpngaaGreatDoor.Au
set_option linter.unusedSimpArgs false
set_option linter.unusedVariables false
set_option maxRecDepth 20000
open Go
open Go.IntKind (wrap)
structure St where
 nx : Nat → Nat
 fa : Nat
 ou : Nat
 eq : Option Addr
 ec : Nat
 en : List Nat
def nxV (f : Nat → Nat) : List Value := (List.range 256).map fun c => .int .u16 (f c)
theorem pH (f : Nat → Nat) : (nxV f).length = 256 := by unfold nxV; simp
def stV (s : St) : List Value := nxV s.nx ++ [.int .u16 s.fa, .int .u16 s.ou, .slice s.eq s.en.length s.ec]
theorem rW (s : St) : (stV s).length = 259 := by unfold stV; rw [List.length_append, pH]; rfl
theorem DF (s : St) {c : Nat} (hc : c < 256) : (stV s)[c]? = some (.int .u16 (s.nx c)) := by
 unfold stV nxV
 rw [List.getElem?_append_left (by simp; exact hc), List.getElem?_map, List.getElem?_range hc]; rfl
theorem Gl (s : St) (j : Nat) : (stV s)[256 + j]? = [Value.int .u16 s.fa, .int .u16 s.ou, .slice s.eq s.en.length s.ec][j]? := by
 unfold stV
 rw [List.getElem?_append_right (by rw [pH]; omega), pH, Nat.add_sub_cancel_left]
theorem Mp (s : St) : (stV s)[256]? = some (.int .u16 s.fa) := Gl s 0
theorem JI (s : St) : (stV s)[257]? = some (.int .u16 s.ou) := Gl s 1
theorem DW (s : St) : (stV s)[258]? = some (.slice s.eq s.en.length s.ec) := Gl s 2
theorem Kg (s : St) : (stV s).all eH = true := by
 unfold stV nxV
 rw [List.all_append, List.all_map]
 rw [Bool.and_eq_true]
 exact ⟨List.all_eq_true.2 fun x _ => rfl, rfl⟩
theorem Dy (f : Nat → Nat) (i : Nat) (h : i < (nxV f).length) : (nxV f)[i] = .int .u16 (f i) := by
 have hi : i < 256 := by rw [pH] at h; exact h
 have : (nxV f)[i]? = some (.int .u16 (f i)) := by unfold nxV; rw [List.getElem?_map, List.getElem?_range hi]; rfl
 exact (List.getElem?_eq_some_iff.1 this).2
def wN (f : Nat → Nat) (c v : Nat) : Nat → Nat := fun x => if x = c then v else f x
theorem JG (s : St) {c : Nat} (hc : c < 256) (v : Nat) : stV { s with nx := wN s.nx c v } = (stV s).set c (.int .u16 v) := by
 unfold stV
 rw [List.set_append_left _ _ (by rw [pH]; exact hc)]
 congr 1
 apply List.ext_getElem
 ·rw [List.length_set, pH, pH]
 ·intro i h1 h2
  rw [List.getElem_set, Dy, Dy]
  show Value.int .u16 ((wN s.nx c v i : Nat) : Int) = _
  unfold wN
  by_cases h : c = i
  ·rw [if_pos h, if_pos h.symm]
  ·rw [if_neg h, if_neg (fun hh => h hh.symm)]
theorem Gn (s : St) (w : List Value) (j : Nat) (v : Value) : (nxV s.nx ++ w).set (256 + j) v = nxV s.nx ++ w.set j v := by
 rw [List.set_append_right _ _ (by rw [pH]; omega), pH, Nat.add_sub_cancel_left]
theorem L5 (s : St) (v : Nat) : stV { s with fa := v } = (stV s).set 256 (.int .u16 v) := by
 unfold stV; rw [show 256 = 256 + 0 from rfl, Gn]; rfl
theorem Kl (s : St) (v : Nat) : stV { s with ou := v } = (stV s).set 257 (.int .u16 v) := by
 unfold stV; rw [show 257 = 256 + 1 from rfl, Gn]; rfl
theorem Mh (s : St) (q : Option Addr) (c : Nat) (l : List Nat) : stV { s with eq := q, ec := c, en := l } = (stV s).set 258 (.slice q l.length c) := by
 unfold stV; rw [show 258 = 256 + 2 from rfl, Gn]; rfl
def qC : St := ⟨fun _ => 0, 0, 0, none, 0, []⟩
def inV (n : Nat) : List Value := [.int .i64 n]
theorem wB (n : Nat) : (inV n).length = 1 := rfl
set_option maxRecDepth 100000 in
theorem Kj : gU Tryz.prog cH rY Tryz.t204 (.agg (stV qC).toArray) :=
 ⟨Tryz.underlying165, by kernel_rfl, by kernel_rfl, by kernel_rfl, by decide +kernel⟩
theorem rq : gU Tryz.prog bG oF Tryz.t3 (.int .i64 0) := ⟨Tryz.underlying46, by kernel_rfl, by kernel_rfl, by kernel_rfl, by decide⟩
abbrev Tag := Nat → Nat
def upT (o : Tag) (n t : Nat) : Tag := fun x => if x < n then o x else t
theorem dX {o : Tag} {n t x : Nat} (h : x < n) : upT o n t x = o x := if_pos h
theorem kf {o : Tag} {n t x : Nat} (h : n ≤ x) : upT o n t x = t := if_neg (by omega)
def Old (h : aB) (o o' : Tag) : Prop := ∀ x, x < h.size → o' x = o x
theorem Old.refl (h : aB) (o : Tag) : Old h o o := fun _ _ => rfl
theorem Old.up {h : aB} {o : Tag} {n t : Nat} (hn : h.size ≤ n) : Old h o (upT o n t) := fun x hx => dX (by omega)
structure jZ (o : Tag) (k : Nat) (h : aB) (a : Addr) (sg : List St) (pq : Option Addr) (pn pc : Nat) : Prop where
 ex : ∃ q c, Own h a [.slice q sg.length c, .slice pq pn pc] kO ∧ Row 259 stV h q c sg ∧ ∀ x, InA q x → o x = k + 2
 ends : ∀ i (hi : i < sg.length), Row 1 inV h sg[i].eq sg[i].ec sg[i].en ∧ ∀ x, InA sg[i].eq x → o x = k + 3 + i
 tag : o a.block = k + 1
section
variable {o o' : Tag} {k : Nat} {h h' : aB} {R : Nat → Prop} {a : Addr} {sg : List St} {pq : Option Addr} {pn pc : Nat}
theorem jZ.lt (A : jZ o k h a sg pq pn pc) : a.block < h.size := by obtain ⟨q, c, ow, _⟩ := A.ex; exact ow.lt
theorem jZ.fr (A : jZ o k h a sg pq pn pc) (f : Fr R h h') (hR : ∀ x, x < h.size → R x → o x ≤ k ∨ k + 3 + sg.length ≤ o x) (ho : Old h o o') : jZ o' k h' a sg pq pn pc := by
 obtain ⟨q, c, ow, Q, hq⟩ := A.ex
 have tg := A.tag
 refine ⟨⟨q, c, ow.fr f fun hr => by have := hR _ ow.lt hr; omega, Q.fr f fun x hx hr => by have := hR _ (Q.lt hx) hr; have := hq x hx; omega, fun x hx => by rw [ho x (Q.lt hx)]; exact hq x hx⟩, fun i hi => ?_, by rw [ho _ ow.lt]; exact tg⟩
 obtain ⟨E, he⟩ := A.ends i hi
 exact ⟨E.fr f fun x hx hr => by have := hR _ (E.lt hx) hr; have := he x hx; omega, fun x hx => by rw [ho x (E.lt hx)]; exact he x hx⟩
theorem jZ.fr0 (A : jZ o k h a sg pq pn pc) (f : Fr (fun _ => False) h h') : jZ o k h' a sg pq pn pc := A.fr f (fun _ _ h => h.elim) (Old.refl _ _)
theorem jZ.cell (A : jZ o k h a sg pq pn pc) : ∃ q c, hcell h a = some (.slice q sg.length c) ∧ (∀ i (hi : i < sg.length), ∃ ad, q = some ad ∧ aY h (ad.add (i * 259)) (stV sg[i])) := by
 obtain ⟨q, c, ow, Q, hq⟩ := A.ex
 exact ⟨q, c, ow.cells.at0 rfl, fun i hi => Q.cellsAt rW (by omega) i hi⟩
theorem jZ.put (A : jZ o k h a sg pq pn pc) {q : Option Addr} {c : Nat} (hc : hcell h a = some (.slice q sg.length c)) {ad : Addr} (hq : q = some ad) (i : Nat) (hi : i < sg.length) {j : Nat} (hj : j < 259) {v : Value} (hv : eH v = true) (e' : St) (he : stV e' = (stV sg[i]).set j v) (h1 : e'.eq = sg[i].eq) (h2 : e'.ec = sg[i].ec) (h3 : e'.en = sg[i].en) {K : aB → Prop}
  (hk : ∀ h', Fr (fun x => o x = k + 2) h h' → jZ o k h' a (sg.set i e') pq pn pc → K h') : st1 h ((ad.add (i * 259)).add j) v K := by
 obtain ⟨q', c', ow, Q, hq'⟩ := A.ex
 have tg := A.tag
 have e := hc.symm.trans (ow.cells.at0 rfl)
 simp only [Option.some.injEq, Value.slice.injEq] at e
 obtain ⟨rfl, _, rfl⟩ := e
 refine Q.set1 rW i hi hq hj hv he fun h5 f5 Q5 => ?_
 have F : Fr (fun x => o x = k + 2) h h5 := f5.mono fun x hx => hq' x hx
 refine hk h5 F ⟨⟨q, c, ?_, Q5, hq'⟩, fun m hm => ?_, tg⟩
 ·have := ow.fr F (by omega)
  rw [List.length_set]; exact this
 ·rw [List.length_set] at hm
  obtain ⟨E, hE⟩ := A.ends m hm
  have E5 := E.fr F fun x hx hh => by have := hE x hx; omega
  rw [List.getElem_set]
  split
  ·rename_i him
   subst him
   rw [h1, h2, h3]; exact ⟨E5, hE⟩
  ·exact ⟨E5, hE⟩
end
end Go.Proofs.YtjmfpeiidlpngaaGreatDoor.Au
namespace Go.Proofs.YtjmfpeiidlpngaaGreatDoor.Au
set_option linter.unusedSimpArgs false
set_option linter.unusedVariables false
set_option maxRecDepth 20000
open Go
open Go.IntKind (wrap)
section
variable {o o' : Tag} {k : Nat} {h h' : aB} {a : Addr} {sg : List St} {pq : Option Addr} {pn pc : Nat}
theorem jZ.grow [Gh] (A : jZ o k h a sg pq pn pc) {b : Addr} {T : TypeId} (ob : Own h b (stV qC) T) (hl : sg.length ≤ 2 ^ 20) {q : Option Addr} {c : Nat} (hc : hcell h a = some (.slice q sg.length c)) {K : aB → Prop}
  (hk : ∀ o' h', Old h o o' → Fr (fun x => o x = k + 1 ∨ o x = k + 2) h h' → (∀ x, h.size ≤ x → o' x = k + 2) → jZ o' k h' a (sg ++ [qC]) pq pn pc → K h') :
  cQ Tryz.prog .append #[cH, cH] cH #[false, false] #[.slice q sg.length c, .slice (some b) 1 1] h fun v h3 => ∃ t44a : Option Addr, ∃ t44n : Nat, ∃ t44c : Nat, v = .slice t44a t44n t44c ∧ nn (some a) fun t45 => st1 h3 t45 (.slice t44a t44n t44c) K := by
 obtain ⟨q', c', ow, Q, hq⟩ := A.ex
 have tg := A.tag
 have lt := ow.lt
 have e := hc.symm.trans (ow.cells.at0 rfl)
 simp only [Option.some.injEq, Value.slice.injEq] at e
 obtain ⟨rfl, _, rfl⟩ := e
 refine Q.app Kj Tryz.underlying165 (by intro k e; cases e) (by kernel_rfl) (by decide +kernel) rW Kg ob 1 (by omega) fun p2 c2 h2 Q2 f2 hn2 => ⟨_, _, _, rfl, aV ?_⟩
 have ow2 := ow.fr f2 fun hx => by have := hq _ hx; omega
 refine oi ow2 (by simp) rfl fun h3 f3 s3 o3 => ?_
 have ho : Old h o (upT o h.size (k + 2)) := Old.up (Nat.le_refl _)
 have F : Fr (fun x => o x = k + 1 ∨ o x = k + 2) h h3 := (f2.mono fun x hx => .inr (hq x hx)).trans (f3.mono fun x hx => .inl (by subst hx; exact tg))
 have new : ∀ x, InA p2 x → upT o h.size (k + 2) x = k + 2 := fun x hx => by
  rcases hn2 x hx with h | h
  ·rw [dX (Q.lt h)]; exact hq x h
  ·exact kf h
 refine hk _ h3 ho F (fun x hx => kf hx) ⟨⟨p2, c2, o3, Q2.fr f3 fun x hx hb => ?_, new⟩, fun i hi => ?_, by rw [dX lt]; exact tg⟩
 ·subst hb
  have := new _ hx
  rw [dX lt] at this; omega
 ·by_cases hlt : i < sg.length
  ·rw [List.getElem_append_left hlt]
   obtain ⟨E, hE⟩ := A.ends i hlt
   exact ⟨E.fr F fun x hx hb => by have := hE x hx; omega, fun x hx => by rw [dX (E.lt hx)]; exact hE x hx⟩
  ·have : i = sg.length := by rw [List.length_append, List.length_singleton] at hi; omega
   subst this
   simp only [List.getElem_concat_length]
   exact ⟨Row.nil, fun x hx => (cU hx).elim⟩
theorem jZ.addEnd [Gh] (A : jZ o k h a sg pq pn pc) (i : Nat) (hi : i < sg.length) (e : Nat) {b : Addr} {T : TypeId} (ob : Own h b (inV e) T) (hl : sg[i].en.length ≤ 2 ^ 20) {q : Option Addr} {c : Nat} (hc : hcell h a = some (.slice q sg.length c)) {K : aB → Prop}
  (hk : ∀ o' h' q' c', Old h o o' → Fr (fun x => o x = k + 2 ∨ o x = k + 3 + i) h h' → (∀ x, h.size ≤ x → o' x = k + 3 + i) → jZ o' k h' a (sg.set i { sg[i] with eq := q', ec := c', en := sg[i].en ++ [e] }) pq pn pc → K h') :
  cQ Tryz.prog .append #[bG, bG] bG #[false, false] #[.slice sg[i].eq sg[i].en.length sg[i].ec, .slice (some b) 1 1] h fun v h7 => ∃ t75a : Option Addr, ∃ t75n : Nat, ∃ t75c : Nat, v = .slice t75a t75n t75c ∧ (ldL h7 a fun t963a t963n t963c => (.slice t963a t963n t963c : Value) = .slice q sg.length c) ∧ bO (i : Int) sg.length (nn q fun t76 => st1 h7 (Addr.add (Addr.add t76 (i * 259)) 258) (.slice t75a t75n t75c) K) := by
 obtain ⟨q', c', ow, Q, hq⟩ := A.ex
 have tg := A.tag
 have lt := ow.lt
 have e' := hc.symm.trans (ow.cells.at0 rfl)
 simp only [Option.some.injEq, Value.slice.injEq] at e'
 obtain ⟨rfl, _, rfl⟩ := e'
 obtain ⟨E, hE⟩ := A.ends i hi
 refine E.app rq Tryz.underlying46 (by intro k e; cases e) (by kernel_rfl) (by decide +kernel) wB (fun _ => rfl) ob 1 (by omega) fun p2 c2 h2 E2 f2 hn2 => ⟨_, _, _, rfl, ?_⟩
 have ow2 := ow.fr f2 fun hx => by have := hE _ hx; omega
 have Q2 := Q.fr f2 fun x hx hb => by have := hq x hx; have := hE x hb; omega
 refine ⟨⟨q, _, _, ow2.cells.at0 rfl, rfl⟩, ?_⟩
 obtain ⟨ad, had, _⟩ := Q2.cellsAt rW (by omega) i hi
 subst had
 refine bQ i rfl hi (aV ?_)
 refine Q2.set1 rW i hi rfl (j := 258) (by omega) (v := .slice p2 (sg[i].en ++ [e]).length c2) rfl (e' := { sg[i] with eq := p2, ec := c2, en := sg[i].en ++ [e] }) (Mh _ _ _ _) fun h3 f3 Q3 => ?_
 have ho : Old h o (upT o h.size (k + 3 + i)) := Old.up (Nat.le_refl _)
 have F : Fr (fun x => o x = k + 2 ∨ o x = k + 3 + i) h h3 := (f2.mono fun x hx => .inr (hE x hx)).trans (f3.mono fun x hx => .inl (hq x hx))
 have new : ∀ x, InA p2 x → upT o h.size (k + 3 + i) x = k + 3 + i := fun x hx => by
  rcases hn2 x hx with h | h
  ·rw [dX (E.lt h)]; exact hE x h
  ·exact kf h
 refine hk _ h3 p2 c2 ho F (fun x hx => kf hx) ⟨⟨some ad, c, ?_, Q3, fun x hx => by rw [dX (Q.lt hx)]; exact hq x hx⟩, fun m hm => ?_, by rw [dX lt]; exact tg⟩
 ·rw [List.length_set]; exact ow.fr F fun hh => by omega
 ·rw [List.length_set] at hm
  rw [List.getElem_set]
  split
  ·rename_i him
   subst him
   exact ⟨E2.fr f3 fun x hx hb => by have h1 := new x hx; have h2 := hq x hb; have h3 := Q.lt hb; rw [dX h3] at h1; omega, new⟩
  ·rename_i him
   obtain ⟨G, hG⟩ := A.ends m hm
   exact ⟨G.fr F fun x hx hb => by have := hG x hx; omega, fun x hx => by rw [dX (G.lt hx)]; exact hG x hx⟩
end
end Go.Proofs.YtjmfpeiidlpngaaGreatDoor.Au
namespace Go.Proofs.YtjmfpeiidlpngaaGreatDoor.Au
set_option linter.unusedSimpArgs false
set_option linter.unusedVariables false
set_option maxRecDepth 20000
open Go
structure tI (sg : List St) (ws : List Nm) (E : Nm → List Nat) : Prop where
 len : sg.length = ws.length
 nd : ws.Nodup
 z : ws[0]? = some []
 pre : ∀ w c, w ++ [c] ∈ ws → w ∈ ws
 no : ∀ i (hi : i < sg.length) w (c : UInt8), ws[i]? = some w → sg[i].nx c.toNat = 0 → w ++ [c] ∉ ws
 yes : ∀ i (hi : i < sg.length) w (c : UInt8), ws[i]? = some w → sg[i].nx c.toNat ≠ 0 → ws[sg[i].nx c.toNat]? = some (w ++ [c])
 fo : ∀ i (hi : i < sg.length), sg[i].fa = 0 ∧ sg[i].ou = 0
 en : ∀ i (hi : i < sg.length) w, ws[i]? = some w → sg[i].en = E w
 out : ∀ w, w ∉ ws → E w = []
theorem jr {ws : List Nm} (nd : ws.Nodup) {i j : Nat} {w : Nm} (h1 : ws[i]? = some w) (h2 : ws[j]? = some w) : i = j := by
 exact (List.getElem?_inj (List.getElem?_eq_some_iff.1 h1).1 nd).1 (h1.trans h2.symm)
section
variable {sg : List St} {ws : List Nm} {E : Nm → List Nat}
theorem tI.lt (T : tI sg ws E) {i : Nat} {w : Nm} (h : ws[i]? = some w) : i < sg.length := by
 rw [T.len]; exact (List.getElem?_eq_some_iff.1 h).1
theorem tI.mem (T : tI sg ws E) {i : Nat} {w : Nm} (h : ws[i]? = some w) : w ∈ ws := List.mem_of_getElem? h
theorem tI.grow (T : tI sg ws E) {now : Nat} {w : Nm} (hw : ws[now]? = some w) (c : UInt8) (h0 : (sg[now]'(T.lt hw)).nx c.toNat = 0) :
  tI ((sg ++ [qC]).set now { sg[now]'(T.lt hw) with nx := wN (sg[now]'(T.lt hw)).nx c.toNat sg.length }) (ws ++ [w ++ [c]]) E := by
 have hlt := T.lt hw
 have hnew : w ++ [c] ∉ ws := T.no now hlt w c hw h0
 have hlen := T.len
 have hne0 : sg.length ≠ 0 := by omega
 have hat : ∀ i (hi : i < ((sg ++ [qC]).set now { sg[now] with nx := wN sg[now].nx c.toNat sg.length }).length) (h2 : i < sg.length), i ≠ now → ((sg ++ [qC]).set now { sg[now] with nx := wN sg[now].nx c.toNat sg.length })[i] = sg[i] := fun i hi h2 hne => by
  rw [List.getElem_set, if_neg (fun h => hne h.symm), List.getElem_append_left h2]
 have hnow : ∀ (hi : now < ((sg ++ [qC]).set now { sg[now] with nx := wN sg[now].nx c.toNat sg.length }).length), ((sg ++ [qC]).set now { sg[now] with nx := wN sg[now].nx c.toNat sg.length })[now] = { sg[now] with nx := wN sg[now].nx c.toNat sg.length } := fun hi => by
  rw [List.getElem_set, if_pos rfl]
 have hend : ∀ i (hi : i < ((sg ++ [qC]).set now { sg[now] with nx := wN sg[now].nx c.toNat sg.length }).length), ¬ i < sg.length → ((sg ++ [qC]).set now { sg[now] with nx := wN sg[now].nx c.toNat sg.length })[i] = qC ∧ i = sg.length := fun i hi h2 => by
  have hi' : i < sg.length + 1 := by simpa using hi
  have : i = sg.length := by omega
  subst this
  refine ⟨?_, rfl⟩
  rw [List.getElem_set, if_neg (by omega), List.getElem_append_right (by omega)]
  simp
 have hold : ∀ i (h2 : i < sg.length) v, (ws ++ [w ++ [c]])[i]? = some v → ws[i]? = some v := fun i h2 v hv => by
  rw [List.getElem?_append_left (by omega)] at hv; exact hv
 have hext : ∀ i v, ws[i]? = some v → (ws ++ [w ++ [c]])[i]? = some v := fun i v hv => by
  rw [List.getElem?_append_left (List.getElem?_eq_some_iff.1 hv).1]; exact hv
 have hlast : ∀ v, (ws ++ [w ++ [c]])[sg.length]? = some v → v = w ++ [c] := fun v hv => by
  rw [hlen, List.getElem?_append_right (Nat.le_refl _), Nat.sub_self] at hv
  exact (Option.some.inj hv).symm
 have hlast2 : (ws ++ [w ++ [c]])[sg.length]? = some (w ++ [c]) := by
  rw [hlen, List.getElem?_append_right (Nat.le_refl _), Nat.sub_self]; rfl
 have tn : ∀ {x y : UInt8}, x.toNat = y.toNat → x = y := fun h => UInt8.toNat_inj.1 h
 refine ⟨?_, ?_, ?_, ?_, ?_, ?_, ?_, ?_, ?_⟩
 ·rw [List.length_set, List.length_append, List.length_append, hlen]; rfl
 ·exact List.nodup_append.2 ⟨T.nd, by simp, fun x hx y hy hxy => by rw [List.mem_singleton.1 hy] at hxy; rw [hxy] at hx; exact hnew hx⟩
 ·exact hext 0 _ T.z
 ·intro v d hv
  rcases List.mem_append.1 hv with hv | hv
  ·exact List.mem_append_left _ (T.pre v d hv)
  ·obtain ⟨e1, _⟩ := List.append_inj' (List.mem_singleton.1 hv) rfl
   rw [e1]; exact List.mem_append_left _ (T.mem hw)
 ·intro i hi v d hv hz hm
  by_cases h2 : i < sg.length
  ·have hv := hold i h2 v hv
   by_cases hin : i = now
   ·subst hin
    rw [hnow hi] at hz
    have hvw : v = w := Option.some.inj (hv.symm.trans hw)
    subst hvw
    unfold wN at hz
    dsimp only at hz
    by_cases hdc : d.toNat = c.toNat
    ·rw [if_pos hdc] at hz; exact hne0 hz
    ·rw [if_neg hdc] at hz
     rcases List.mem_append.1 hm with hm | hm
     ·exact T.no i h2 _ d hw hz hm
     ·obtain ⟨_, e2⟩ := List.append_inj' (List.mem_singleton.1 hm) rfl
      exact hdc (by rw [(List.cons.inj e2).1])
   ·rw [hat i hi h2 hin] at hz
    rcases List.mem_append.1 hm with hm | hm
    ·exact T.no i h2 v d hv hz hm
    ·obtain ⟨e1, _⟩ := List.append_inj' (List.mem_singleton.1 hm) rfl
     rw [e1] at hv
     exact hin (jr T.nd hv hw)
  ·obtain ⟨_, rfl⟩ := hend i hi h2
   have := hlast v hv
   subst this
   rcases List.mem_append.1 hm with hm | hm
   ·exact hnew (T.pre _ _ hm)
   ·have := congrArg List.length (List.mem_singleton.1 hm)
    simp at this
 ·intro i hi v d hv hz
  by_cases h2 : i < sg.length
  ·have hv := hold i h2 v hv
   by_cases hin : i = now
   ·subst hin
    have hvw : v = w := Option.some.inj (hv.symm.trans hw)
    subst hvw
    rw [hnow hi] at hz ⊢
    unfold wN at hz ⊢
    dsimp only at hz ⊢
    by_cases hdc : d.toNat = c.toNat
    ·rw [if_pos hdc, tn hdc]; exact hlast2
    ·rw [if_neg hdc] at hz ⊢; exact hext _ _ (T.yes i h2 _ d hw hz)
   ·rw [hat i hi h2 hin] at hz ⊢
    exact hext _ _ (T.yes i h2 v d hv hz)
  ·obtain ⟨e, rfl⟩ := hend i hi h2
   rw [e] at hz
   exact absurd rfl hz
 ·intro i hi
  by_cases h2 : i < sg.length
  ·by_cases hin : i = now
   ·subst hin; rw [hnow hi]; exact T.fo i h2
   ·rw [hat i hi h2 hin]; exact T.fo i h2
  ·rw [(hend i hi h2).1]; exact ⟨rfl, rfl⟩
 ·intro i hi v hv
  by_cases h2 : i < sg.length
  ·have hv := hold i h2 v hv
   by_cases hin : i = now
   ·subst hin; rw [hnow hi]; exact T.en i h2 v hv
   ·rw [hat i hi h2 hin]; exact T.en i h2 v hv
  ·obtain ⟨e, rfl⟩ := hend i hi h2
   rw [e, hlast v hv, T.out _ hnew]; rfl
 ·intro v hv
  exact T.out v fun h => hv (List.mem_append_left _ h)
theorem tI.ended (T : tI sg ws E) {now : Nat} {w : Nm} (hw : ws[now]? = some w) (e : Nat) (q : Option Addr) (cq : Nat) :
  tI (sg.set now { sg[now]'(T.lt hw) with eq := q, ec := cq, en := (sg[now]'(T.lt hw)).en ++ [e] }) ws (fun v => if v = w then E v ++ [e] else E v) := by
 have hlt := T.lt hw
 have g : ∀ i (hi : i < (sg.set now { sg[now] with eq := q, ec := cq, en := sg[now].en ++ [e] }).length), (sg.set now { sg[now] with eq := q, ec := cq, en := sg[now].en ++ [e] })[i] = if now = i then { sg[now] with eq := q, ec := cq, en := sg[now].en ++ [e] } else sg[i]'(by rw [List.length_set] at hi; exact hi) := fun i hi => List.getElem_set ..
 refine ⟨by rw [List.length_set]; exact T.len, T.nd, T.z, T.pre, ?_, ?_, ?_, ?_, ?_⟩
 ·intro i hi v d hv hz
  rw [g] at hz
  rw [List.length_set] at hi
  split at hz
  ·rename_i h; subst h; exact T.no _ hi v d hv hz
  ·exact T.no i hi v d hv hz
 ·intro i hi v d hv hz
  rw [g] at hz ⊢
  rw [List.length_set] at hi
  by_cases h : now = i
  ·subst h
   rw [if_pos rfl] at hz ⊢
   exact T.yes _ hi v d hv hz
  ·rw [if_neg h] at hz ⊢; exact T.yes i hi v d hv hz
 ·intro i hi
  rw [g]
  rw [List.length_set] at hi
  split
  ·exact T.fo now hlt
  ·exact T.fo i hi
 ·intro i hi v hv
  rw [g]
  rw [List.length_set] at hi
  by_cases h : now = i
  ·subst h
   have hvw : v = w := Option.some.inj (hv.symm.trans hw)
   rw [if_pos rfl, if_pos hvw]
   show sg[now].en ++ [e] = _
   rw [T.en _ hi v hv]
  ·rw [if_neg h]
   have hvw : v ≠ w := fun h' => h (jr T.nd hw (h' ▸ hv))
   rw [if_neg hvw]; exact T.en i hi v hv
 ·intro v hv
  have hvw : v ≠ w := fun h => hv (by rw [h]; exact T.mem hw)
  show (if v = w then _ else _) = _
  rw [if_neg hvw]; exact T.out v hv
end
end Go.Proofs.YtjmfpeiidlpngaaGreatDoor.Au
namespace Go.Proofs.YtjmfpeiidlpngaaGreatDoor.Au
set_option linter.unusedSimpArgs false
set_option linter.unusedVariables false
set_option maxRecDepth 20000
open Go
open Go.IntKind (wrap)
theorem M2 {h : aB} {cs : Array Value} {vs : List Value} {T : TypeId} {K : Addr → aB → Prop} (e : cs = vs.toArray) (hk : ∀ a h', Fr (fun _ => False) h h' → a.block = h.size → Own h' a vs T → K a h') : alV h (.cells cs T) K := by
 subst e; exact aU hk
theorem Nh {x : Int} (h1 : 0 ≤ x) (h2 : x < 65536) : wrap .u16 x = x := by
 unfold IntKind.wrap IntKind.bits IntKind.signed
 simp only [Bool.false_and, ge_iff_le]
 rw [if_neg (by simp)]
 omega
def AR (o : Tag) (k : Nat) (x : Nat) : Prop := k < o x ∧ o x < k + 70000
theorem H7 (s : Nm) (i : Nat) (hi : i < s.length) : (cF s).take (i + 1) = (cF s).take i ++ [fK s[i]] := by
 rw [CM, CM, show s.take (i + 1) = s.take i ++ [s[i]] by rw [List.take_append_getElem]]
 unfold cF; rw [List.map_append]; rfl
theorem EM {l w : Nm} {i : Nat} (hi : i < l.length) : w <+: l.take (i + 1) ↔ w <+: l.take i ∨ w = l.take (i + 1) := by
 rw [show l.take (i + 1) = l.take i ++ [l[i]] by rw [List.take_append_getElem]]
 rw [List.prefix_concat_iff]
 exact ⟨fun h => h.symm, fun h => h.symm⟩
section
variable {o : Tag} {k : Nat} {h : aB} {a : Addr} {sg : List St} {pq : Option Addr} {pn pc : Nat} {ws : List Nm} {E : Nm → List Nat}
theorem MQ [Gh] (A : jZ o k h a sg pq pn pc) (T : tI sg ws E) (e : Nat) (he : e < 2 ^ 60) (s : Nm) (hN : ws.length + s.length ≤ 40000) (hE : ∀ w, (E w).length ≤ 1000) {Q : Value → aB → Prop}
  (hk : ∀ o' h' sg' ws', Old h o o' → (∀ x, h.size ≤ x → k < o' x ∧ o' x < k + 70000) → Fr (AR o k) h h' → jZ o' k h' a sg' pq pn pc → tI sg' ws' (fun v => if v = cF s then E v ++ [e] else E v) → (∀ w, w ∈ ws' ↔ w ∈ ws ∨ w <+: cF s) → ws'.length ≤ ws.length + s.length → Q (.tuple #[]) h') :
  aD Tryz.prog iO #[.pointer (some a), .int .i64 e, .string (bs s)] h Q := by
 apply rR
 unfold md
 rw [aX]
 have hz0 := A.lt
 refine aH.go (fun n st h' => ∃ (i nw : Nat) (sg' : List St) (ws' : List Nm) (o' : Tag), st.1 = (nw : Int) ∧ st.2 = (i : Int) ∧ i ≤ s.length ∧ n = s.length - i ∧ jZ o' k h' a sg' pq pn pc ∧ tI sg' ws' E ∧ ws'[nw]? = some ((cF s).take i) ∧ (∀ w, w ∈ ws' ↔ w ∈ ws ∨ w <+: (cF s).take i) ∧ ws'.length ≤ ws.length + i ∧ Old h o o' ∧ Fr (AR o k) h h' ∧ (∀ x, h.size ≤ x → x < h'.size → k < o' x ∧ o' x < k + 70000)) s.length
  ⟨0, 0, sg, ws, o, rfl, rfl, by omega, rfl, A, T, by rw [List.take_zero]; exact T.z, fun w => ⟨.inl, fun h => ?_⟩, by omega, Old.refl _ _, Fr.refl _ _, fun x h1 h2 => by omega⟩ ?_
 ·rcases h with h | h
  ·exact h
  ·rw [List.take_zero, List.prefix_nil] at h; rw [h]; exact T.mem T.z
 rintro n ⟨n6, t12⟩ h1 ⟨i, nw, sg1, ws1, o1, hn, ht, hi, rfl, A1, T1, hnw, hmem, hlen, hO1, f1, hr1⟩ Kn hK
 have hn : n6 = (nw : Int) := hn
 have ht : t12 = (i : Int) := ht
 subst hn ht
 dsimp only
 unfold iM
 have hl1 := T1.len
 have hlt := T1.lt hnw
 have z1 := f1.size
 refine ifD (fun e1 => ?_) fun e1 => ?_
 ·have hil : i < s.length := by omega
  refine ixS s i rfl hil ?_
  have hb := jJ s[i]
  refine AE _ hb.1 hb.2 ⟨_, rfl, ?_⟩
  rw [← qN]
  have hc256 : (fK s[i]).toNat < 256 := (fK s[i]).toNat_lt
  have hcn : (bA (fK s[i])).toNat * 1 = (fK s[i]).toNat := by unfold bA; omega
  have hsn := H7 s i hil
  generalize fK s[i] = c at *
  obtain ⟨q, cq, hcell, hcs⟩ := A1.cell
  obtain ⟨ad, hq, ci⟩ := hcs nw hlt
  subst hq
  refine aV (aC hcell (bQ nw rfl hlt (aV (bQ c.toNat rfl hc256 ?_))))
  rw [hcn, Int.toNat_natCast]
  refine aA (ci.at (DF _ hc256)) ?_
  have hpl : i < (cF s).length := by rw [jR]; exact hil
  by_cases h0 : sg1[nw].nx c.toNat = 0
  ·rw [h0]
   refine ifE (fun _ => ?_) fun hh => absurd (by decide) hh
   refine aV (aC hcell (aV (aC hcell ?_)))
   refine M2 (vs := stV qC) (by kernel_rfl) fun t43 h2 f2 e2 o2 => ?_
   have z2 := f2.size
   have A2 : jZ (upT o1 h1.size (k + 2)) k h2 a sg1 pq pn pc := A1.fr f2 (fun _ _ h => h.elim) (Old.up (Nat.le_refl _))
   have hO2 : ∀ x, x < h1.size → upT o1 h1.size (k + 2) x = o1 x := fun x hx => dX hx
   refine A2.grow o2 (by omega) (f2.hcell hcell id) fun o3 h3 hO3 f3 hr3 A3 => aV ?_
   have z3 := f3.size
   obtain ⟨q3, c3, hcell3, hcs3⟩ := A3.cell
   have hlt3 : nw < (sg1 ++ [qC]).length := by rw [List.length_append]; omega
   obtain ⟨ad3, hq3, ci3⟩ := hcs3 nw hlt3
   refine aC hcell3 ?_
   subst hq3
   refine bQ nw rfl hlt3 (aV (bQ c.toNat rfl hc256 ?_))
   rw [Nh (by omega) (by omega)]
   have hget : (sg1 ++ [qC])[nw] = sg1[nw] := List.getElem_append_left hlt
   refine A3.put hcell3 rfl nw hlt3 (j := c.toNat) (by omega) (v := .int .u16 (sg1.length : Nat)) rfl { sg1[nw] with nx := wN sg1[nw].nx c.toNat sg1.length } (by rw [hget]; exact JG _ hc256 _) (by rw [hget]) (by rw [hget]) (by rw [hget]) fun h4 f4 A4 => ?_
   have z4 := f4.size
   rw [wr (by omega) (by omega)]
   have T4 := T1.grow hnw c h0
   have hO13 : Old h o o3 := fun x hx => by rw [hO3 x (by omega), hO2 x (by omega)]; exact hO1 x hx
   refine hK (s.length - (i + 1)) _ _ (by omega) ⟨i + 1, sg1.length, _, _, o3, rfl, rfl, hil, rfl, A4, T4, ?_, fun w => ?_, by rw [List.length_append, List.length_singleton]; omega, hO13, ?_, fun x hx hx4 => ?_⟩
   ·rw [hl1, List.getElem?_append_right (Nat.le_refl _), Nat.sub_self, hsn]; rfl
   ·rw [List.mem_append, hmem, List.mem_singleton, EM hpl, hsn]
    exact ⟨fun h => by rcases h with (h | h) | h; exact .inl h; exact .inr (.inl h); exact .inr (.inr h), fun h => by rcases h with h | h | h; exact .inl (.inl h); exact .inl (.inr h); exact .inr h⟩
   ·refine ((f1.tr f2 fun _ _ h => h.elim).tr f3 fun x hx hh => ?_).tr f4 fun x hx hh => ?_
    ·rw [hO2 x (by omega), hO1 x hx] at hh; unfold AR; omega
    ·rw [hO13 x hx] at hh; unfold AR; omega
   ·by_cases hx2 : x < h2.size
    ·rw [hO3 x hx2]
     by_cases hx1 : x < h1.size
     ·rw [hO2 x hx1]; exact hr1 x hx hx1
     ·rw [kf (by omega)]; omega
    ·rw [hr3 x (by omega)]; omega
  ·have hy := T1.yes nw hlt _ c hnw h0
   have hylt := T1.lt hy
   rw [wr (x := ((sg1[nw].nx c.toNat : Nat) : Int)) (by omega) (by omega)]
   refine ifE (fun hh => absurd (by omega) h0) fun _ => ?_
   rw [wr (by omega) (by omega)]
   refine hK (s.length - (i + 1)) _ _ (by omega) ⟨i + 1, sg1[nw].nx c.toNat, sg1, ws1, o1, rfl, rfl, hil, rfl, A1, T1, by rw [hsn]; exact hy, fun w => ?_, by omega, hO1, f1, hr1⟩
   rw [hmem, EM hpl, hsn]
   refine ⟨fun h => by rcases h with h | h; exact .inl h; exact .inr (.inl h), fun h => ?_⟩
   rcases h with h | h | h
   ·exact .inl h
   ·exact .inr h
   ·subst h
    exact (hmem _).1 (T1.mem hy)
 ·have hie : i = s.length := by omega
  subst hie
  rw [List.take_of_length_le (by rw [jR]; exact Nat.le_refl _)] at hnw hmem
  unfold iL
  obtain ⟨q, cq, hcell, hcs⟩ := A1.cell
  obtain ⟨ad, hq, ci⟩ := hcs nw hlt
  subst hq
  refine aV (aC hcell (aV (aC hcell (bQ nw rfl hlt (aV ?_)))))
  rw [Int.toNat_natCast]
  refine aC (ci.at (DW _)) ?_
  refine aU (vs := inV e) fun t74 h2 f2 e2 o2 => ?_
  have z2 := f2.size
  have A2 : jZ (upT o1 h1.size (k + 2)) k h2 a sg1 pq pn pc := A1.fr f2 (fun _ _ h => h.elim) (Old.up (Nat.le_refl _))
  have hO2 : ∀ x, x < h1.size → upT o1 h1.size (k + 2) x = o1 x := fun x hx => dX hx
  have hcell2 := f2.hcell hcell id
  have ci2 := ci.fr0 f2
  refine ⟨⟨_, _, _, hcell2, rfl⟩, ⟨_, _, _, hcell2, rfl⟩, ⟨_, _, _, ci2.at (DW _), rfl⟩, ?_⟩
  have hen := T1.en nw hlt _ hnw
  have hel : sg1[nw].en.length ≤ 2 ^ 20 := by rw [hen]; have := hE (cF s); omega
  refine A2.addEnd nw hlt e o2 hel hcell2 fun o3 h3 q' c' hO3 f3 hr3 A3 => ?_
  have z3 := f3.size
  have hO13 : Old h o o3 := fun x hx => by rw [hO3 x (by omega), hO2 x (by omega)]; exact hO1 x hx
  refine hk o3 h3 _ ws1 hO13 (fun x hx => ?_) ((f1.tr f2 fun _ _ h => h.elim).tr f3 fun x hx hh => ?_) A3 (T1.ended hnw e q' c') hmem hlen
  ·by_cases hx2 : x < h2.size
   ·rw [hO3 x hx2]
    by_cases hx1 : x < h1.size
    ·rw [hO2 x hx1]; exact hr1 x hx hx1
    ·rw [kf (by omega)]; omega
   ·rw [hr3 x (by omega)]; omega
  ·rw [hO2 x (by omega), hO1 x hx] at hh; unfold AR; omega
end
end Go.Proofs.YtjmfpeiidlpngaaGreatDoor.Au
namespace Go.Proofs.YtjmfpeiidlpngaaGreatDoor.Au
set_option linter.unusedSimpArgs false
set_option linter.unusedVariables false
set_option maxRecDepth 20000
open Go
open Go.IntKind (wrap)
theorem Av (p : Pt) : (ptV p).length = 2 := rfl
theorem MU : gU Tryz.prog eK bE Tryz.t160 (.agg #[.string ⟨#[]⟩, .bool false]) :=
 ⟨Tryz.underlying84, by kernel_rfl, by kernel_rfl, by kernel_rfl, by decide +kernel⟩
theorem Hb [Gh] (s : Sl Pt) {ok : aB → Pt → Prop} {h : aB} (os : bH 2 ptV ok h s) (okf : ∀ h h' x, Fr (fun _ => False) h h' → ok h x → ok h' x) (hl : s.xs.length ≤ 2 ^ 20) {Q : Value → aB → Prop}
  (hk : ∀ q c h', Fr (fun _ => False) h h' → Row 2 ptV h' q c s.xs → (∀ x, InA q x → h.size ≤ x) → Q (.slice q s.xs.length c) h') :
  aD Tryz.prog cE #[.slice s.p s.xs.length s.cap] h Q := by
 apply lv
 unfold gR
 cases hp : s.p with
 | none =>
  rw [if_pos (by rfl)]
  have he : s.xs = [] := by
   cases hx : s.xs with
   | nil => rfl
   | cons a l =>
    obtain ⟨ad, h1, _⟩ := os.at_ 0 (by rw [hx]; simp)
    rw [hp] at h1; cases h1
  have := hk none 0 h (Fr.refl _ _) (by rw [he]; exact Row.nil) fun x hx => (cU hx).elim
  rw [he] at this; exact this
 | some ad =>
  rw [if_neg (by simp)]
  refine aU (vs := []) fun t5 h1 f1 e1 o1 => ?_
  have z1 := f1.size
  have R0 : Row 2 ptV h1 (some t5) 0 [] := Row.of_own (L := []) Av o1
  have src := (bH.fr0 okf f1 os).src Av
  rw [hp] at src
  refine R0.appL MU Tryz.underlying84 (by intro k e; cases e) (by kernel_rfl) (by decide +kernel) Av (fun _ => rfl) src (by simp; omega) fun p' cap' h' R' f hn => ⟨_, _, _, rfl, ?_⟩
  refine hk p' cap' h' (f1.tr f fun x hx hh => ?_) R' fun x hx => ?_
  ·obtain ⟨a', h1, h2⟩ := hh; cases h1; omega
  ·rcases hn x hx with hh | hh
   ·obtain ⟨a', h1, h2⟩ := hh; cases h1; omega
   ·omega
def rP : List Pt → Int
 | [] => 0
 | p :: l => if p.t = [] then 2 else if p.t.length > 64 then 3 else rP l
theorem wv : ∀ {L : List Pt}, rP L = 0 → ∀ p ∈ L, p.t ≠ [] ∧ p.t.length ≤ 64
 | [], _, p, hp => by cases hp
 | q :: L, h, p, hp => by
  unfold rP at h
  split at h
  ·cases h
  ·split at h
   ·cases h
   ·rcases List.mem_cons.1 hp with rfl | hp
    ·exact ⟨by assumption, by omega⟩
    ·exact wv h p hp
end Go.Proofs.YtjmfpeiidlpngaaGreatDoor.Au
namespace Go.Proofs.YtjmfpeiidlpngaaGreatDoor.Au
set_option linter.unusedSimpArgs false
set_option linter.unusedVariables false
set_option maxRecDepth 20000
open Go
theorem Hd {h : aB} {a : Addr} (f : Nat → Nat) : ∀ (n i : Nat) {K : List Value → Prop}, (∀ j, j < n → hcell h (a.add (i + j)) = some (.int .u16 (f (i + j)))) → K ((List.range' i n).map fun c => .int .u16 (f c)) → ldN h a (List.replicate n (.int .u16)) i K
 | 0, i, K, _, hk => hk
 | n + 1, i, K, hc, hk => by
  rw [List.replicate_succ]
  unfold ldN ld1
  refine ⟨_, hc 0 (by omega), ?_⟩
  refine Hd f n (i + 1) (fun j hj => by have := hc (j + 1) (by omega); rw [show i + 1 + j = i + (j + 1) by omega]; exact this) ?_
  rw [List.range'_succ, List.map_cons] at hk
  exact hk
theorem Lr : kinds Tryz.prog 20 202 = List.replicate 256 (.int .u16) := by kernel_rfl
theorem Ja {h : aB} {ad : Addr} {s : St} (c : aY h ad (stV s)) {K : List Value → Prop} (hk : K (nxV s.nx)) : ldN h ad (kinds Tryz.prog 20 202) 0 K := by
 rw [Lr]
 refine Hd s.nx 256 0 (fun j hj => ?_) ?_
 ·rw [Nat.zero_add]; exact c.at (DF s hj)
 ·unfold nxV at hk; rw [List.range_eq_range'] at hk; exact hk
theorem JH (f : Nat → Nat) {c : Nat} (hc : c < 256) : (nxV f).toArray[c]? = some (.int .u16 (f c)) := by
 rw [List.getElem?_toArray]
 have h : c < (nxV f).length := by rw [pH]; exact hc
 rw [List.getElem?_eq_getElem h, Dy]
end Go.Proofs.YtjmfpeiidlpngaaGreatDoor.Au
namespace Go.Proofs.YtjmfpeiidlpngaaGreatDoor.Au
set_option linter.unusedSimpArgs false
set_option linter.unusedVariables false
set_option maxRecDepth 20000
open Go
open Go.IntKind (wrap)
def iJ (L : List Pt) (i : Nat) (w : Nm) : List Nat := (List.range i).filter fun j => decide (cF (L.getD j ⟨[], false⟩).t = w)
theorem Gd (L : List Pt) (i : Nat) (hi : i < L.length) : (fun v => if v = cF L[i].t then iJ L i v ++ [i] else iJ L i v) = iJ L (i + 1) := by
 funext v
 have e : L.getD i ⟨[], false⟩ = L[i] := by rw [List.getD_eq_getElem?_getD, List.getElem?_eq_getElem hi]; rfl
 unfold iJ
 rw [List.range_succ, List.filter_append, List.filter_cons, List.filter_nil, e]
 by_cases h : v = cF L[i].t
 ·rw [if_pos h, if_pos (decide_eq_true h.symm)]
 ·rw [if_neg h, if_neg (fun hh => h (of_decide_eq_true hh).symm), List.append_nil]
theorem CV (L : List Pt) (i : Nat) (w : Nm) : (iJ L i w).length ≤ i := by
 unfold iJ
 exact Nat.le_trans (List.length_filter_le ..) (by rw [List.length_range]; exact Nat.le_refl _)
theorem M7 (L : List Pt) : tI [qC] [[]] (iJ L 0) := by
 have h0 : ∀ {i : Nat}, i < [qC].length → i = 0 := fun h => by simpa using h
 refine ⟨rfl, by simp, rfl, fun w c h => ?_, fun i hi w c hw hz hm => ?_, fun i hi w c hw hz => ?_, fun i hi => ?_, fun i hi w hw => ?_, fun w hw => rfl⟩
 ·simp at h
 ·simp at hm
 ·have := h0 hi; subst this; exact absurd rfl hz
 ·have := h0 hi; subst this; exact ⟨rfl, rfl⟩
 ·have := h0 hi; subst this; rfl
def wS (L : List Pt) (i : Nat) (w : Nm) : Prop := w = [] ∨ ∃ j, ∃ hj : j < L.length, j < i ∧ w <+: cF L[j].t
theorem Mf [Gh] {o : Tag} {k : Nat} {h : aB} {a : Addr} {pq : Option Addr} {pn pc : Nat} {q : Option Addr} {cap : Nat} {L : List Pt} (hL : L.length ≤ 512) (hp : ∀ p ∈ L, p.t.length ≤ 64) (S : ∀ h', Fr (AR o k) h h' → IE h' q L) (A : jZ o k h a [qC] pq pn pc) {Q : Value → aB → Prop}
  (hk : ∀ o' h' sg ws, Old h o o' → (∀ x, h.size ≤ x → x < h'.size → k < o' x ∧ o' x < k + 70000) → Fr (AR o k) h h' → jZ o' k h' a sg pq pn pc → tI sg ws (iJ L L.length) → (∀ w, w ∈ ws ↔ wS L L.length w) → ws.length ≤ 40000 → iN a Q h') :
  aH (fun (s : Int) h Kn => gE a q L.length cap ((L.length : Nat) : Int) Q s h Kn) 0 h := by
 have z0 := A.lt
 refine aH.go (fun n st h' => ∃ (i : Nat) (sg : List St) (ws : List Nm) (o' : Tag), st = (i : Int) ∧ i ≤ L.length ∧ n = L.length - i ∧ jZ o' k h' a sg pq pn pc ∧ tI sg ws (iJ L i) ∧ (∀ w, w ∈ ws ↔ wS L i w) ∧ ws.length ≤ 1 + 64 * i ∧ Old h o o' ∧ Fr (AR o k) h h' ∧ (∀ x, h.size ≤ x → x < h'.size → k < o' x ∧ o' x < k + 70000)) L.length
  ⟨0, [qC], [[]], o, rfl, by omega, rfl, A, M7 L, fun w => ?_, by simp, Old.refl _ _, Fr.refl _ _, fun x h1 h2 => by omega⟩ ?_
 ·unfold wS
  rw [List.mem_singleton]
  refine ⟨.inl, fun h => ?_⟩
  rcases h with h | ⟨j, _, hj, _⟩
  ·exact h
  ·omega
 rintro n - h1 ⟨i, sg, ws, o1, rfl, hi, rfl, A1, T1, hm1, hlen, hO1, f1, hr1⟩ Kn hK
 unfold gE
 have z1 := f1.size
 refine ifD (fun e => ?_) fun e => ?_
 ·have hil : i < L.length := by omega
  refine (S h1 f1).get i rfl hil fun ad ci => ?_
  rw [Int.toNat_natCast]
  refine aT (ci.at0 rfl) (aG (ci.at (j := 1) rfl) ?_)
  refine aU (vs := [.string (bs []), .bool false]) fun t8 h2 f2 e2 o2 => ?_
  refine jt o2 (ws := [.string (bs L[i].t), .bool L[i].nc]) (by rfl) (by rfl) fun h3 f3 s3 o3 => ?_
  have F3 : Fr (fun _ => False) h1 h3 := f2.tr f3 fun b hb hi => by omega
  have z3 := F3.size
  refine aT (o3.cells.at0 rfl) ?_
  have A3 : jZ (upT o1 h1.size (k + 2)) k h3 a sg pq pn pc := A1.fr F3 (fun _ _ h => h.elim) (Old.up (Nat.le_refl _))
  have hO3 : ∀ x, x < h1.size → upT o1 h1.size (k + 2) x = o1 x := fun x hx => dX hx
  have hpi := hp _ (List.getElem_mem hil)
  refine MQ A3 T1 i (by omega) L[i].t (by omega) (fun w => by have := CV L i w; omega) fun o4 h4 sg4 ws4 hO4 hr4 f4 A4 T4 hm4 hl4 => ⟨rfl, ?_⟩
  have z4 := f4.size
  rw [wr (by omega) (by omega)]
  rw [Gd L i hil] at T4
  refine hK (L.length - (i + 1)) _ _ (by omega) ⟨i + 1, sg4, ws4, o4, rfl, hil, rfl, A4, T4, fun w => ?_, by omega, fun x hx => by rw [hO4 x (by omega), hO3 x (by omega)]; exact hO1 x hx, (f1.tr F3 fun _ _ h => h.elim).tr f4 fun x hx hh => ?_, fun x hx hx4 => ?_⟩
  ·rw [hm4, hm1]
   unfold wS
   constructor
   ·rintro ((h | ⟨j, hj, hji, hw⟩) | h)
    ·exact .inl h
    ·exact .inr ⟨j, hj, by omega, hw⟩
    ·exact .inr ⟨i, hil, by omega, h⟩
   ·rintro (h | ⟨j, hj, hji, hw⟩)
    ·exact .inl (.inl h)
    ·by_cases hj2 : j = i
     ·subst hj2; exact .inr hw
     ·exact .inl (.inr ⟨j, hj, by omega, hw⟩)
  ·unfold AR at hh ⊢; rw [hO3 x (by omega), hO1 x hx] at hh; exact hh
  ·by_cases hx3 : x < h3.size
   ·rw [hO4 x hx3]
    by_cases hx1 : x < h1.size
    ·rw [hO3 x hx1]; exact hr1 x hx hx1
    ·rw [kf (by omega)]; omega
   ·exact hr4 x (by omega)
 ·have : i = L.length := by omega
  subst this
  exact hk o1 h1 sg ws hO1 hr1 f1 A1 T1 hm1 (by omega)
end Go.Proofs.YtjmfpeiidlpngaaGreatDoor.Au
namespace Go.Proofs.YtjmfpeiidlpngaaGreatDoor.Au
set_option linter.unusedSimpArgs false
set_option linter.unusedVariables false
set_option maxRecDepth 20000
open Go
open Go.IntKind (wrap)
theorem Ni {o : Tag} {k m : Nat} (n0 n1 n2 n3 m' : Nat) : ∀ x, n0 ≤ x → x < m → k ≤ upT (upT (upT (upT o n0 k) n1 (k + 2)) n2 k) n3 (k + 1) x ∧ upT (upT (upT (upT o n0 k) n1 (k + 2)) n2 k) n3 (k + 1) x < k + 70000 := fun x hx _ => by
 unfold upT
 split
 ·split
  ·split
   ·rw [if_neg (by omega)]; omega
   ·omega
  ·omega
 ·omega
theorem Nl {o : Tag} {k m : Nat} (n0 n1 n2 n3 m' : Nat) : ∀ x, n0 ≤ x → x < m → k ≤ upT (upT (upT (upT o n0 k) n1 k) n2 (k + 2)) n3 (k + 1) x ∧ upT (upT (upT (upT o n0 k) n1 k) n2 (k + 2)) n3 (k + 1) x < k + 70000 := fun x hx _ => by
 unfold upT
 split
 ·split
  ·split
   ·rw [if_neg (by omega)]; omega
   ·omega
  ·omega
 ·omega
theorem Iy (p : Pt) (l : List Pt) : rP (p :: l) = if p.t = [] then 2 else if p.t.length > 64 then 3 else rP l := rfl
theorem H8 [Gh] (s : Sl Pt) {ok : aB → Pt → Prop} {h : aB} (os : bH 2 ptV ok h s) (okf : ∀ h h' x, Fr (fun _ => False) h h' → ok h x → ok h' x) (hl : s.xs.length ≤ 2 ^ 20) (o : Tag) (k : Nat) (hold : ∀ x, x < h.size → o x ≤ k) {Q : Value → aB → Prop}
  (hbad : ∀ h', Fr (fun _ => False) h h' → s.xs.length > 512 → Q (.tuple #[.pointer none, .int .i64 3]) h')
  (herr : ∀ h', Fr (fun _ => False) h h' → s.xs.length ≤ 512 → rP s.xs ≠ 0 → Q (.tuple #[.pointer none, .int .i64 (rP s.xs)]) h')
  (hk : ∀ a o' h' sg ws pq pc, Old h o o' → (∀ x, h.size ≤ x → x < h'.size → k ≤ o' x ∧ o' x < k + 70000) → Fr (fun _ => False) h h' → jZ o' k h' a sg pq s.xs.length pc → Row 2 ptV h' pq pc s.xs → (∀ x, InA pq x → h.size ≤ x ∧ o' x = k) → tI sg ws (iJ s.xs s.xs.length) → (∀ w, w ∈ ws ↔ wS s.xs s.xs.length w) → ws.length ≤ 40000 → s.xs.length ≤ 512 → rP s.xs = 0 → iN a Q h') :
  aD Tryz.prog kj #[.slice s.p s.xs.length s.cap] h Q := by
 apply yf
 unfold r7
 refine ifD (fun e => hbad h (Fr.refl _ _) (by omega)) fun e => ?_
 have hl512 : s.xs.length ≤ 512 := by omega
 have S : ∀ h', Fr (fun _ => False) h h' → IE h' s.p s.xs := fun h' f i hi => by
  obtain ⟨ad, h1, h2, _⟩ := os.at_ i hi; exact ⟨ad, h1, h2.fr0 f⟩
 refine aH.go (fun n st h' => ∃ i : Nat, st = (i : Int) ∧ i ≤ s.xs.length ∧ n = s.xs.length - i ∧ Fr (fun _ => False) h h' ∧ rP s.xs = rP (s.xs.drop i)) s.xs.length ⟨0, rfl, by omega, rfl, Fr.refl _ _, by rw [List.drop_zero]⟩ ?_
 rintro n - h1 ⟨i, rfl, hi, rfl, f1, he⟩ Kn hK
 unfold mM
 refine ifD (fun e2 => ?_) fun e2 => ?_
 ·have hil : i < s.xs.length := by omega
  rw [List.drop_eq_getElem_cons hil] at he
  rw [Iy] at he
  refine (S h1 f1).get i rfl hil fun ad ci => ?_
  rw [Int.toNat_natCast]
  refine aT (ci.at0 rfl) (aG (ci.at (j := 1) rfl) ?_)
  refine aU (vs := [.string (bs []), .bool false]) fun t5 h2 f2 e2 o2 => ?_
  refine jt o2 (ws := [.string (bs s.xs[i].t), .bool s.xs[i].nc]) (by rfl) (by rfl) fun h3 f3 s3 o3 => ?_
  have F3 : Fr (fun _ => False) h h3 := f1.trans (f2.tr f3 fun b hb hi => by omega)
  refine aT (o3.cells.at0 rfl) (ifS (m := []) (fun e3 => ?_) fun e3 => ?_)
  ·rw [if_pos e3] at he
   have := herr h3 F3 hl512
   rw [he] at this; exact this (by decide)
  rw [if_neg e3] at he
  refine aT (o3.cells.at0 rfl) ?_
  rw [aX]
  refine ifD (fun e4 => ?_) fun e4 => ?_
  ·rw [if_pos (by omega)] at he
   have := herr h3 F3 hl512
   rw [he] at this; exact this (by decide)
  rw [if_neg (by omega)] at he
  rw [wr (by omega) (by omega)]
  exact hK (s.xs.length - (i + 1)) _ _ (by omega) ⟨i + 1, rfl, hil, rfl, F3, he⟩
 ·have hie : i = s.xs.length := by omega
  subst hie
  rw [List.drop_length] at he
  have he : rP s.xs = 0 := he
  have hps : ∀ p ∈ s.xs, p.t.length ≤ 64 := fun p hp => (wv he p hp).2
  have os1 := bH.fr0 okf f1 os
  have z1 := f1.size
  have hst : (List.replicate 1 (Value.agg (stV qC).toArray).cells.toList).flatten = [qC].flatMap stV := by
   show (stV qC ++ []) = stV qC ++ []
   rfl
  have hby : 1 * (Tryz.t204).bytes ≤ 2 ^ 48 := by decide +kernel
  unfold mU
  have fin : ∀ {h4 : aB} {a : Addr} {o4 : Tag} {pq : Option Addr} {pc : Nat}, Fr (fun _ => False) h h4 → Old h o o4 → (∀ x, h.size ≤ x → x < h4.size → k ≤ o4 x ∧ o4 x < k + 70000) → jZ o4 k h4 a [qC] pq s.xs.length pc → Row 2 ptV h4 pq pc s.xs → (∀ x, InA pq x → h.size ≤ x ∧ o4 x = k) →
    aH (fun (st : Int) h Kn => gE a s.p s.xs.length s.cap ((s.xs.length : Nat) : Int) Q st h Kn) 0 h4 := fun {h4 a o4 pq pc} f4 hO4 hr4 A4 R4 hq4 => by
   have z4 := f4.size
   have hno : ∀ x, x < h.size → ¬ AR o4 k x := fun x hx hh => by unfold AR at hh; rw [hO4 x hx] at hh; have := hold x hx; omega
   refine Mf hl512 hps (fun h' f' => S h' (f4.tr f' fun x hx hh => hno x hx hh)) A4 fun o5 h5 sg ws hO5 hr5 f5 A5 T5 hm5 hl5 => ?_
   have z5 := f5.size
   refine hk a o5 h5 sg ws pq pc (fun x hx => by rw [hO5 x (by omega)]; exact hO4 x hx) (fun x hx hx5 => ?_) (f4.tr f5 fun x hx hh => hno x hx hh) A5 (R4.fr f5 fun x hx hh => by have := hq4 x hx; unfold AR at hh; omega) (fun x hx => ?_) T5 hm5 hl5 hl512 he
   ·by_cases hx4 : x < h4.size
    ·rw [hO5 x hx4]; exact hr4 x hx hx4
    ·have := hr5 x (by omega) hx5; omega
   ·have := hq4 x hx
    rw [hO5 x (R4.lt hx)]; exact this
  constructor
  ·refine xM Kj 1 rfl hby fun t28 h3 f3 e3 o3 => ⟨_, _, _, rfl, ?_⟩
   rw [hst] at o3
   have z3 := f3.size
   have l3 := o3.lt
   have Q3 := Row.of_own rW o3
   refine Hb s (bH.fr0 okf f3 os1) okf hl fun pq pc h4 f4 R4 hq4 => ⟨_, _, _, rfl, ?_⟩
   have z4 := f4.size
   refine aU (vs := [.slice (some t28) 1 1, .slice pq s.xs.length pc]) fun t32 h5 f5 e5 o5 => ?_
   have z5 := f5.size
   refine fin (o4 := upT (upT (upT (upT o h.size k) h1.size (k + 2)) h3.size k) h4.size (k + 1)) (((f1.trans f3).trans f4).trans f5) (fun x hx => by rw [dX (by omega), dX (by omega), dX (by omega), dX (by omega)]) (Ni _ _ _ _ 0) ⟨⟨some t28, 1, o5, (Q3.fr0 f4).fr0 f5, fun x hx => ?_⟩, fun i hi => ?_, ?_⟩ (R4.fr0 f5) fun x hx => ?_
   ·obtain ⟨ad, h1, h2⟩ := hx; cases h1
    rw [dX (by omega), dX (by omega), kf (by omega)]
   ·have : i = 0 := by simpa using hi
    subst this
    exact ⟨Row.nil, fun x hx => (cU hx).elim⟩
   ·rw [kf (by omega)]
   ·have h1 := hq4 x hx
    have h2 := R4.lt hx
    exact ⟨by omega, by rw [dX h2, kf (by omega)]⟩
  ·refine Hb s os1 okf hl fun pq pc h3 f3 R3 hq3 => ⟨_, _, _, rfl, ?_⟩
   have z3 := f3.size
   refine xM Kj 1 rfl hby fun t28 h4 f4 e4 o4 => ⟨_, _, _, rfl, ?_⟩
   rw [hst] at o4
   have z4 := f4.size
   have l4 := o4.lt
   have Q4 := Row.of_own rW o4
   refine aU (vs := [.slice (some t28) 1 1, .slice pq s.xs.length pc]) fun t32 h5 f5 e5 o5 => ?_
   have z5 := f5.size
   refine fin (o4 := upT (upT (upT (upT o h.size k) h1.size k) h3.size (k + 2)) h4.size (k + 1)) (((f1.trans f3).trans f4).trans f5) (fun x hx => by rw [dX (by omega), dX (by omega), dX (by omega), dX (by omega)]) (Nl _ _ _ _ 0) ⟨⟨some t28, 1, o5, Q4.fr0 f5, fun x hx => ?_⟩, fun i hi => ?_, ?_⟩ ((R3.fr0 f4).fr0 f5) fun x hx => ?_
   ·obtain ⟨ad, h1, h2⟩ := hx; cases h1
    rw [dX (by omega), kf (by omega)]
   ·have : i = 0 := by simpa using hi
    subst this
    exact ⟨Row.nil, fun x hx => (cU hx).elim⟩
   ·rw [kf (by omega)]
   ·have h1 := hq3 x hx
    have h2 := R3.lt hx
    exact ⟨by omega, by rw [dX (by omega), dX h2, kf (by omega)]⟩
end Go.Proofs.YtjmfpeiidlpngaaGreatDoor.Au
namespace Go.Proofs.YtjmfpeiidlpngaaGreatDoor.Au
set_option linter.unusedSimpArgs false
set_option linter.unusedVariables false
set_option maxRecDepth 20000
open Go
structure Lk (sg : List St) (ws : List Nm) (E : Nm → List Nat) (D : Nat → Prop) (Qs : List Nat) : Prop where
 len : sg.length = ws.length
 nd : ws.Nodup
 z : ws[0]? = some []
 pre : ∀ w c, w ++ [c] ∈ ws → w ∈ ws
 root : D 0
 no : ∀ i (hi : i < sg.length) w (c : UInt8), ws[i]? = some w → ¬ D i → sg[i].nx c.toNat = 0 → w ++ [c] ∉ ws
 yes : ∀ i (hi : i < sg.length) w (c : UInt8), ws[i]? = some w → ¬ D i → sg[i].nx c.toNat ≠ 0 → ws[sg[i].nx c.toNat]? = some (w ++ [c])
 dn : ∀ i (hi : i < sg.length) w (c : UInt8), ws[i]? = some w → D i → ws[sg[i].nx c.toNat]? = some (ls ws (w ++ [c]))
 fa : ∀ i (hi : i < sg.length) w, ws[i]? = some w → D i ∨ i ∈ Qs → ws[sg[i].fa]? = some (fl ws w)
 ou : ∀ i (hi : i < sg.length) w, ws[i]? = some w → D i → ws[sg[i].ou]? = some (vm ws E w)
 en : ∀ i (hi : i < sg.length) w, ws[i]? = some w → sg[i].en = E w
 apart : ∀ i ∈ Qs, ¬ D i ∧ i < sg.length
 qnd : Qs.Nodup
 child : ∀ i j w c, ws[i]? = some (w ++ [c]) → ws[j]? = some w → D j → D i ∨ i ∈ Qs
 ord : ∀ p i q, Qs = p ++ i :: q → ∀ w, ws[i]? = some w → ∀ j v, ws[j]? = some v → v.length < w.length → D j ∨ j ∈ p
theorem Lk.all {sg : List St} {ws : List Nm} {E : Nm → List Nat} {D : Nat → Prop} (L : Lk sg ws E D []) : ∀ (n : Nat) (w : Nm), w.length ≤ n → ∀ i, ws[i]? = some w → D i := by
 intro n
 induction n with
 | zero =>
  intro w hw i hi
  have : w = [] := List.length_eq_zero_iff.1 (Nat.le_zero.1 hw)
  subst this
  rw [jr L.nd hi L.z]; exact L.root
 | succ n ih =>
  intro w hw i hi
  rcases List.eq_nil_or_concat w with h | ⟨u, c, h⟩
  ·subst h; rw [jr L.nd hi L.z]; exact L.root
  ·rw [List.concat_eq_append] at h
   subst h
   rw [List.length_append, List.length_singleton] at hw
   have hu := L.pre u c (List.mem_of_getElem? hi)
   obtain ⟨j, hj⟩ := List.getElem?_of_mem hu
   rcases L.child i j u c hi hj (ih u (by omega) j hj) with h | h
   ·exact h
   ·cases h
theorem Lk.words {sg : List St} {ws : List Nm} {E : Nm → List Nat} {D : Nat → Prop} {Qs : List Nat} (L : Lk sg ws E D Qs) : Pre ws := ⟨List.mem_of_getElem? L.z, L.pre⟩
theorem Lk.back {sg : List St} {ws : List Nm} {E : Nm → List Nat} {D : Nat → Prop} {i : Nat} {q : List Nat} (L : Lk sg ws E D (i :: q)) {w : Nm} (hw : ws[i]? = some w) (hi : i < sg.length) : ws[sg[i].fa]? = some (fl ws w) ∧ D sg[i].fa := by
 have hf := L.fa i hi w hw (.inr List.mem_cons_self)
 have hne : w ≠ [] := fun h => by
  subst h
  have := jr L.nd hw L.z
  subst this
  exact (L.apart 0 List.mem_cons_self).1 L.root
 refine ⟨hf, ?_⟩
 rcases L.ord [] i q rfl w hw _ _ hf (zq w hne) with h | h
 ·exact h
 ·cases h
end Go.Proofs.YtjmfpeiidlpngaaGreatDoor.Au
namespace Go.Proofs.YtjmfpeiidlpngaaGreatDoor.Au
set_option linter.unusedSimpArgs false
set_option linter.unusedVariables false
set_option maxRecDepth 20000
open Go
def gt (sg : List St) (i : Nat) : St := sg.getD i qC
theorem gM {sg : List St} {i : Nat} (hi : i < sg.length) : sg[i] = gt sg i := by
 unfold gt; rw [List.getD_eq_getElem?_getD, List.getElem?_eq_getElem hi]; rfl
theorem ql {sg : List St} {i : Nat} (hi : i < sg.length) (x : St) (j : Nat) : gt (sg.set i x) j = if i = j then x else gt sg j := by
 unfold gt
 rw [List.getD_eq_getElem?_getD, List.getD_eq_getElem?_getD, List.getElem?_set]
 by_cases h : i = j
 ·subst h; rw [if_pos rfl, if_pos rfl, if_pos hi]; rfl
 ·rw [if_neg h, if_neg h]
def pe (f : Nat → Nat) (n : Nat) : List Nat := ((List.range n).filter fun d => decide (f d ≠ 0)).map f
theorem m5 (f : Nat → Nat) (n : Nat) : pe f (n + 1) = if f n = 0 then pe f n else pe f n ++ [f n] := by
 unfold pe
 rw [List.range_succ, List.filter_append, List.filter_cons, List.filter_nil]
 by_cases h : f n = 0
 ·rw [if_pos h, if_neg (by simp [h]), List.append_nil]
 ·rw [if_neg h, if_pos (by simp [h]), List.map_append]; rfl
theorem rI {f : Nat → Nat} {n i : Nat} : i ∈ pe f n ↔ ∃ d, d < n ∧ f d ≠ 0 ∧ f d = i := by
 unfold pe
 rw [List.mem_map]
 constructor
 ·rintro ⟨d, h1, h2⟩
  rw [List.mem_filter, List.mem_range] at h1
  exact ⟨d, h1.1, of_decide_eq_true h1.2, h2⟩
 ·rintro ⟨d, h1, h2, h3⟩
  exact ⟨d, List.mem_filter.2 ⟨List.mem_range.2 h1, decide_eq_true h2⟩, h3⟩
structure Inn (s0 sg : List St) (now : Nat) (f0 bk : Nat → Nat) (o' c : Nat) : Prop where
 len : sg.length = s0.length
 en : ∀ i, (gt sg i).en = (gt s0 i).en
 ou : ∀ i, (gt sg i).ou = if i = now then o' else (gt s0 i).ou
 nx : ∀ i d, d < 256 → (gt sg i).nx d = if i = now then (if d < c ∧ f0 d = 0 then bk d else f0 d) else (gt s0 i).nx d
 fa1 : ∀ d, d < c → f0 d ≠ 0 → (gt sg (f0 d)).fa = bk d
 fa0 : ∀ i, (∀ d, d < c → f0 d ≠ 0 → f0 d ≠ i) → (gt sg i).fa = (gt s0 i).fa
section
variable {s0 sg : List St} {now : Nat} {f0 bk : Nat → Nat} {o' c : Nat}
theorem Inn.no (I : Inn s0 sg now f0 bk o' c) (hc : c < 256) (hn : now < sg.length) (h0 : f0 c = 0) : Inn s0 (sg.set now { gt sg now with nx := wN (gt sg now).nx c (bk c) }) now f0 bk o' (c + 1) := by
 refine ⟨by rw [List.length_set]; exact I.len, fun i => ?_, fun i => ?_, fun i d hd => ?_, fun d hd hf => ?_, fun i hi => ?_⟩
 ·rw [ql hn]; split
  ·rename_i h; subst h; exact I.en now
  ·exact I.en i
 ·rw [ql hn]; split
  ·rename_i h; subst h; exact I.ou now
  ·exact I.ou i
 ·rw [ql hn]
  by_cases h : now = i
  ·subst h
   rw [if_pos rfl, if_pos rfl]
   show (if d = c then bk c else _) = _
   by_cases hdc : d = c
   ·subst hdc
    rw [if_pos rfl, if_pos ⟨by omega, h0⟩]
   ·rw [if_neg hdc, I.nx now d hd, if_pos rfl]
    by_cases h1 : d < c ∧ f0 d = 0
    ·rw [if_pos h1, if_pos ⟨by omega, h1.2⟩]
    ·rw [if_neg h1, if_neg (fun hh => h1 ⟨by omega, hh.2⟩)]
  ·rw [if_neg h, I.nx i d hd, if_neg (fun hh => h hh.symm), if_neg (fun hh => h hh.symm)]
 ·have hd2 : d < c := by
   by_cases h : d = c
   ·subst h; exact absurd h0 hf
   ·omega
  rw [ql hn]; split
  ·rename_i h
   show (gt sg now).fa = _
   have := I.fa1 d hd2 hf
   rw [← h] at this; exact this
  ·exact I.fa1 d hd2 hf
 ·have := I.fa0 i fun d hd => hi d (by omega)
  rw [ql hn]; split
  ·rename_i h; subst h; exact this
  ·exact this
theorem Inn.yes (I : Inn s0 sg now f0 bk o' c) (hc : c < 256) (hn : f0 c < sg.length) (h0 : f0 c ≠ 0) (hu : ∀ d, d < c → f0 d ≠ 0 → f0 d ≠ f0 c) : Inn s0 (sg.set (f0 c) { gt sg (f0 c) with fa := bk c }) now f0 bk o' (c + 1) := by
 refine ⟨by rw [List.length_set]; exact I.len, fun i => ?_, fun i => ?_, fun i d hd => ?_, fun d hd hf => ?_, fun i hi => ?_⟩
 ·rw [ql hn]; split
  ·rename_i h; subst h; exact I.en _
  ·exact I.en i
 ·rw [ql hn]; split
  ·rename_i h; rw [← h]; exact I.ou _
  ·exact I.ou i
 ·have e : (gt (sg.set (f0 c) { gt sg (f0 c) with fa := bk c }) i).nx d = (gt sg i).nx d := by
   rw [ql hn]; split
   ·rename_i h; rw [← h]
   ·rfl
  rw [e, I.nx i d hd]
  by_cases h : i = now
  ·rw [if_pos h, if_pos h]
   by_cases h1 : d < c ∧ f0 d = 0
   ·rw [if_pos h1, if_pos ⟨by omega, h1.2⟩]
   ·rw [if_neg h1, if_neg (fun hh => h1 ⟨by
     by_cases hdc : d = c
     ·subst hdc; exact absurd hh.2 h0
     ·omega, hh.2⟩)]
  ·rw [if_neg h, if_neg h]
 ·by_cases hdc : d = c
  ·subst hdc; rw [ql hn, if_pos rfl]
  ·rw [ql hn, if_neg (hu d (by omega) hf).symm]
   exact I.fa1 d (by omega) hf
 ·rw [ql hn, if_neg (hi c (by omega) h0)]
  exact I.fa0 i fun d hd => hi d (by omega)
end
structure Lq (sg : List St) (ws : List Nm) (E : Nm → List Nat) (D : Nat → Prop) (Qs : List Nat) : Prop extends Lk sg ws E D Qs where
 up : ∀ i j w c, ws[i]? = some (w ++ [c]) → ws[j]? = some w → D i ∨ i ∈ Qs → D j
theorem B1 {d : Nat} (hd : d < 256) : ∃ c : UInt8, c.toNat = d := ⟨UInt8.ofNat d, by rw [UInt8.toNat_ofNat']; omega⟩
section
variable {sg : List St} {ws : List Nm} {E : Nm → List Nat} {D : Nat → Prop} {now : Nat} {q : List Nat}
theorem Lk.lt {Qs : List Nat} (L : Lk sg ws E D Qs) {i : Nat} {w : Nm} (h : ws[i]? = some w) : i < sg.length := by
 rw [L.len]; exact (List.getElem?_eq_some_iff.1 h).1
theorem Lk.word {Qs : List Nat} (L : Lk sg ws E D Qs) {i : Nat} (h : i < sg.length) : ∃ w, ws[i]? = some w :=
 ⟨_, List.getElem?_eq_getElem (by rw [← L.len]; exact h)⟩
theorem Lq.pop {s0 : List St} (L : Lq s0 ws E D (now :: q)) {w : Nm} (hw : ws[now]? = some w) {o' : Nat} (ho : ws[o']? = some (vm ws E w)) (I : Inn s0 sg now (gt s0 now).nx (gt s0 (gt s0 now).fa).nx o' 256) :
  Lq sg ws E (fun i => D i ∨ i = now) (q ++ pe (gt s0 now).nx 256) := by
 have P := L.words
 have hap := L.apart now List.mem_cons_self
 have hnow := hap.2
 have hb := L.back hw hnow
 rw [gM hnow] at hb
 generalize hbe : (gt s0 now).fa = b at *
 have hbl := L.lt hb.1
 have hne : w ≠ [] := fun h => by
  subst h
  have := jr L.nd hw L.z
  subst this; exact hap.1 L.root
 generalize hf0 : (gt s0 now).nx = f0 at *
 have kyes : ∀ c : UInt8, f0 c.toNat ≠ 0 → ws[f0 c.toNat]? = some (w ++ [c]) := fun c hc => by
  have := L.yes now hnow w c hw hap.1 (by rw [gM hnow, hf0]; exact hc)
  rw [gM hnow, hf0] at this; exact this
 have kno : ∀ c : UInt8, f0 c.toNat = 0 → w ++ [c] ∉ ws := fun c hc => L.no now hnow w c hw hap.1 (by rw [gM hnow, hf0]; exact hc)
 have kid : ∀ i, i ∈ pe f0 256 → ∃ c : UInt8, f0 c.toNat = i ∧ ws[i]? = some (w ++ [c]) := fun i hi => by
  obtain ⟨d, h1, h2, h3⟩ := rI.1 hi
  obtain ⟨c, rfl⟩ := B1 h1
  subst h3
  exact ⟨c, rfl, kyes c h2⟩
 have kapart : ∀ i, i ∈ pe f0 256 → ¬ D i ∧ i ∉ now :: q := fun i hi => by
  obtain ⟨c, _, h2⟩ := kid i hi
  exact ⟨fun h => hap.1 (L.up i now w c h2 hw (.inl h)), fun h => hap.1 (L.up i now w c h2 hw (.inr h))⟩
 have bk : ∀ c : UInt8, ws[(gt s0 b).nx c.toNat]? = some (ls ws (fl ws w ++ [c])) := fun c => by
  have := L.dn b hbl _ c hb.1 hb.2
  rw [gM hbl] at this; exact this
 have hqn := L.qnd
 rw [List.nodup_cons] at hqn
 have len := I.len
 have hshort : ∀ j v, ws[j]? = some v → v.length ≤ w.length → (D j ∨ j = now) ∨ j ∈ q := fun j v hj hv => by
  by_cases hlt : v.length < w.length
  ·rcases L.ord [] now q rfl w hw j v hj hlt with h | h
   ·exact .inl (.inl h)
   ·cases h
  ·rcases List.eq_nil_or_concat v with h | ⟨u, c, h⟩
   ·subst h; exact .inl (.inl (by rw [jr L.nd hj L.z]; exact L.root))
   ·rw [List.concat_eq_append] at h
    subst h
    rw [List.length_append, List.length_singleton] at hv
    obtain ⟨m, hm⟩ := List.getElem?_of_mem (L.pre u c (List.mem_of_getElem? hj))
    have hDm : D m := by
     rcases L.ord [] now q rfl w hw m u hm (by omega) with h | h
     ·exact h
     ·cases h
    rcases L.child j m u c hj hm hDm with h | h
    ·exact .inl (.inl h)
    ·rcases List.mem_cons.1 h with h | h
     ·exact .inl (.inr h)
     ·exact .inr h
 refine ⟨⟨by rw [len]; exact L.len, L.nd, L.z, L.pre, .inl L.root, ?_, ?_, ?_, ?_, ?_, ?_, ?_, ?_, ?_, ?_⟩, ?_⟩
 ·intro i hi v c hv hD hz
  rw [gM hi, I.nx i _ c.toNat_lt, if_neg (fun h => hD (.inr h)), ← gM (by omega)] at hz
  exact L.no i (by omega) v c hv (fun h => hD (.inl h)) hz
 ·intro i hi v c hv hD hz
  rw [gM hi, I.nx i _ c.toNat_lt, if_neg (fun h => hD (.inr h)), ← gM (by omega)] at hz ⊢
  exact L.yes i (by omega) v c hv (fun h => hD (.inl h)) hz
 ·intro i hi v c hv hD
  rw [gM hi, I.nx i _ c.toNat_lt]
  by_cases hin : i = now
  ·subst hin
   have hvw : v = w := Option.some.inj (hv.symm.trans hw)
   subst hvw
   rw [if_pos rfl]
   by_cases h0 : f0 c.toNat = 0
   ·rw [if_pos ⟨c.toNat_lt, h0⟩, bk c, ← KI P v hne c (kno c h0)]
   ·rw [if_neg (fun hh => h0 hh.2), kyes c h0, GX (List.mem_of_getElem? (kyes c h0))]
  ·rw [if_neg hin, ← gM (by omega)]
   exact L.dn i (by omega) v c hv (hD.resolve_right hin)
 ·intro i hi v hv hm
  rw [gM hi]
  by_cases hk : i ∈ pe f0 256
  ·obtain ⟨c, h1, h2⟩ := kid i hk
   have hvw : v = w ++ [c] := Option.some.inj (hv.symm.trans h2)
   subst hvw
   obtain ⟨d, hd1, hd2, hd3⟩ := rI.1 hk
   obtain ⟨c', rfl⟩ := B1 hd1
   have h3 := kyes c' hd2
   rw [hd3, h2] at h3
   have hcc : c = c' := by
    have := (List.append_inj' (Option.some.inj h3) rfl).2
    exact (List.cons.inj this).1
   subst hcc
   have := I.fa1 c.toNat c.toNat_lt hd2
   rw [h1] at this
   rw [this, bk c, E1 P w hne c]
  ·rw [I.fa0 i fun d hd hf hh => hk (rI.2 ⟨d, hd, hf, hh⟩), ← gM (by omega)]
   refine L.fa i (by omega) v hv ?_
   rcases hm with (h | h) | h
   ·exact .inl h
   ·exact .inr (h ▸ List.mem_cons_self)
   ·rcases List.mem_append.1 h with h | h
    ·exact .inr (List.mem_cons_of_mem _ h)
    ·exact absurd h hk
 ·intro i hi v hv hD
  rw [gM hi, I.ou]
  by_cases hin : i = now
  ·subst hin
   have hvw : v = w := Option.some.inj (hv.symm.trans hw)
   rw [if_pos rfl, hvw]; exact ho
  ·rw [if_neg hin, ← gM (by omega)]
   exact L.ou i (by omega) v hv (hD.resolve_right hin)
 ·intro i hi v hv
  rw [gM hi, I.en, ← gM (by omega)]
  exact L.en i (by omega) v hv
 ·intro i hi
  rcases List.mem_append.1 hi with h | h
  ·have h1 := L.apart i (List.mem_cons_of_mem _ h)
   exact ⟨fun hh => hh.elim h1.1 fun e => hqn.1 (e ▸ h), by omega⟩
  ·obtain ⟨c, _, h2⟩ := kid i h
   have h3 := kapart i h
   exact ⟨fun hh => hh.elim h3.1 fun e => h3.2 (e ▸ List.mem_cons_self), by rw [len]; exact L.lt h2⟩
 ·refine List.nodup_append.2 ⟨hqn.2, ?_, fun a ha b hb hab => ?_⟩
  ·unfold pe
   refine List.pairwise_map.2 ?_
   have hp : (List.range 256).Pairwise fun a b => a < b := List.pairwise_lt_range
   rw [List.pairwise_filter]
   refine hp.imp_of_mem fun {a b} ha hb hab h1 h2 he => ?_
   obtain ⟨x, rfl⟩ := B1 (List.mem_range.1 ha)
   obtain ⟨y, rfl⟩ := B1 (List.mem_range.1 hb)
   have e1 := kyes x (of_decide_eq_true h1)
   have e2 := kyes y (of_decide_eq_true h2)
   rw [he, e2] at e1
   have := (List.append_inj' (Option.some.inj e1) rfl).2
   have := (List.cons.inj this).1
   subst this; omega
  ·subst hab; exact (kapart a hb).2 (List.mem_cons_of_mem _ ha)
 ·intro i j v c hi hj hD
  by_cases hjn : j = now
  ·subst hjn
   have hvw : v = w := Option.some.inj (hj.symm.trans hw)
   subst hvw
   by_cases h0 : f0 c.toNat = 0
   ·exact absurd (List.mem_of_getElem? hi) (kno c h0)
   ·have := jr L.nd (kyes c h0) hi
    exact .inr (List.mem_append_right _ (rI.2 ⟨c.toNat, c.toNat_lt, h0, this⟩))
  ·rcases L.child i j v c hi hj (hD.resolve_right hjn) with h | h
   ·exact .inl (.inl h)
   ·rcases List.mem_cons.1 h with h | h
    ·exact .inl (.inr h)
    ·exact .inr (List.mem_append_left _ h)
 ·intro p i q' he v hv j u hj hlt
  rcases List.append_eq_append_iff.1 he with ⟨a', h1, h2⟩ | ⟨c', h1, h2⟩
  ·
   have hik : i ∈ pe f0 256 := by rw [h2]; simp
   obtain ⟨c, _, h3⟩ := kid i hik
   have hvw : v = w ++ [c] := Option.some.inj (hv.symm.trans h3)
   subst hvw
   rw [List.length_append, List.length_singleton] at hlt
   rcases hshort j u hj (by omega) with h | h
   ·exact .inl h
   ·exact .inr (by rw [h1]; exact List.mem_append_left _ h)
  ·cases c' with
   | nil =>
    rw [List.nil_append] at h2
    have hik : i ∈ pe f0 256 := by rw [← h2]; simp
    obtain ⟨c, _, h3⟩ := kid i hik
    have hvw : v = w ++ [c] := Option.some.inj (hv.symm.trans h3)
    subst hvw
    rw [List.length_append, List.length_singleton] at hlt
    rcases hshort j u hj (by omega) with h | h
    ·exact .inl h
    ·rw [List.append_nil] at h1
     exact .inr (by rw [← h1]; exact h)
   | cons x c' =>
    rw [List.cons_append, List.cons.injEq] at h2
    obtain ⟨rfl, h2⟩ := h2
    rcases L.ord (now :: p) i c' (by rw [h1]; rfl) v hv j u hj hlt with h | h
    ·exact .inl (.inl h)
    ·rcases List.mem_cons.1 h with h | h
     ·exact .inl (.inr h)
     ·exact .inr h
 ·intro i j v c hi hj hD
  rcases hD with (h | h) | h
  ·exact .inl (L.up i j v c hi hj (.inl h))
  ·exact .inl (L.up i j v c hi hj (.inr (h ▸ List.mem_cons_self)))
  ·rcases List.mem_append.1 h with h | h
   ·exact .inl (L.up i j v c hi hj (.inr (List.mem_cons_of_mem _ h)))
   ·obtain ⟨d, _, h3⟩ := kid i h
    have := (List.append_inj' (Option.some.inj (hi.symm.trans h3)) rfl).1
    subst this
    exact .inr (jr L.nd hj hw)
theorem tI.start (T : tI sg ws E) : Lq sg ws E (fun i => i ∈ [0]) (pe (gt sg 0).nx 256) := by
 have P : Pre ws := ⟨List.mem_of_getElem? T.z, T.pre⟩
 have h0 := T.lt T.z
 generalize hf0 : (gt sg 0).nx = f0
 have kyes : ∀ c : UInt8, f0 c.toNat ≠ 0 → ws[f0 c.toNat]? = some [c] := fun c hc => by
  have := T.yes 0 h0 [] c T.z (by rw [gM h0, hf0]; exact hc)
  rw [gM h0, hf0] at this; exact this
 have kno : ∀ c : UInt8, f0 c.toNat = 0 → [c] ∉ ws := fun c hc => T.no 0 h0 [] c T.z (by rw [gM h0, hf0]; exact hc)
 have kid : ∀ i, i ∈ pe f0 256 → ∃ c : UInt8, f0 c.toNat = i ∧ ws[i]? = some [c] := fun i hi => by
  obtain ⟨d, h1, h2, h3⟩ := rI.1 hi
  obtain ⟨c, rfl⟩ := B1 h1
  subst h3
  exact ⟨c, rfl, kyes c h2⟩
 have z : ∀ {i : Nat}, i ∈ [0] → i = 0 := fun h => List.mem_singleton.1 h
 have nz : ∀ {i : Nat} {c : UInt8}, ws[i]? = some [c] → i ≠ 0 := fun h e => by subst e; have := Option.some.inj (h.symm.trans T.z); cases this
 have lsn : ls ws [] = [] := rfl
 refine ⟨⟨T.len, T.nd, T.z, T.pre, List.mem_singleton.2 rfl, fun i hi v c hv _ => T.no i hi v c hv, fun i hi v c hv _ => T.yes i hi v c hv, ?_, ?_, ?_, T.en, ?_, ?_, ?_, ?_⟩, ?_⟩
 ·intro i hi v c hv hD
  have := z hD
  subst this
  have hvn : v = [] := Option.some.inj (hv.symm.trans T.z)
  subst hvn
  rw [gM hi, hf0]
  by_cases hc : f0 c.toNat = 0
  ·rw [hc, T.z]
   congr 1
   show [] = ls ws [c]
   unfold ls; rw [if_neg (kno c hc)]; rfl
  ·rw [kyes c hc]
   congr 1
   exact (GX (List.mem_of_getElem? (kyes c hc))).symm
 ·intro i hi v hv hm
  rw [(T.fo i hi).1, T.z]
  congr 1
  rcases hm with h | h
  ·have := z h
   subst this
   have hvn : v = [] := Option.some.inj (hv.symm.trans T.z)
   subst hvn; rfl
  ·obtain ⟨c, _, h2⟩ := kid i h
   have hvn : v = [c] := Option.some.inj (hv.symm.trans h2)
   subst hvn; rfl
 ·intro i hi v hv hD
  have := z hD
  subst this
  have hvn : v = [] := Option.some.inj (hv.symm.trans T.z)
  subst hvn
  rw [(T.fo 0 hi).2, T.z, tQ]
 ·intro i hi
  obtain ⟨c, _, h2⟩ := kid i hi
  exact ⟨fun h => nz h2 (z h), T.lt h2⟩
 ·unfold pe
  refine List.pairwise_map.2 ?_
  have hp : (List.range 256).Pairwise fun a b => a < b := List.pairwise_lt_range
  rw [List.pairwise_filter]
  refine hp.imp_of_mem fun {a b} ha hb hab h1 h2 he => ?_
  obtain ⟨x, rfl⟩ := B1 (List.mem_range.1 ha)
  obtain ⟨y, rfl⟩ := B1 (List.mem_range.1 hb)
  have e1 := kyes x (of_decide_eq_true h1)
  have e2 := kyes y (of_decide_eq_true h2)
  rw [he, e2] at e1
  have := (List.cons.inj (Option.some.inj e1)).1
  subst this; omega
 ·intro i j v c hi hj hD
  have := z hD
  subst this
  have hvn : v = [] := Option.some.inj (hj.symm.trans T.z)
  subst hvn
  by_cases hc : f0 c.toNat = 0
  ·exact absurd (List.mem_of_getElem? hi) (kno c hc)
  ·exact .inr (rI.2 ⟨c.toNat, c.toNat_lt, hc, jr T.nd (kyes c hc) hi⟩)
 ·intro p i q' he v hv j u hj hlt
  obtain ⟨c, _, h2⟩ := kid i (by rw [he]; simp)
  have hvn : v = [c] := Option.some.inj (hv.symm.trans h2)
  subst hvn
  have : u = [] := List.length_eq_zero_iff.1 (by simpa using hlt)
  subst this
  exact .inl (List.mem_singleton.2 (jr T.nd hj T.z))
 ·intro i j v c hi hj hD
  rcases hD with h | h
  ·have := z h
   subst this
   have := Option.some.inj (hi.symm.trans T.z)
   simp at this
  ·obtain ⟨d, _, h2⟩ := kid i h
   have := (List.append_inj' (s₁ := v) (s₂ := []) (Option.some.inj (hi.symm.trans h2)) rfl).1
   subst this
   exact List.mem_singleton.2 (jr T.nd hj T.z)
structure Bq (sg : List St) (ws : List Nm) (E : Nm → List Nat) : Prop where
 len : sg.length = ws.length
 nd : ws.Nodup
 z : ws[0]? = some []
 pre : ∀ w c, w ++ [c] ∈ ws → w ∈ ws
 nx : ∀ i (hi : i < sg.length) w (c : UInt8), ws[i]? = some w → ws[sg[i].nx c.toNat]? = some (ls ws (w ++ [c]))
 ou : ∀ i (hi : i < sg.length) w, ws[i]? = some w → ws[sg[i].ou]? = some (vm ws E w)
 en : ∀ i (hi : i < sg.length) w, ws[i]? = some w → sg[i].en = E w
theorem Lk.done (L : Lk sg ws E D []) : Bq sg ws E :=
 ⟨L.len, L.nd, L.z, L.pre, fun i hi w c hw => L.dn i hi w c hw (L.all _ w (Nat.le_refl _) i hw), fun i hi w hw => L.ou i hi w hw (L.all _ w (Nat.le_refl _) i hw), L.en⟩
end
end Go.Proofs.YtjmfpeiidlpngaaGreatDoor.Au
namespace Go.Proofs.YtjmfpeiidlpngaaGreatDoor
set_option linter.unusedSimpArgs false
set_option linter.unusedVariables false
set_option maxRecDepth 20000
open Go
def E4 (h : aB) (a : Option Addr) (cap sz : Nat) (cs : List Value) : Prop :=
 match a with
 | none => cs = [] ∧ cap = 0
 | some ad => ad.spot = none ∧ ∃ ds t fr, KV ds.size fr ∧ h[ad.block]? = some (.cells ds t fr) ∧ ad.off + cap * sz ≤ ds.size ∧ ad.off + cs.length ≤ ds.size ∧ ∀ i (hi : i < cs.length), ds[ad.off + i]? = some cs[i]
theorem E4.fr {S : Nat → Prop} {h h' : aB} {a : Option Addr} {cap sz : Nat} {cs : List Value} (ho : E4 h a cap sz cs) (hf : Fr S h h') (hs : ∀ b, InA a b → ¬ S b) : E4 h' a cap sz cs := by
 cases a with
 | none => exact ho
 | some ad =>
  obtain ⟨h2, ds, t, fr, hfr, hg, hr⟩ := ho
  exact ⟨h2, ds, t, fr, hfr, hf.get hg (hs _ ⟨ad, rfl, rfl⟩), hr⟩
theorem E4.cells {h : aB} {ad : Addr} {cap sz : Nat} {cs : List Value} (ho : E4 h (some ad) cap sz cs) : aY h ad cs := by
 obtain ⟨h2, ds, t, fr, hfr, hg, _, _, hc⟩ := ho
 intro j hj
 obtain ⟨b, o, s⟩ := ad
 simp only at h2 hg hc
 subst h2
 rw [gN, kH hg]; exact hc j hj
section
variable {P : Program} {h : aB}
theorem EI {sT xT ty el : TypeId} {consts : Array Bool} {i : TypeInfo} {z : Value} {d : TypeDesc} (t : gU P sT el i z) (hX : P.underlying xT = some d) (hd : ∀ k, d ≠ .int k)
  {a : Option Addr} {n cap m : Nat} {cs xs : List Value} {x : Value} (ho : E4 h a cap i.size cs) (hn : cs.length = n * i.size) (hnc : n ≤ cap) (s : Src h i.size x m xs) (hv : ∀ v ∈ xs, eH v = true)
  (hlim : (8 * (n + m) + 4000) * i.bytes ≤ 2 ^ 48) {K : Value → aB → Prop}
  (hk : ∀ (a' : Option Addr) (cap' : Nat) (h' : aB), E4 h' a' cap' i.size (cs ++ xs) → n + m ≤ cap' → Fr (InA a) h h' → (∀ b, InA a' b → InA a b ∨ h.size ≤ b) → K (.slice a' (n + m) cap') h') :
  cQ P .append #[sT, xT] ty consts #[.slice a n cap, x] h K := by
 have hxl := s.len
 unfold cQ builtin
 simp only [bind]
 rw [aQ]
 unfold Builtin.append_
 simp only [List.getElem?_toArray, List.getElem?_cons_zero, List.getElem?_cons_succ, bind]
 rw [aQ]
 refine bU t.und ?_
 simp only
 rw [aQ]
 refine tw (by rw [t.info]; rfl) ?_
 have hsz : gW P el = i.size := by simp [gW, t.info]
 rw [hsz, aQ]
 refine bU hX ?_
 have hfalse : (match d with | .int _ => true | _ => false) = false := by
  cases d <;> first | rfl | exact absurd rfl (hd _)
 simp only [pure, Sem.bind, hfalse]
 simp only [Bool.false_eq_true, if_false]
 rw [aQ]
 refine Hm s ?_
 split
 case isTrue hle =>
  rw [aQ]
  refine qO s ?_
  cases a with
  | none =>
   obtain ⟨rfl, rfl⟩ := ho
   have hm : m = 0 := by omega
   have hn0 : n = 0 := by omega
   subst hm hn0
   have : xs = [] := by rw [← List.length_eq_zero_iff, hxl]; simp
   subst this
   exact hk none 0 h ⟨rfl, rfl⟩ (by omega) (Fr.refl _ _) (fun b hb => .inl hb)
  | some ad =>
   obtain ⟨h2, ds, ty', fr, hfr, hg, hcap, hlen, hc⟩ := ho
   obtain ⟨b, o, sp⟩ := ad
   simp only at h2 hg hcap hlen hc
   subst h2
   simp only
   rw [aQ]
   have hadd : ∀ j, (Addr.add (Addr.add ⟨b, o, none⟩ (n * i.size)) j) = ⟨b, (o + n * i.size) + j, none⟩ := fun j => by rw [gN, gN]
   have hfit : (o + n * i.size) + xs.length ≤ ds.size := by
    have : (n + m) * i.size ≤ cap * i.size := Nat.mul_le_mul_right _ hle
    rw [Nat.add_mul] at this
    omega
   refine te hadd xs 0 ds h hg hfr hv (by omega) ?_
   simp only [Nat.add_zero, pure, wpH, nxK]
   refine hk _ _ _ ⟨rfl, _, ty', fr, by rw [iC]; exact hfr, l6 hg, ?_, ?_, ?_⟩ hle (Fr.set _ _ ⟨_, rfl, rfl⟩) (fun b hb => .inl hb)
   ·rw [iC]; exact hcap
   ·rw [iC, List.length_append]; show o + _ ≤ _; omega
   ·intro j hj
    rw [qV _ _ _ hfit]
    rw [List.length_append] at hj
    show (if _ then _ else ds[o + j]?) = _
    by_cases hjn : j < cs.length
    ·rw [if_neg (by show ¬ (_ ≤ o + j ∧ _); omega), hc j hjn, List.getElem_append_left hjn]
    ·rw [if_pos (by show _ ≤ o + j ∧ o + j < _; omega), List.getElem_append_right (by omega), List.getElem?_eq_getElem (by show o + j - _ < _; omega)]
     congr 2; show o + j - _ = _; omega
 case isFalse hgt =>
  have hgt' : cap < n + m := by omega
  rw [aQ]
  have hp : (2 : Nat) ^ 48 = 281474976710656 := by decide
  have hb1 : 1 ≤ i.bytes := t.bytes
  have hneed : 8 * (n + m) + 4000 ≤ 2 ^ 48 := Nat.le_trans (Nat.le_mul_of_pos_right _ t.bytes) hlim
  refine kw t.info ?_
  have c1 : ¬ (((n + m : Nat) : Int) > IntKind.i64.max ∧ (False ∨ i.bytes = 0)) := by
   rintro ⟨_, h | h⟩
   ·exact h
   ·omega
  rw [if_neg c1]
  rw [aQ]
  refine kw t.info ?_
  have c2 : ¬ (Builtin.nextslicecap (n + m) cap * i.bytes > 2 ^ 48) := by
   have := Nat.mul_le_mul_right i.bytes (BL hgt')
   omega
  rw [if_neg c2]
  rw [aQ]
  unfold choose
  refine ⟨fun q => ?_, fun hq => by simp [Question.forced] at hq⟩
  simp only [wpH, Question.cut]
  rw [aQ]
  refine kw t.info ?_
  have room : ∀ {K : Unit → aB → Prop} {b : Nat} {h : aB}, K () h → wpH P (askRoom b) K h := fun hk => by
   unfold askRoom; split <;> exact hk
  rw [aQ]
  refine room ?_
  rw [aQ]
  have sold : Src h i.size (.slice a n cap) n cs := by
   cases a with
   | none =>
    obtain ⟨rfl, rfl⟩ := ho
    have : n = 0 := by omega
    subst this; exact .nil _
   | some ad => exact .sl ad n cap cs hn ho.cells
  refine qO sold ?_
  rw [aQ]
  refine qO s ?_
  rw [aQ]
  have zr : ∀ {K : Value → aB → Prop} {h : aB}, K z h → wpH P (zeroValue el) K h := fun hk => by
   unfold zeroValue; simp only [bind]; rw [aQ]; refine kw t.info ?_; rw [t.zero]; exact hk
  refine zr ?_
  rw [aQ]
  unfold newRow newObj
  simp only [bind, Sem.bind, wpH, pure, nxK]
  refine hk _ _ _ ⟨rfl, _, _, (0, 0), .inl rfl, dN, ?_, ?_, ?_⟩ (by omega) (Fr.push _ _ _) (fun b hb => ?_)
  ·simp only [Array.size_append, rp, t.size]
   simp only [List.size_toArray, hn, hxl, Nat.zero_add]
   rw [← Nat.add_mul, ← Nat.add_mul]
   exact Nat.mul_le_mul_right _ (by omega)
  ·simp only [Array.size_append, List.size_toArray, List.length_append]; omega
  ·intro j hj
   have hja : j < (cs.toArray ++ xs.toArray).size := by simpa using hj
   rw [Nat.zero_add, Array.getElem?_append_left hja]
   simp only [List.append_toArray, List.getElem?_toArray]
   exact List.getElem?_eq_getElem hj
  ·obtain ⟨ad, he, rfl⟩ := hb
   cases he
   exact .inr (Nat.le_refl _)
end
structure Que {α : Type} (sz : Nat) (vals : α → List Value) (h : aB) (p : Option Addr) (cap : Nat) (L : List α) : Prop where
 own : E4 h p cap sz (L.flatMap vals)
 le : L.length ≤ cap
section
variable {α : Type} {sz : Nat} {vals : α → List Value} {h : aB} {p : Option Addr} {cap : Nat} {L : List α}
theorem Que.nil : Que sz vals h none 0 ([] : List α) := ⟨⟨rfl, rfl⟩, Nat.le_refl _⟩
theorem Que.fr {S : Nat → Prop} {h' : aB} (R : Que sz vals h p cap L) (f : Fr S h h') (hs : ∀ b, InA p b → ¬ S b) : Que sz vals h' p cap L := ⟨R.own.fr f hs, R.le⟩
theorem Que.fr0 {h' : aB} (f : Fr (fun _ => False) h h') (R : Que sz vals h p cap L) : Que sz vals h' p cap L := R.fr f fun _ _ => id
theorem Que.cellsAt (R : Que sz vals h p cap L) (hv : ∀ x, (vals x).length = sz) (h0 : 0 < sz) (i : Nat) (hi : i < L.length) : ∃ ad, p = some ad ∧ aY h (ad.add (i * sz)) (vals L[i]) := by
 cases p with
 | none =>
  have := R.own.1
  rw [List.flatMap_eq_nil_iff] at this
  have h1 := hv L[i]
  rw [this _ (List.getElem_mem hi)] at h1
  simp at h1; omega
 | some ad =>
  refine ⟨ad, rfl, fun j hj => ?_⟩
  rw [lY]
  refine R.own.cells.at ?_
  rw [wh hv L i j hi (by rw [hv] at hj; exact hj), List.getElem?_eq_getElem hj]
theorem Que.idx (R : Que sz vals h p cap L) (hv : ∀ x, (vals x).length = sz) (h0 : 0 < sz) {n : Int} (i : Nat) (hn : n = i) (hi : i < L.length) {K : Addr → Prop} (hk : ∀ ad, aY h (ad.add (i * sz)) (vals L[i]) → K ad) : bO n L.length (nn p fun a => K a) := by
 refine bQ i hn hi ?_
 obtain ⟨ad, rfl, c⟩ := R.cellsAt hv h0 i hi
 exact aV (hk ad c)
theorem Que.pop {x : α} {L : List α} (R : Que sz vals h p cap (x :: L)) (hv : ∀ x, (vals x).length = sz) (h0 : 0 < sz) {K : Option Addr → Nat → Nat → Prop} (hk : ∀ p' cap', (∀ b, InA p' b → InA p b) → Que sz vals h p' cap' L → K p' L.length cap') :
  fM sz p (x :: L).length cap (some 1) none none K := by
 have hle := R.le
 rw [List.length_cons] at hle
 have hx := hv x
 unfold fM
 refine ⟨by omega, by rw [List.length_cons]; omega, ?_⟩
 have e1 : (1 : Int).toNat = 1 := rfl
 rw [e1, List.length_cons, Nat.add_sub_cancel]
 cases p with
 | none => exact absurd R.own.2 (by omega)
 | some ad =>
  obtain ⟨h2, ds, t, fr, hfr, hg, hcap, hlen, hc⟩ := R.own
  rw [List.flatMap_cons, List.length_append, hx] at hlen
  by_cases hc1 : cap = 1
  ·rw [if_pos hc1]
   have hL : L = [] := List.length_eq_zero_iff.1 (by omega)
   subst hL
   exact hk _ _ (fun b hb => hb) ⟨⟨h2, ds, t, fr, hfr, hg, by subst hc1; omega, by simp at hlen ⊢; omega, fun i hi => absurd hi (Nat.not_lt_zero _)⟩, Nat.zero_le _⟩
  ·rw [if_neg hc1]
   obtain ⟨b, o, sp⟩ := ad
   simp only at h2 hg hcap hlen hc
   subst h2
   have ea : (Option.map (fun x => Addr.add x (1 * sz)) (some (⟨b, o, none⟩ : Addr))) = some ⟨b, o + sz, none⟩ := by
    show some (Addr.add _ _) = _
    rw [gN, Nat.one_mul]
   rw [ea]
   refine hk _ _ (fun x hx => by obtain ⟨ad, he, hb⟩ := hx; cases he; exact ⟨_, rfl, hb⟩) ⟨⟨rfl, ds, t, fr, hfr, hg, ?_, ?_, fun i hi => ?_⟩, by omega⟩
   ·have : cap * sz = sz + (cap - 1) * sz := by
     obtain ⟨c, rfl⟩ : ∃ c, cap = c + 1 := ⟨cap - 1, by omega⟩
     rw [Nat.succ_mul, Nat.add_sub_cancel]; omega
    show o + sz + _ ≤ _
    omega
   ·show o + sz + _ ≤ _; omega
   ·have := hc (sz + i) (by rw [List.flatMap_cons, List.length_append, hx]; omega)
    show ds[o + sz + i]? = _
    rw [Nat.add_assoc, this]
    congr 1
    rw [List.getElem_append_right' (vals x) hi]
    simp only [hx, List.flatMap_cons]
    congr 1
    omega
theorem Que.appL {P : Program} {sT xT ty el : TypeId} {consts : Array Bool} {i : TypeInfo} {z : Value} {d : TypeDesc} (t : gU P sT el i z) (hX : P.underlying xT = some d) (hd : ∀ k, d ≠ .int k) (hz : i.size = sz) (hb : i.bytes ≤ 2000) (hv : ∀ x, (vals x).length = sz) (hc : ∀ x, (vals x).all eH = true)
  (R : Que sz vals h p cap L) {M : List α} {x : Value} (s : Src h sz x M.length (M.flatMap vals)) (hl : L.length + M.length ≤ 2 ^ 30) {K : Value → aB → Prop}
  (hk : ∀ p' cap' h', Que sz vals h' p' cap' (L ++ M) → Fr (InA p) h h' → (∀ b, InA p' b → InA p b ∨ h.size ≤ b) → K (.slice p' (L ++ M).length cap') h') :
  cQ P .append #[sT, xT] ty consts #[.slice p L.length cap, x] h K := by
 subst hz
 refine EI t hX hd (m := M.length) (xs := M.flatMap vals) R.own (mq hv L) R.le s (Dn hc M) (lim hb hl) fun p' c' h' o' hc' f hn => ?_
 have el : L.length + M.length = (L ++ M).length := by simp
 rw [el] at hc' ⊢
 refine hk p' c' h' ⟨?_, hc'⟩ f hn
 rw [List.flatMap_append]; exact o'
theorem Que.app {P : Program} {sT xT ty el T : TypeId} {consts : Array Bool} {i : TypeInfo} {z : Value} {d : TypeDesc} (t : gU P sT el i z) (hX : P.underlying xT = some d) (hd : ∀ k, d ≠ .int k) (hz : i.size = sz) (hb : i.bytes ≤ 2000) (hv : ∀ x, (vals x).length = sz) (hc : ∀ x, (vals x).all eH = true)
  (R : Que sz vals h p cap L) {e : α} {b : Addr} (ob : Own h b (vals e) T) (c : Nat) (hl : L.length ≤ 2 ^ 29) {K : Value → aB → Prop}
  (hk : ∀ p' cap' h', Que sz vals h' p' cap' (L ++ [e]) → Fr (InA p) h h' → (∀ b, InA p' b → InA p b ∨ h.size ≤ b) → K (.slice p' (L ++ [e]).length cap') h') :
  cQ P .append #[sT, xT] ty consts #[.slice p L.length cap, .slice (some b) 1 c] h K := by
 have s : Src h sz (.slice (some b) 1 c) [e].length ([e].flatMap vals) := by
  have : [e].flatMap vals = vals e := by simp
  rw [this]; exact Src.sl b 1 c (vals e) (by rw [hv]; simp) ob.cells
 exact R.appL t hX hd hz hb hv hc s (by simp only [List.length_singleton]; omega) hk
end
end Go.Proofs.YtjmfpeiidlpngaaGreatDoor
namespace Go.Proofs.YtjmfpeiidlpngaaGreatDoor.Au
set_option linter.unusedSimpArgs false
set_option linter.unusedVariables false
set_option maxRecDepth 20000
open Go
open Go.IntKind (wrap)
def EH (n : Nat) : List Value := [.int .u16 n]
theorem yP (n : Nat) : (EH n).length = 1 := rfl
theorem IK : gU Tryz.prog lB AX Tryz.t170 (.int .u16 0) := ⟨Tryz.underlying205, by kernel_rfl, by kernel_rfl, by kernel_rfl, by decide⟩
theorem AH (f : Nat → Nat) (n : Nat) : (pe f n).length ≤ n := by
 unfold pe
 rw [List.length_map]
 exact Nat.le_trans (List.length_filter_le ..) (by rw [List.length_range]; exact Nat.le_refl _)
theorem Bm {l : List Nat} {n : Nat} (h : l.Nodup) (hl : ∀ x ∈ l, x < n) : l.length ≤ n := by
 induction n generalizing l with
 | zero =>
  cases l with
  | nil => exact Nat.le_refl _
  | cons a l => exact absurd (hl a List.mem_cons_self) (Nat.not_lt_zero _)
 | succ n ih =>
  have h1 := ih (h.erase n) fun x hx => by
   have h2 := (List.Nodup.mem_erase_iff h).1 hx
   have := hl x h2.2
   have := h2.1
   omega
  rw [List.length_erase] at h1
  split at h1 <;> omega
section
variable {o : Tag} {k : Nat} {h : aB} {a : Addr} {sg : List St} {pq : Option Addr} {pn pc : Nat} {ws : List Nm} {E : Nm → List Nat}
theorem K4 [Gh] {h0 : aB} {o : Tag} {s0 : List St} {now b : Nat} {q : List Nat} {p : Option Addr} {cap : Nat} {ad : Addr} {ca : Nat}
  (hlen : s0.length ≤ 40000) (hq : q.length ≤ 40000) (A : jZ o k h a s0 pq pn pc) (hc : hcell h a = some (.slice (some ad) s0.length ca)) (hn : now < s0.length) (hb : b < s0.length) (hnb : now ≠ b)
  (hk0 : ∀ d, d < 256 → (gt s0 now).nx d < s0.length) (hkb : ∀ d, d < 256 → (gt s0 b).nx d < s0.length) (hu : ∀ c d, c < 256 → d < 256 → (gt s0 now).nx c ≠ 0 → (gt s0 now).nx c = (gt s0 now).nx d → c = d)
  (Qu : Que 1 EH h p cap q) (hz : h0.size ≤ h.size) (hnew : ∀ x, InA p x → h0.size ≤ x) (ho : ∀ x, h0.size ≤ x → o x = k)
  {Q : Value → aB → Prop} {Kn : (Option Addr) × Nat × Nat → aB → Prop}
  (hk : ∀ h' sg p' cap', Fr (fun x => o x = k + 2 ∨ h0.size ≤ x) h h' → jZ o k h' a sg pq pn pc → Inn s0 sg now (gt s0 now).nx (gt s0 b).nx (gt s0 now).ou 256 → Que 1 EH h' p' cap' (q ++ pe (gt s0 now).nx 256) → (∀ x, InA p' x → h0.size ≤ x) → Kn (p', (q ++ pe (gt s0 now).nx 256).length, cap') h') :
  cJ (some a) p q.length cap (ad.add (now * 259)) (ad.add (b * 259)) Q Kn h := by
 unfold cJ
 obtain ⟨q', c', hc2, hcs⟩ := A.cell
 have e := hc.symm.trans hc2
 simp only [Option.some.injEq, Value.slice.injEq] at e
 obtain ⟨rfl, _, rfl⟩ := e
 obtain ⟨ad', hq', ci⟩ := hcs now hn
 cases hq'
 refine Ja ci ?_
 rw [gM hn]
 generalize hf0 : (gt s0 now).nx = f0 at *
 refine aH.go (fun n st h' => ∃ (c : Nat) (sg : List St) (p' : Option Addr) (cap' : Nat), st.1 = p' ∧ st.2.1 = (q ++ pe f0 c).length ∧ st.2.2.1 = cap' ∧ st.2.2.2 = (c : Int) ∧ c ≤ 256 ∧ n = 256 - c ∧ Fr (fun x => o x = k + 2 ∨ h0.size ≤ x) h h' ∧ jZ o k h' a sg pq pn pc ∧ hcell h' a = some (.slice (some ad) s0.length ca) ∧ Inn s0 sg now f0 (gt s0 b).nx (gt s0 now).ou c ∧ Que 1 EH h' p' cap' (q ++ pe f0 c) ∧ (∀ x, InA p' x → h0.size ≤ x)) 256
  ⟨0, s0, p, cap, rfl, by simp [pe], rfl, rfl, by omega, rfl, Fr.refl _ _, A, hc, ⟨rfl, fun _ => rfl, fun i => ?_, fun i d hd => ?_, fun d hd => absurd hd (Nat.not_lt_zero _), fun i hi => rfl⟩, by simpa [pe] using Qu, hnew⟩ ?_
 ·by_cases h : i = now
  ·rw [if_pos h, h]
  ·rw [if_neg h]
 ·rw [if_neg (fun hh : d < 0 ∧ f0 d = 0 => Nat.not_lt_zero _ hh.1)]
  by_cases h : i = now
  ·rw [if_pos h, h, hf0]
  ·rw [if_neg h]
 rintro n ⟨qa, qn, qc, t74⟩ h1 ⟨c, sg, p1, cap1, e1, e2, e3, e4, hc256, rfl, f1, A1, hc1, I1, Q1, hn1⟩ Kn5 hK
 dsimp only at e1 e2 e3 e4
 subst e1 e2 e3 e4
 dsimp only
 unfold ip
 have z1 := f1.size
 have hl1 := I1.len
 refine ifD (fun e => ?_) fun e => ?_
 ·have hc' : c < 256 := by omega
  refine bQ c rfl hc' ⟨_, JH f0 hc', _, rfl, ?_⟩
  obtain ⟨q2, c2, hc3, hcs1⟩ := A1.cell
  have e := hc1.symm.trans hc3
  simp only [Option.some.injEq, Value.slice.injEq] at e
  obtain ⟨rfl, _, rfl⟩ := e
  obtain ⟨adb, hab, cb⟩ := hcs1 b (by omega)
  cases hab
  have hbv : sg[b].nx c = (gt s0 b).nx c := by
   rw [gM (by omega), I1.nx b c hc', if_neg hnb.symm]
  rw [Int.toNat_natCast]
  have hkb' := hkb c hc'
  have hk0' := hk0 c hc'
  have rd : hcell h1 ((ad.add (b * 259)).add (c * 1)) = some (.int .u16 ((gt s0 b).nx c : Nat)) := by
   rw [Nat.mul_one, ← hbv]
   exact cb.at (DF _ hc')
  refine ifE (fun h0' => ?_) fun h0' => ?_
  ·have h0' : f0 c = 0 := by omega
   refine bQ c rfl hc' (aA rd (bQ c rfl hc' ?_))
   rw [Nat.mul_one]
   refine A1.put hc3 rfl now (by omega) (j := c) (by omega) (v := .int .u16 ((gt s0 b).nx c : Nat)) rfl { gt sg now with nx := wN (gt sg now).nx c ((gt s0 b).nx c) } (by rw [gM]; exact JG _ hc' _) (by rw [gM]) (by rw [gM]) (by rw [gM]) fun h2 f2 A2 => ?_
   rw [wr (by omega) (by omega)]
   refine hK (256 - (c + 1)) _ _ (by omega) ⟨c + 1, _, qa, qc, rfl, ?_, rfl, rfl, by omega, rfl, f1.tr f2 fun x hx hh => .inl hh, A2, ?_, I1.no hc' (by omega) h0', ?_, hn1⟩
   ·rw [m5, if_pos h0']
   ·exact f2.hcell hc1 fun hh => by have := A1.tag; omega
   ·rw [m5, if_pos h0']
    exact Q1.fr f2 fun x hx hh => by have := ho x (hn1 x hx); omega
  ·have h0' : f0 c ≠ 0 := fun h => h0' (by omega)
   refine aV (aC hc1 (bQ c rfl hc' (aA rd (bQ (f0 c) rfl (by omega) (aV ?_)))))
   rw [Int.toNat_natCast]
   refine A1.put hc3 rfl (f0 c) (by omega) (j := 256) (by omega) (v := .int .u16 ((gt s0 b).nx c : Nat)) rfl { gt sg (f0 c) with fa := (gt s0 b).nx c } (by rw [gM]; exact L5 _ _) (by rw [gM]) (by rw [gM]) (by rw [gM]) fun h2 f2 A2 => ?_
   have z2 := f2.size
   refine aU (vs := EH (f0 c)) fun t106 h3 f3 e3 o3 => ?_
   have z3 := f3.size
   have Q3 := (Q1.fr f2 fun x hx hh => by have := ho x (hn1 x hx); omega).fr0 f3
   have hkl := AH f0 c
   refine Q3.app IK Tryz.underlying205 (by intro k e; cases e) (by kernel_rfl) (by decide +kernel) yP (fun _ => rfl) o3 1 (by rw [List.length_append]; omega) fun p4 cap4 h4 Q4 f4 hn4 => ⟨_, _, _, rfl, ?_⟩
   have A4 : jZ o k h4 a (sg.set (f0 c) { gt sg (f0 c) with fa := (gt s0 b).nx c }) pq pn pc := (A2.fr0 f3).fr f4 (fun x hx hh => by have := ho x (hn1 x hh); omega) (Old.refl _ _)
   rw [wr (by omega) (by omega)]
   refine hK (256 - (c + 1)) _ _ (by omega) ⟨c + 1, _, p4, cap4, rfl, ?_, rfl, rfl, by omega, rfl, ((f1.tr f2 fun x hx hh => .inl hh).tr f3 fun _ _ h => h.elim).tr f4 fun x hx hh => .inr (hn1 x hh), A4, ?_, I1.yes hc' (by omega) h0' fun d hd hf hh => ?_, ?_, fun x hx => ?_⟩
   ·rw [m5, if_neg h0', ← List.append_assoc]
   ·have := A1.tag
    exact f4.hcell (f3.hcell (f2.hcell hc1 fun hh => by omega) id) fun hh => by have := ho _ (hn1 _ hh); omega
   ·have := hu d c (by omega) hc' hf hh; omega
   ·rw [m5, if_neg h0', ← List.append_assoc]; exact Q4
   ·rcases hn4 x hx with h | h
    ·exact hn1 x h
    ·omega
 ·have : c = 256 := by omega
  subst this
  exact hk h1 sg qa qc f1 A1 I1 Q1 hn1
theorem Mw [Gh] (A : jZ o k h a sg pq pn pc) (T : tI sg ws E) (hN : ws.length ≤ 40000) {Q : Value → aB → Prop}
  (hk : ∀ o' h' sg', Old h o o' → (∀ x, h.size ≤ x → o' x = k) → Fr (fun x => o x = k + 2) h h' → jZ o' k h' a sg' pq pn pc → Bq sg' ws E → Q (.tuple #[]) h') :
  aD Tryz.prog io #[.pointer (some a)] h Q := by
 apply qY
 unfold lx
 have hlen := T.len
 have h0 := T.lt T.z
 have hza := A.lt
 have tg := A.tag
 have hO : Old h o (upT o h.size k) := Old.up (Nat.le_refl _)
 have hup : ∀ x, h.size ≤ x → upT o h.size k x = k := fun x hx => kf hx
 have A' : jZ (upT o h.size k) k h a sg pq pn pc := A.fr (Fr.refl _ _) (fun _ _ h => False.elim h) hO
 have hlo : ∀ x, x < h.size → upT o h.size k x = o x := fun x hx => dX hx
 clear A
 generalize upT o h.size k = o1 at *
 obtain ⟨q, ca, hc, hcs⟩ := A'.cell
 obtain ⟨ad, had, ci⟩ := hcs 0 h0
 subst had
 refine aV (aC hc (bQ 0 rfl h0 (aV (Ja ci ?_))))
 rw [gM h0]
 have St0 := T.start
 have hk0 : ∀ d, d < 256 → (gt sg 0).nx d < sg.length := fun d hd => by
  by_cases hz : (gt sg 0).nx d = 0
  ·rw [hz]; exact h0
  ·exact (St0.apart _ (rI.2 ⟨d, hd, hz, rfl⟩)).2
 generalize hf0 : (gt sg 0).nx = f0 at *
 refine aH.go (fun n st h' => ∃ (c : Nat) (p' : Option Addr) (cap' : Nat), st.1 = p' ∧ st.2.1 = (pe f0 c).length ∧ st.2.2.1 = cap' ∧ st.2.2.2 = (c : Int) ∧ c ≤ 256 ∧ n = 256 - c ∧ Fr (fun _ => False) h h' ∧ Que 1 EH h' p' cap' (pe f0 c) ∧ (∀ x, InA p' x → h.size ≤ x)) 256
  ⟨0, none, 0, rfl, rfl, rfl, rfl, by omega, rfl, Fr.refl _ _, Que.nil, fun x hx => (cU hx).elim⟩ ?_
 rintro n ⟨qa, qn, qc, t17⟩ h1 ⟨c, p1, cap1, e1, e2, e3, e4, hc256, rfl, f1, Q1, hn1⟩ Kn1 hK
 dsimp only at e1 e2 e3 e4
 subst e1 e2 e3 e4
 dsimp only
 unfold ix
 have z1 := f1.size
 refine ifD (fun e => ?_) fun e => ?_
 ·have hc' : c < 256 := by omega
  refine bQ c rfl hc' ⟨_, JH f0 hc', _, rfl, ?_⟩
  have hk0' := hk0 c hc'
  rw [Int.toNat_natCast]
  refine lu (fun hh => ?_) fun hh => ?_
  ·have hh : f0 c ≠ 0 := fun h => hh (by rw [h]; rfl)
   refine aU (vs := EH (f0 c)) fun t24 h2 f2 e2 o2 => ?_
   have z2 := f2.size
   have hkl := AH f0 c
   refine (Q1.fr0 f2).app IK Tryz.underlying205 (by intro k e; cases e) (by kernel_rfl) (by decide +kernel) yP (fun _ => rfl) o2 1 (by omega) fun p4 cap4 h4 Q4 f4 hn4 => ⟨_, _, _, rfl, ?_⟩
   rw [wr (by omega) (by omega)]
   refine hK (256 - (c + 1)) _ _ (by omega) ⟨c + 1, p4, cap4, rfl, ?_, rfl, rfl, by omega, rfl, (f1.trans f2).tr f4 fun x hx hh => by have := hn1 x hh; omega, ?_, fun x hx => ?_⟩
   ·rw [m5, if_neg hh]
   ·rw [m5, if_neg hh]; exact Q4
   ·rcases hn4 x hx with h | h
    ·exact hn1 x h
    ·omega
  ·have hh : f0 c = 0 := by omega
   rw [wr (by omega) (by omega)]
   refine hK (256 - (c + 1)) _ _ (by omega) ⟨c + 1, qa, qc, rfl, ?_, rfl, rfl, by omega, rfl, f1, ?_, hn1⟩
   ·rw [m5, if_pos hh]
   ·rw [m5, if_pos hh]; exact Q1
 have : c = 256 := by omega
 subst this
 clear e hK
 unfold iq
 have hend : ∀ h' sg', Fr (fun x => o1 x = k + 2 ∨ h.size ≤ x) h h' → jZ o1 k h' a sg' pq pn pc → Bq sg' ws E → Q (.tuple #[]) h' := fun h' sg' f A D =>
  hk o1 h' sg' hO hup ⟨f.size, fun x hx hs => f.same x hx fun hh => hh.elim (fun e => hs (by rw [← hlo x hx]; exact e)) fun e => absurd hx (by omega)⟩ A D
 have hbq := AH f0 256
 refine aH.go (fun n st h' => ∃ (Ds Qs : List Nat) (sg' : List St) (p' : Option Addr) (cap' : Nat), st.1 = p' ∧ st.2.1 = Qs.length ∧ st.2.2 = cap' ∧ Ds.Nodup ∧ (∀ i ∈ Ds, i < sg.length) ∧ sg'.length = sg.length ∧ n = sg.length - Ds.length ∧ Fr (fun x => o1 x = k + 2 ∨ h.size ≤ x) h h' ∧ jZ o1 k h' a sg' pq pn pc ∧ Lq sg' ws E (· ∈ Ds) Qs ∧ Que 1 EH h' p' cap' Qs ∧ (∀ x, InA p' x → h.size ≤ x)) (sg.length - 1)
  ⟨[0], pe f0 256, sg, qa, qc, rfl, rfl, rfl, by simp, fun i hi => by rw [List.mem_singleton.1 hi]; exact h0, rfl, rfl, f1.mono fun _ h => h.elim, A'.fr0 f1, St0, Q1, hn1⟩ ?_
 rintro n ⟨qa, qn, qc⟩ h2 ⟨Ds, Qs, s2, p2, cap2, e1, e2, e3, hdn, hdl, hl2, rfl, f2, A2, L2, Q2, hn2⟩ Kn3 hK
 dsimp only at e1 e2 e3
 subst e1 e2 e3
 dsimp only
 unfold iv
 have z2 := f2.size
 refine ifD (fun e => ?_) fun e => ?_
 ·cases Qs with
  | nil => exact absurd e (by simp)
  | cons now q' =>
   have hap := L2.apart now List.mem_cons_self
   have hnow := hap.2
   obtain ⟨w, hw⟩ := L2.word hnow
   have hb := L2.back hw hnow
   rw [gM hnow] at hb
   have hbl := L2.lt hb.1
   have hol := L2.ou _ hbl _ hb.1 hb.2
   have hQl : (now :: q').length ≤ sg.length := Bm L2.qnd fun x hx => by have := (L2.apart x hx).2; omega
   rw [List.length_cons] at hQl
   obtain ⟨q3, c3, hc3, hcs3⟩ := A2.cell
   obtain ⟨ad3, hq3, cn⟩ := hcs3 now hnow
   subst hq3
   have hne : now ≠ (gt s2 now).fa := fun h => hap.1 (by rw [h]; exact hb.2)
   refine Q2.idx yP (by decide) 0 rfl (by simp) fun ad4 c4 => ?_
   refine aA (c4.at0 rfl) ?_
   refine Q2.pop yP (by decide) fun p5 cap5 hi5 Q5 => ?_
   have hgn : s2[now] = gt s2 now := gM hnow
   have hQl5 : q'.length ≤ 40000 := by omega
   have hbe : s2[now].fa = (gt s2 now).fa := by rw [hgn]
   have hwne : w ≠ [] := fun h => by
    subst h
    have := jr L2.nd hw L2.z
    subst this; exact hap.1 L2.root
   have fin : ∀ h4 o', Fr (fun x => o1 x = k + 2 ∨ h.size ≤ x) h2 h4 → (∀ x, x < h2.size → h.size ≤ x → h4[x]? = h2[x]?) → hcell h4 a = some (.slice (some ad3) s2.length c3) → jZ o1 k h4 a (s2.set now { gt s2 now with ou := o' }) pq pn pc → ws[o']? = some (vm ws E w) →
     cJ (some a) p5 q'.length cap5 (ad3.add (now * 259)) (ad3.add ((gt s2 now).fa * 259)) Q Kn3 h4 := fun h4 o' f4 hs4 hc4 A4 ho' => by
    have z4 := f4.size
    have f40 : Fr (fun x => x < h.size) h2 h4 := ⟨z4, fun x hx hs => hs4 x hx (by omega)⟩
    have g : ∀ i, gt (s2.set now { gt s2 now with ou := o' }) i = if now = i then { gt s2 now with ou := o' } else gt s2 i := ql hnow _
    have gn : gt (s2.set now { gt s2 now with ou := o' }) now = { gt s2 now with ou := o' } := by rw [g, if_pos rfl]
    have gb : gt (s2.set now { gt s2 now with ou := o' }) (gt s2 now).fa = gt s2 (gt s2 now).fa := by rw [g, if_neg hne]
    have ls : (s2.set now { gt s2 now with ou := o' }).length = s2.length := List.length_set
    have yes : ∀ c : UInt8, (gt s2 now).nx c.toNat ≠ 0 → ws[(gt s2 now).nx c.toNat]? = some (w ++ [c]) := fun c hc => by
     have := L2.yes now hnow w c hw hap.1 (by rw [hgn]; exact hc)
     rw [hgn] at this; exact this
    refine K4 (h0 := h) (by rw [ls]; omega) hQl5 A4 (by rw [ls]; exact hc4) (by rw [ls]; exact hnow) (by rw [ls]; exact hbl) hne (fun d hd => ?_) (fun d hd => ?_) (fun c d hc hd hz he => ?_) (Q5.fr f40 fun x hx hh => by have := hn2 x (hi5 x hx); omega) (by omega) (fun x hx => hn2 x (hi5 x hx)) hup fun h6 s6 p6 cap6 f6 A6 I6 Q6 hn6 => ?_
    ·rw [gn, ls]
     obtain ⟨c, rfl⟩ := B1 hd
     by_cases hz : (gt s2 now).nx c.toNat = 0
     ·show (gt s2 now).nx _ < _; rw [hz]; omega
     ·exact L2.lt (yes c hz)
    ·rw [gb, ls]
     obtain ⟨c, rfl⟩ := B1 hd
     have := L2.dn _ hbl _ c hb.1 hb.2
     rw [gM hbl] at this
     exact L2.lt this
    ·rw [gn] at hz he
     obtain ⟨x, rfl⟩ := B1 hc
     obtain ⟨y, rfl⟩ := B1 hd
     have hz : (gt s2 now).nx x.toNat ≠ 0 := hz
     have he : (gt s2 now).nx x.toNat = (gt s2 now).nx y.toNat := he
     have e1 := yes x hz
     have e2 := yes y (by rw [← he]; exact hz)
     rw [he, e2] at e1
     have := (List.append_inj' (Option.some.inj e1) rfl).2
     rw [(List.cons.inj this).1]
    ·rw [gn, gb] at I6
     have I : Inn s2 s6 now (gt s2 now).nx (gt s2 (gt s2 now).fa).nx o' 256 := by
      refine ⟨by rw [I6.len, ls], fun i => ?_, fun i => ?_, fun i d hd => ?_, I6.fa1, fun i hi => ?_⟩
      ·rw [I6.en, g]; split
       ·rename_i hh; rw [← hh]
       ·rfl
      ·rw [I6.ou]; split
       ·rfl
       ·rename_i hh; rw [g, if_neg (fun h => hh h.symm)]
      ·rw [I6.nx i d hd]; split
       ·rfl
       ·rename_i hh; rw [g, if_neg (fun h => hh h.symm)]
      ·rw [I6.fa0 i hi, g]; split
       ·rename_i hh; rw [← hh]
       ·rfl
     have L6 := L2.pop hw ho' I
     rw [gn] at Q6
     have e6 : (gt (s2.set now { gt s2 now with ou := o' }) now).nx = (gt s2 now).nx := by rw [gn]
     rw [e6]
     have hdn6 : (now :: Ds).Nodup := List.nodup_cons.2 ⟨hap.1, hdn⟩
     have hdl6 : ∀ i ∈ now :: Ds, i < sg.length := fun i hi => by
      rcases List.mem_cons.1 hi with h | h
      ·omega
      ·exact hdl i h
     have hdle := Bm hdn6 hdl6
     rw [List.length_cons] at hdle
     have eD : (fun i => i ∈ Ds ∨ i = now) = (fun i => i ∈ now :: Ds) := by
      funext i; rw [List.mem_cons]; exact propext or_comm
     rw [eD] at L6
     exact hK (sg.length - (now :: Ds).length) _ _ (by rw [List.length_cons]; omega) ⟨now :: Ds, _, s6, p6, cap6, rfl, rfl, rfl, hdn6, hdl6, by rw [I.len]; exact hl2, rfl, (f2.trans (f4.mono fun _ h => h)).tr f6 fun x hx hh => hh, A6, L6, Q6, hn6⟩
   refine aV (aC hc3 (bQ now rfl hnow (aV (aV (aC hc3 ?_)))))
   rw [Int.toNat_natCast]
   have efa : (stV s2[now])[256]? = some (.int .u16 ((gt s2 now).fa : Nat)) := by rw [← hbe]; exact Mp _
   refine aA (cn.at efa) (bQ _ rfl hbl (aV (aA (cn.at efa) ?_)))
   rw [Int.toNat_natCast]
   have nqt : ∀ x, h.size ≤ x → o1 x ≠ k + 2 := fun x hx => by have := hup x hx; omega
   refine A2.put hc3 rfl now hnow (j := 257) (by omega) (v := .int .u16 ((gt s2 now).fa : Nat)) rfl { gt s2 now with ou := (gt s2 now).fa } (by rw [hgn]; exact Kl _ _) (by rw [hgn]) (by rw [hgn]) (by rw [hgn]) fun h3 f3 A3 => ?_
   have z3 := f3.size
   have hca3 := f3.hcell hc3 fun hh => by have := A2.tag; omega
   obtain ⟨q7, c7, hc7, hcs7⟩ := A3.cell
   have e7 := hca3.symm.trans hc7
   simp only [Option.some.injEq, Value.slice.injEq] at e7
   obtain ⟨rfl, _, rfl⟩ := e7
   obtain ⟨ad7, had7, cb⟩ := hcs7 (gt s2 now).fa (by rw [List.length_set]; exact hbl)
   cases had7
   rw [List.getElem_set_ne hne] at cb
   refine aC (cb.at (DW _)) ?_
   have hen := L2.en _ hbl _ hb.1
   refine ifE (fun h0e => ?_) fun h0e => ?_
   ·refine aA (cb.at (JI _)) ?_
    refine A3.put hc7 rfl now (by rw [List.length_set]; exact hnow) (j := 257) (by omega) (v := .int .u16 (s2[(gt s2 now).fa].ou : Nat)) rfl { gt s2 now with ou := s2[(gt s2 now).fa].ou } (by rw [List.getElem_set_self]; exact Kl _ _) (by rw [List.getElem_set_self]) (by rw [List.getElem_set_self]) (by rw [List.getElem_set_self]) fun h4 f4 A4 => ?_
    rw [List.set_set] at A4
    refine fin h4 _ ((f3.mono fun _ h => .inl h).trans (f4.mono fun _ h => .inl h)) (fun x hx hh => ?_) (f4.hcell hca3 fun hh => by have := A2.tag; omega) A4 ?_
    ·rw [f4.same x (by omega) (nqt x hh), f3.same x hx (nqt x hh)]
    ·rw [wm E hwne, if_neg (by rw [← hen]; intro h; apply h; exact List.length_eq_zero_iff.1 (by omega))]
     exact hol
   ·refine fin h3 _ (f3.mono fun _ h => .inl h) (fun x hx hh => f3.same x hx (nqt x hh)) hca3 A3 ?_
    rw [wm E hwne, if_pos (by rw [← hen]; intro h; rw [h] at h0e; exact h0e rfl)]
    exact hb.1
 ·have : Qs = [] := List.length_eq_zero_iff.1 (by omega)
  subst this
  exact hend h2 s2 f2 A2 L2.done
end
end Go.Proofs.YtjmfpeiidlpngaaGreatDoor.Au
namespace Go.Proofs.YtjmfpeiidlpngaaGreatDoor.Au
set_option linter.unusedSimpArgs false
set_option linter.unusedVariables false
set_option maxRecDepth 20000
open Go
open Go.IntKind (wrap)
structure Hu (h : aB) (a : Addr) (sg : List St) (L : List Pt) : Prop where
 blk : ∃ q cq pq pc, aY h a [.slice q sg.length cq, .slice pq L.length pc] ∧ (∀ i (hi : i < sg.length), ∃ ad, q = some ad ∧ aY h (ad.add (i * 259)) (stV sg[i])) ∧ IE h pq L
 ends : ∀ i (hi : i < sg.length), Row 1 inV h sg[i].eq sg[i].ec sg[i].en
def HR (N : Nat) (h : aB) (a : Addr) (sg : List St) (L : List Pt) : Prop := N ≤ h.size ∧ ∀ h', Fr (fun x => N ≤ x) h h' → Hu h' a sg L
theorem HR.fr {S : Nat → Prop} {N : Nat} {h h' : aB} {a : Addr} {sg : List St} {L : List Pt} (A : HR N h a sg L) (f : Fr S h h') (hs : ∀ x, x < h.size → S x → N ≤ x) : HR N h' a sg L :=
 ⟨Nat.le_trans A.1 f.size, fun h2 f2 => A.2 h2 ((f.mono' hs).trans f2)⟩
theorem HR.now {N : Nat} {h : aB} {a : Addr} {sg : List St} {L : List Pt} (A : HR N h a sg L) : Hu h a sg L := A.2 h (Fr.refl _ _)
structure yq (N : Nat) (h : aB) (a : Addr) (sg : List St) (ws : List Nm) (L : List Pt) : Prop where
 s : HR N h a sg L
 d : Bq sg ws (iJ L L.length)
 w : ∀ w, w ∈ ws ↔ wS L L.length w
 n : ws.length ≤ 40000
 m : L.length ≤ 512
 ok : rP L = 0
theorem yq.fr {S : Nat → Prop} {N : Nat} {h h' : aB} {a : Addr} {sg : List St} {ws : List Nm} {L : List Pt} (A : yq N h a sg ws L) (f : Fr S h h') (hs : ∀ x, x < h.size → S x → N ≤ x) : yq N h' a sg ws L := { A with s := A.s.fr f hs }
theorem yq.fr0 {N : Nat} {h h' : aB} {a : Addr} {sg : List St} {ws : List Nm} {L : List Pt} (f : Fr (fun _ => False) h h') (A : yq N h a sg ws L) : yq N h' a sg ws L := A.fr f fun _ _ h => h.elim
end Go.Proofs.YtjmfpeiidlpngaaGreatDoor.Au
namespace Go.Proofs.YtjmfpeiidlpngaaGreatDoor
set_option linter.unusedSimpArgs false
set_option linter.unusedVariables false
set_option maxRecDepth 20000
open Go
open Go.IntKind (wrap)
def Kp (B : Nat → Prop) (h : aB) (P : aB → Prop) : Prop := ∀ h', Fr (fun x => ¬ B x) h h' → P h'
theorem Kp.now {B : Nat → Prop} {h : aB} {P : aB → Prop} (k : Kp B h P) : P h := k h (Fr.refl _ _)
theorem Kp.fr {B B' S : Nat → Prop} {h h' : aB} {P : aB → Prop} (s : Kp B h P) (f : Fr S h h') (h1 : ∀ x, x < h.size → B x → ¬ S x) (h2 : ∀ x, x < h.size → B x → B' x) : Kp B' h' P := fun h'' f2 =>
 s h'' ⟨Nat.le_trans f.size f2.size, fun x hx hn => by
  have hB : B x := Classical.byContradiction hn
  rw [f2.same x (Nat.lt_of_lt_of_le hx f.size) (fun hh => hh (h2 x hx hB)), f.same x hx (h1 x hx hB)]⟩
theorem Kp.fr0 {B : Nat → Prop} {h h' : aB} {P : aB → Prop} (f : Fr (fun _ => False) h h') (s : Kp B h P) : Kp B h' P := s.fr f (fun _ _ _ => id) fun _ _ => id
theorem Kp.and {B : Nat → Prop} {h : aB} {P P' : aB → Prop} (s : Kp B h P) (s' : Kp B h P') : Kp B h (fun h' => P h' ∧ P' h') := fun h' f => ⟨s h' f, s' h' f⟩
def HLe (h h' : aB) : Prop := ∀ a v, hcell h a = some v → hcell h' a = some v
theorem HLe.cells {h h' : aB} (l : HLe h h') {a : Addr} {vs : List Value} (c : aY h a vs) : aY h' a vs := fun j hj => l _ _ (c j hj)
theorem bH.hle {α : Type} {sz : Nat} {vals : α → List Value} {ok : aB → α → Prop} {h h' : aB} {s : Sl α} (l : HLe h h') (hok : ∀ x, ok h x → ok h' x) (o : bH sz vals ok h s) : bH sz vals ok h' s :=
 ⟨o.len, o.cap, fun i hi => by obtain ⟨ad, h1, h2, h3⟩ := o.at_ i hi; exact ⟨ad, h1, l.cells h2, hok _ h3⟩⟩
theorem HLe.group {h h' : aB} (l : HLe h h') {r : bK} (o : bK.ok h r) : bK.ok h' r :=
 ⟨o.k0, o.k1.hle l fun _ h => h, o.k2.hle l fun _ h => ⟨h.k0, h.k1⟩, o.k3.hle l fun _ h => h.hle l fun _ h => h, o.k4.hle l fun _ h => h⟩
theorem HLe.groups {h h' : aB} (l : HLe h h') {g : Sl bK} (o : bH 5 bK.vals bK.ok h g) : bH 5 bK.vals bK.ok h' g := o.hle l fun _ h => l.group h
theorem GU {m : Nat} {h h' : aB} {mm : List (Int × Value)} (I : wH (Bn .i64) h m mm) (f : Fr (fun x => x = m ∨ h.size ≤ x) h h') : HLe h h' := by
 intro a v hv
 obtain ⟨es, c, hm, _, _⟩ := I
 unfold GD at hm
 have hb : a.block < h.size := by
  rcases Nat.lt_or_ge a.block h.size with hb | hb
  ·exact hb
  ·unfold hcell at hv
   rw [Array.getElem?_eq_none hb] at hv
   cases hv
 have hne : a.block ≠ m := fun e => by
  unfold hcell at hv
  rw [e, hm] at hv
  cases hv
 unfold hcell at hv ⊢
 rw [f.same _ hb fun hh => by rcases hh with hh | hh; exact hne hh; omega]
 exact hv
namespace Au
structure KL (sg : List St) (ws : List Nm) (L : List Pt) : Prop where
 d : Bq sg ws (iJ L L.length)
 w : ∀ w, w ∈ ws ↔ wS L L.length w
 n : ws.length ≤ 40000
 m : L.length ≤ 512
 ok : rP L = 0
theorem JJ [Gh] (s : Sl Pt) {ok : aB → Pt → Prop} {h : aB} (os : bH 2 ptV ok h s) (okf : ∀ h h' x, Fr (fun _ => False) h h' → ok h x → ok h' x) (hl : s.xs.length ≤ 512) (he : rP s.xs = 0) {Q : Value → aB → Prop}
  (hk : ∀ a h' sg ws, Fr (fun _ => False) h h' → Kp (fun x => h.size ≤ x) h' (fun h'' => Hu h'' a sg s.xs) → KL sg ws s.xs → Q (.tuple #[.pointer (some a), .int .i64 0]) h') :
  aD Tryz.prog kj #[.slice s.p s.xs.length s.cap] h Q := by
 refine H8 s os okf (by omega) (fun x => 0) 0 (fun _ _ => Nat.le_refl _) (fun h' f hn => by omega) (fun h' f hn he' => absurd he he') fun a o' h' sg ws pq pc hO hr f A R hpq T hw hN hm he => ?_
 unfold iN
 refine Mw A T hN fun o2 h2 sg2 hO2 hr2 f2 A2 D => ⟨rfl, ?_⟩
 have R2 := R.fr f2 fun x hx hh => by have := (hpq x hx).2; omega
 have old : ∀ x, x < h.size → o2 x = 0 := fun x hx => by
  have := f.size
  rw [hO2 x (by omega), hO x hx]
 refine hk a h2 sg2 ws (f.tr f2 fun x hx hh => by have := hO x hx; simp only at this; omega) (fun h3 f3 => ?_) ⟨D, hw, hN, hm, he⟩
 have A3 := A2.fr (o' := o2) f3 (fun x hx hh => .inl (by rw [old x (by omega)]; exact Nat.le_refl _)) (Old.refl _ _)
 have R3 := R2.fr f3 fun x hx hh => hh (hpq x hx).1
 obtain ⟨q, c, ow, Q, _⟩ := A3.ex
 exact ⟨⟨q, c, pq, pc, ow.cells, fun i hi => Q.cellsAt rW (by omega) i hi, fun i hi => R3.cellsAt Av (by omega) i hi⟩, fun i hi => (A3.ends i hi).1⟩
theorem KL.auto {N : Nat} {h : aB} {a : Addr} {sg : List St} {ws : List Nm} {L : List Pt} (d : KL sg ws L) (k : Kp (fun x => x < N) h fun h' => Hu h' a sg L) (hN : N ≤ h.size) : yq N h a sg ws L :=
 ⟨⟨hN, fun h' f => k h' (f.mono fun x hx => by omega)⟩, d.d, d.w, d.n, d.m, d.ok⟩
end Au
end Go.Proofs.YtjmfpeiidlpngaaGreatDoor
namespace Go.Proofs.YtjmfpeiidlpngaaGreatDoor
set_option linter.unusedSimpArgs false
set_option linter.unusedVariables false
set_option maxRecDepth 20000
open Go
open Go.IntKind (wrap)
def DT (r : bM) : Au.Pt := ⟨r.Text, r.Nocase⟩
def ptS (s : Sl bM) : Sl Au.Pt := ⟨s.p, s.cap, s.xs.map DT⟩
theorem ME {h : aB} {s : Sl bM} (o : bH 2 bM.vals bM.ok h s) : bH 2 Au.ptV (fun _ _ => True) h (ptS s) := by
 refine ⟨by show (s.xs.map DT).length ≤ _; rw [List.length_map]; exact o.1, by show (s.xs.map DT).length ≤ _; rw [List.length_map]; exact o.cap, fun i hi => ?_⟩
 have hi' : i < s.xs.length := by have : i < (s.xs.map DT).length := hi; rwa [List.length_map] at this
 obtain ⟨ad, h1, h2, _⟩ := o.at_ i hi'
 refine ⟨ad, h1, ?_, trivial⟩
 have e : (s.xs.map DT)[i]'(by rw [List.length_map]; exact hi') = DT s.xs[i] := List.getElem_map ..
 show aY h (ad.add (i * 2)) (Au.ptV ((s.xs.map DT)[i]'(by rw [List.length_map]; exact hi')))
 rw [e]; exact h2
def adV (a : Addr) : List Value := [.pointer (some a)]
theorem wq (a : Addr) : (adV a).length = 1 := rfl
theorem Bg (a : Addr) : (adV a).all eH = true := rfl
theorem Gm : gU Tryz.prog bC fG Tryz.t92 (.pointer none) := ⟨Tryz.underlying91, by kernel_rfl, by kernel_rfl, by kernel_rfl, by decide +kernel⟩
theorem Hl {h : aB} {K : Value → aB → Prop} (hk : K (.slice none 0 0) h) : wpH Tryz.prog (zeroValue bC) K h := DX (i := Tryz.t91) (by kernel_rfl) (by kernel_rfl) hk
abbrev Gr := bK
def GpB (B : Nat → Prop) (h : aB) (a : Addr) (g : Gr) : Prop := ∃ au sg ws, Kp B h (fun h' => aY h' a (g.vals ++ [.pointer (some au)]) ∧ bK.ok h' g) ∧ Kp B h (fun h' => Au.Hu h' au sg (ptS g.Patterns).xs) ∧ Au.KL sg ws (ptS g.Patterns).xs
theorem GpB.fr {B B' S : Nat → Prop} {h h' : aB} {a : Addr} {g : Gr} (G : GpB B h a g) (f : Fr S h h') (h1 : ∀ x, x < h.size → B x → ¬ S x) (h2 : ∀ x, x < h.size → B x → B' x) : GpB B' h' a g := by
 obtain ⟨au, sg, ws, k1, k2, d⟩ := G
 exact ⟨au, sg, ws, k1.fr f h1 h2, k2.fr f h1 h2, d⟩
structure Gps (B : Nat → Prop) (h : aB) (av : List Addr) (gs : List Gr) : Prop where
 len : av.length = gs.length
 at_ : ∀ i (h1 : i < av.length) (h2 : i < gs.length), GpB B h av[i] gs[i]
theorem Gps.fr {B B' S : Nat → Prop} {h h' : aB} {av : List Addr} {gs : List Gr} (G : Gps B h av gs) (f : Fr S h h') (h1 : ∀ x, x < h.size → B x → ¬ S x) (h2 : ∀ x, x < h.size → B x → B' x) : Gps B' h' av gs := ⟨G.len, fun i a b => (G.at_ i a b).fr f h1 h2⟩
theorem Gps.nil {B : Nat → Prop} {h : aB} : Gps B h [] [] := ⟨rfl, fun i h => absurd h (Nat.not_lt_zero _)⟩
theorem Gps.snoc {B : Nat → Prop} {h : aB} {av : List Addr} {gs : List Gr} (G : Gps B h av gs) {a : Addr} {g : Gr} (n : GpB B h a g) : Gps B h (av ++ [a]) (gs ++ [g]) := by
 refine ⟨by simp [G.len], fun i h1 h2 => ?_⟩
 have hl := G.len
 rw [List.length_append, List.length_singleton] at h1 h2
 by_cases hi : i < av.length
 ·rw [List.getElem_append_left hi, List.getElem_append_left (by omega)]; exact G.at_ i hi (by omega)
 ·have : i = av.length := by omega
  subst this
  rw [List.getElem_append_right (Nat.le_refl _), List.getElem_append_right (by omega)]
  simpa using n
theorem JZ {κ : Type} [DecidableEq κ] (m : List (κ × Value)) (a b : κ) (v : Value) : pT (E3 m a v) b = if b = a then some v else pT m b := by
 by_cases hs : (pT m a).isSome
 ·unfold E3; rw [if_pos hs]
  obtain ⟨e, he, hk⟩ := tR.1 hs
  induction m with
  | nil => cases he
  | cons x m ih =>
   unfold pT at ih ⊢
   rw [List.map_cons, List.find?_cons, List.find?_cons]
   by_cases hxa : x.1 = a
   ·rw [if_pos hxa]
    by_cases hb : b = a
    ·subst hb; simp [hxa]
    ·have h1 : ¬ x.1 = b := fun e => hb (e.symm.trans hxa)
     simp only [h1, decide_false, hb, if_false]
     rw [List.find?_map]
     have : ((fun e : κ × Value => decide (e.1 = b)) ∘ fun e => if e.1 = a then (e.1, v) else e) = fun e => decide (e.1 = b) := by
      funext e; simp only [Function.comp]; split <;> rfl
     rw [this, Option.map_map]
     cases hf : m.find? (fun e => decide (e.1 = b)) with
     | none => rfl
     | some y =>
      have := List.find?_some hf
      have hya : ¬ y.1 = a := fun e => hb ((of_decide_eq_true this).symm.trans e)
      simp [hya]
   ·rw [if_neg hxa]
    by_cases hxb : x.1 = b
    ·have : ¬ b = a := fun e => hxa (hxb.trans e)
     simp [hxb, this]
    ·simp only [hxb, decide_false]
     rcases List.mem_cons.1 he with rfl | he
     ·exact absurd hk hxa
     ·exact ih (tR.2 ⟨e, he, hk⟩) he
 ·unfold E3; rw [if_neg hs]
  have hn : pT m a = none := by cases h : pT m a with
   | none => rfl
   | some _ => rw [h] at hs; simp at hs
  unfold pT at hn ⊢
  rw [List.find?_append]
  by_cases hb : b = a
  ·subst hb
   rw [if_pos rfl]
   cases hf : m.find? (fun e => decide (e.1 = b)) with
   | none => simp
   | some y => rw [hf] at hn; cases hn
  ·rw [if_neg hb]
   have h1 : ¬ a = b := fun e => hb e.symm
   cases hf : m.find? (fun e => decide (e.1 = b)) with
   | none => simp [h1]
   | some y => simp
structure GsI (h2 : aB) (m : Nat) (gs : List Gr) (h : aB) (mm : List (Int × Value)) (o : Nat → Option Int) : Prop where
 fr : Fr (fun x => x = m ∨ h2.size ≤ x) h2 h
 map : wH (Bn .i64) h m mm
 o0 : ∀ x, o x ≠ none → h2.size ≤ x ∧ x < h.size
 lt : m < h2.size
 kd : ∀ kind : Int, ∃ p c av, (pT mm kind).getD (.slice none 0 0) = .slice p (av : List Addr).length c ∧ Row 1 adV h p c av ∧ (∀ x, InA p x → o x = some kind) ∧ Gps (fun x => x ≠ m ∧ o x = none) h av (gs.filter fun g => g.Kind = kind)
theorem GsI.fr0 {h2 : aB} {m : Nat} {gs : List Gr} {h h' : aB} {mm : List (Int × Value)} {o : Nat → Option Int} (I : GsI h2 m gs h mm o) (f : Fr (fun _ => False) h h') : GsI h2 m gs h' mm o := by
 refine ⟨I.fr.tr f fun _ _ hh => hh.elim, I.map.fr f id, fun x hx => ?_, I.lt, fun kind => ?_⟩
 ·have := I.o0 x hx; have := f.size; omega
 ·obtain ⟨p, c, av, e, R, ho, G⟩ := I.kd kind
  exact ⟨p, c, av, e, R.fr0 f, ho, G.fr f (fun _ _ _ => id) fun _ _ => id⟩
theorem GsI.size {h2 : aB} {m : Nat} {gs : List Gr} {h : aB} {mm : List (Int × Value)} {o : Nat → Option Int} (I : GsI h2 m gs h mm o) : h2.size ≤ h.size := I.fr.size
theorem GsI.put [Gh] {h2 : aB} {m : Nat} {gs : List Gr} {h : aB} {mm : List (Int × Value)} {o : Nat → Option Int} (I : GsI h2 m gs h mm o) (g : Gr) {a t84 : Addr} {T : TypeId} (ob : Own h t84 [.pointer (some a)] T) (G : GpB (fun x => x ≠ m ∧ o x = none) h a g) (hl : gs.length ≤ 2 ^ 20) {p : Option Addr} {n c : Nat} (hg : (pT mm g.Kind).getD (.slice none 0 0) = .slice p n c) {s4 t11 : Addr}
  (own : ∀ h' S, Fr S h h' → (∀ x, S x → o x ≠ none) → hcell h' (s4.add 1) = some (.map (some m)) ∧ hcell h' t11 = some (.int .i64 g.Kind)) {K : aB → Prop}
  (hk : ∀ h' mm' o', Fr (fun x => x = m ∨ o x ≠ none) h h' → GsI h2 m (gs ++ [g]) h' mm' o' → K h') :
  cQ Tryz.prog .append #[bC, bC] bC #[false, false] #[.slice p n c, .slice (some t84) 1 1] h fun v h23 => ∃ t85a : Option Addr, ∃ t85n : Nat, ∃ t85c : Nat, v = .slice t85a t85n t85c ∧ (ldM h23 (Addr.add s4 1) fun t970 => (.map t970 : Value) = .map (some m)) ∧ (ldI h23 t11 .i64 fun t972 => (.int .i64 t972 : Value) = .int .i64 g.Kind) ∧ r8 Tryz.prog bP (.map (some m)) (.int .i64 g.Kind) (.slice t85a t85n t85c) h23 fun h24 => K h24 := by
 obtain ⟨p', c', av, e, R, ho, Gs⟩ := I.kd g.Kind
 rw [hg] at e
 simp only [Value.slice.injEq] at e
 obtain ⟨rfl, rfl, rfl⟩ := e
 have zI := I.size
 have zm := I.lt
 have hfl : (gs.filter fun x => x.Kind = g.Kind).length ≤ gs.length := List.length_filter_le _ _
 refine R.app Gm Tryz.underlying91 (by intro k e; cases e) (by kernel_rfl) (by decide +kernel) wq Bg ob 1 (by rw [Gs.len]; omega) fun p3 c3 h3 R3 f3 hn3 => ⟨_, _, _, rfl, ?_⟩
 have z3 := f3.size
 obtain ⟨c1, c2⟩ := own h3 _ f3 fun x hx => by rw [ho x hx]; simp
 refine ⟨lL c1 rfl, aA c2 rfl, ?_⟩
 have nm : ¬ InA p m := fun hh => by have := (I.o0 m (by rw [ho m hh]; simp)); omega
 have nm3 : ¬ InA p3 m := fun hh => by
  rcases hn3 m hh with h | h
  ·exact nm h
  ·omega
 refine Dh FU Tryz.underlying76 (I.map.fr f3 nm) g.Kind (.slice p3 (av ++ [a]).length c3) fun h4 f4 z4 M4 => ?_
 have F : Fr (fun x => InA p x ∨ x = m) h h4 := (f3.mono fun _ => .inl).trans (f4.mono fun _ => .inr)
 refine hk h4 _ (fun x => @ite _ (InA p3 x) (Classical.propDecidable _) (some g.Kind) (o x)) (F.mono fun x hx => ?_) ⟨I.fr.tr F fun x hx hh => ?_, M4, fun x hx => ?_, zm, fun kind => ?_⟩
 ·rcases hx with h | h
  ·exact .inr (by rw [ho x h]; simp)
  ·exact .inl h
 ·rcases hh with h | h
  ·have := I.o0 x (by rw [ho x h]; simp); exact .inr this.1
  ·exact .inl h
 ·have z4' := f4.size
  split at hx
  ·rename_i hin
   have := R3.lt hin
   rcases hn3 x hin with h | h
   ·have := I.o0 x (by rw [ho x h]; simp); omega
   ·omega
  ·have := I.o0 x hx; omega
 ·have hB : ∀ x, x < h.size → (x ≠ m ∧ o x = none) → ¬ (InA p x ∨ x = m) := fun x hx ⟨b1, b2⟩ hh => by
   rcases hh with hh | hh
   ·rw [ho x hh] at b2; cases b2
   ·exact b1 hh
  have hB2 : ∀ x, x < h.size → (x ≠ m ∧ o x = none) → (x ≠ m ∧ (@ite _ (InA p3 x) (Classical.propDecidable _) (some g.Kind) (o x)) = none) := fun x hx ⟨b1, b2⟩ => by
   refine ⟨b1, ?_⟩
   rw [if_neg fun hh => ?_]
   ·exact b2
   ·rcases hn3 x hh with h | h
    ·rw [ho x h] at b2; cases b2
    ·omega
  rw [JZ]
  by_cases hkd : kind = g.Kind
  ·subst hkd
   rw [if_pos rfl]
   refine ⟨p3, c3, av ++ [a], rfl, R3.fr f4 fun x hx hh => nm3 (hh ▸ hx), fun x hx => if_pos hx, ?_⟩
   rw [List.filter_append]
   have := (Gs.fr F hB hB2).snoc (G.fr F hB hB2)
   simpa using this
  ·rw [if_neg hkd]
   obtain ⟨pk, ck, ak, ek, Rk, hok, Gk⟩ := I.kd kind
   refine ⟨pk, ck, ak, ek, Rk.fr F fun x hx hh => ?_, fun x hx => ?_, ?_⟩
   ·rcases hh with hh | hh
    ·have h1 := ho x hh; rw [hok x hx] at h1; exact hkd (by simpa using h1)
    ·have := I.o0 x (by rw [hok x hx]; simp); omega
   ·rw [if_neg fun hh => ?_]
    ·exact hok x hx
    ·rcases hn3 x hh with h | h
     ·have h1 := ho x h; rw [hok x hx] at h1; exact hkd (by simpa using h1)
     ·have := Rk.lt hx; omega
   ·rw [List.filter_append, List.filter_cons_of_neg (by simpa using fun e => hkd e.symm), List.filter_nil, List.append_nil]
    exact Gk.fr F hB hB2
end Go.Proofs.YtjmfpeiidlpngaaGreatDoor
namespace Go.Proofs.YtjmfpeiidlpngaaGreatDoor
set_option linter.unusedSimpArgs false
set_option linter.unusedVariables false
set_option maxRecDepth 20000
open Go
open Go.IntKind (wrap)
theorem GsI.nil {h2 : aB} {m : Nat} (I : wH (Bn .i64) h2 m []) : GsI h2 m [] h2 [] fun _ => none :=
 ⟨Fr.refl _ _, I, fun x hx => absurd rfl hx, I.lt, fun kind => ⟨none, 0, [], rfl, Row.nil, fun x hx => (Fp.BU hx).elim, Gps.nil⟩⟩
set_option maxHeartbeats 1000000 in
theorem KM [Gh] (g : Sl Gr) {h2 : aB} (ok : bH 5 bK.vals bK.ok h2 g) {m : Nat} (I0 : wH (Bn .i64) h2 m []) {A : Addr} {vA : Value} (oA0 : Own h2 A [vA, .map (some m)] pE) (nAm : A.block ≠ m) (hl : g.xs.length ≤ 40)
  (hb : ∀ gr ∈ g.xs, gr.Patterns.xs.length ≤ 512 ∧ Au.rP (ptS gr.Patterns).xs = 0) {Q : Value → aB → Prop}
  (hk : ∀ h mm o, GsI h2 m g.xs h mm o → Q (.tuple #[.pointer (some A), .int .i64 0]) h) :
  aH (fun (s : Int) h Kn => gC A g.p g.xs.length g.cap ((g.xs.length : Nat) : Int) Q s h Kn) 0 h2 := by
 refine aH.mk (fun st h' => ∃ (k : Nat) (mm : List (Int × Value)) (o : Nat → Option Int), st = (k : Int) ∧ k ≤ g.xs.length ∧ GsI h2 m (g.xs.take k) h' mm o)
  (fun st _ => g.xs.length - st.toNat) ⟨0, [], fun _ => none, rfl, by omega, GsI.nil I0⟩ ?_
 rintro st h1 ⟨k, mm, o, rfl, hkl, I⟩
 unfold gC
 refine ifD (fun hlt => ?_) (fun hge => ?_)
 ·have hi : k < g.xs.length := by omega
  have ok1 := (GU I0 I.fr).groups ok
  have hbk := hb _ (List.getElem_mem hi)
  have nA2 := oA0.lt
  have lm := I.lt
  have zI := I.size
  have oA : Own h1 A [vA, .map (some m)] pE := oA0.fr I.fr fun hh => by rcases hh with hh | hh; exact nAm hh; omega
  refine cL ok1 k rfl hi fun ad cc okr => ?_
  rw [Int.toNat_natCast]
  refine (aA (cc.at0 rfl) (aC (cc.at rfl) (aC (cc.at rfl) (aC (cc.at rfl) (aC (cc.at rfl) ?_)))))
  refine oG rfl rfl fun t11 h3 f3 ht11 o11 => ?_
  have z3 := f3.size
  refine aC (o11.cells.at (j := 2) rfl) ?_
  rw [show g.xs[k].Patterns.xs.length = (ptS g.xs[k].Patterns).xs.length from (List.length_map ..).symm]
  refine Au.JJ (ptS g.xs[k].Patterns) (ME (bK.ok_fr _ _ _ f3 okr).k2) (fun _ _ _ _ _ => trivial) (by show (g.xs[k].Patterns.xs.map DT).length ≤ 512; rw [List.length_map]; exact hbk.1) hbk.2 fun a h4 sg ws f4 kx D => ⟨_, _, rfl, ?_⟩
  have z4 := f4.size
  have l11 := o11.lt
  have oA := (oA.fr0 f3).fr0 f4
  have o11 : Own h4 t11 g.xs[k].vals m8 := o11.fr0 f4
  have I4 := (I.fr0 f3).fr0 f4
  refine lL (oA.cells.at (j := 1) rfl) (aA (o11.cells.at0 rfl) (lL (oA.cells.at (j := 1) rfl) (aA (o11.cells.at0 rfl) ?_)))
  refine (aA (o11.cells.at0 rfl) (aC (o11.cells.at rfl) (aC (o11.cells.at rfl) (aC (o11.cells.at rfl) (aC (o11.cells.at rfl) ?_)))))
  obtain ⟨p, c, av, hval, _, _, _⟩ := I4.kd g.xs[k].Kind
  have key : ∀ hx (t83 : Addr), Fr (fun _ => False) h4 hx → Own hx t83 (g.xs[k].vals ++ [.pointer (some a)]) kF → h4.size ≤ t83.block → GpB (fun x => x ≠ m ∧ o x = none) hx t83 g.xs[k] := by
   intro hx t83 fx o83 n83
   have on : ∀ x, h1.size ≤ x → o x = none := fun x hx => Classical.byContradiction fun hh => by have := (I.o0 x hh).2; omega
   refine ⟨a, sg, ws, fun h' f' => ⟨(o83.fr f' fun hh => hh ⟨by omega, on _ (by omega)⟩).cells, ?_⟩, (kx.fr0 fx).fr (Fr.refl (fun _ => False) _) (fun _ _ _ => id) fun x hx hh => ⟨by omega, on x (by omega)⟩, D⟩
   refine (GU I0 ?_).group (by obtain ⟨_, _, _, o⟩ := ok.at_ k hi; exact o)
   have Ix := I4.fr0 fx
   refine Ix.fr.tr f' fun x hx hh => ?_
   refine Classical.byContradiction fun hn => hh ⟨fun e => hn (.inl e), Classical.byContradiction fun h5 => hn (.inr (I.o0 x h5).1)⟩
  have fin : ∀ hx (t83 t84 : Addr) {T : TypeId}, Fr (fun _ => False) h4 hx → Own hx t83 (g.xs[k].vals ++ [.pointer (some a)]) kF → h4.size ≤ t83.block → Own hx t84 [.pointer (some t83)] T →
    cQ Tryz.prog .append #[bC, bC] bC #[false, false] #[.slice p av.length c, .slice (some t84) 1 1] hx fun v h23 => ∃ t85a : Option Addr, ∃ t85n : Nat, ∃ t85c : Nat, v = .slice t85a t85n t85c ∧ (ldM h23 (Addr.add A 1) fun t970 => (.map t970 : Value) = .map (some m)) ∧ (ldI h23 t11 .i64 fun t972 => (.int .i64 t972 : Value) = .int .i64 g.xs[k].Kind) ∧ r8 Tryz.prog bP (.map (some m)) (.int .i64 g.xs[k].Kind) (.slice t85a t85n t85c) h23 fun h24 => (∃ (k' : Nat) (mm : List (Int × Value)) (o : Nat → Option Int), wrap .i64 ((k : Int) + 1) = (k' : Int) ∧ k' ≤ g.xs.length ∧ GsI h2 m (g.xs.take k') h24 mm o) ∧ g.xs.length - (wrap .i64 ((k : Int) + 1)).toNat < g.xs.length - (k : Int).toNat := by
   intro hx t83 t84 T fx o83 n83 o84
   refine (I4.fr0 fx).put g.xs[k] o84 (key hx t83 fx o83 n83) (by rw [List.length_take]; omega) hval (fun h' S f' hS => ?_) fun h' mm' o' f' I' => ?_
   ·have oAx := (oA.fr0 fx).fr f' fun hh => by have := (I.o0 _ (hS _ hh)).1; omega
    have o11x := (o11.fr0 fx).fr f' fun hh => by have := (I.o0 _ (hS _ hh)).2; omega
    exact ⟨oAx.cells.at (j := 1) rfl, o11x.cells.at0 rfl⟩
   ·rw [wr (by omega) (by omega)]
    refine ⟨⟨k + 1, mm', o', by omega, by omega, ?_⟩, by omega⟩
    rw [show g.xs.take (k + 1) = g.xs.take k ++ [g.xs[k]] by rw [List.take_append_getElem]]
    exact I'
  refine ⟨?_, ?_⟩
  ·refine yC FU Tryz.underlying76 Hl I4.map g.xs[k].Kind false ?_
   rw [if_neg (by decide)]
   refine ⟨_, _, _, hval, (lL (oA.cells.at (j := 1) rfl) rfl), (aA (o11.cells.at0 rfl) rfl), (by refine (aA (o11.cells.at0 rfl) (aC (o11.cells.at rfl) (aC (o11.cells.at rfl) (aC (o11.cells.at rfl) (aC (o11.cells.at rfl) ?_))))); rfl), ?_⟩
   refine aU (vs := g.xs[k].vals ++ [.pointer (some a)]) fun t83 h5 f5 e5 o83 => ?_
   have z5 := f5.size
   have oA := oA.fr0 f5
   have o11 := o11.fr0 f5
   refine ⟨(lL (oA.cells.at (j := 1) rfl) rfl), (aA (o11.cells.at0 rfl) rfl), (lL (oA.cells.at (j := 1) rfl) rfl), (aA (o11.cells.at0 rfl) rfl), ?_⟩
   refine aU (vs := [.pointer (some t83)]) fun t84 h6 f6 e6 o84 => ?_
   have oA := oA.fr0 f6
   have o11 := o11.fr0 f6
   refine ⟨(lL (oA.cells.at (j := 1) rfl) rfl), (aA (o11.cells.at0 rfl) rfl), (lL (oA.cells.at (j := 1) rfl) rfl), (aA (o11.cells.at0 rfl) rfl), ?_⟩
   exact fin h6 t83 t84 (f5.trans f6) (o83.fr0 f6) (by omega) o84
  ·refine aU (vs := g.xs[k].vals ++ [.pointer (some a)]) fun t83 h5 f5 e5 o83 => ?_
   have z5 := f5.size
   have oA := oA.fr0 f5
   have o11 := o11.fr0 f5
   refine ⟨(lL (oA.cells.at (j := 1) rfl) rfl), (aA (o11.cells.at0 rfl) rfl), (lL (oA.cells.at (j := 1) rfl) rfl), (aA (o11.cells.at0 rfl) rfl), ?_, ?_⟩
   ·refine yC FU Tryz.underlying76 Hl (I4.map.fr f5 id) g.xs[k].Kind false ?_
    rw [if_neg (by decide)]
    refine ⟨_, _, _, hval, (lL (oA.cells.at (j := 1) rfl) rfl), (aA (o11.cells.at0 rfl) rfl), (by refine (aA (o11.cells.at0 rfl) (aC (o11.cells.at rfl) (aC (o11.cells.at rfl) (aC (o11.cells.at rfl) (aC (o11.cells.at rfl) ?_))))); rfl), ?_⟩
    refine aU (vs := [.pointer (some t83)]) fun t84 h6 f6 e6 o84 => ?_
    have oA := oA.fr0 f6
    have o11 := o11.fr0 f6
    refine ⟨(lL (oA.cells.at (j := 1) rfl) rfl), (aA (o11.cells.at0 rfl) rfl), (lL (oA.cells.at (j := 1) rfl) rfl), (aA (o11.cells.at0 rfl) rfl), ?_⟩
    exact fin h6 t83 t84 (f5.trans f6) (o83.fr0 f6) (by omega) o84
   ·refine aU (vs := [.pointer (some t83)]) fun t84 h6 f6 e6 o84 => ?_
    have oA := oA.fr0 f6
    have o11 := o11.fr0 f6
    refine ⟨(lL (oA.cells.at (j := 1) rfl) rfl), (aA (o11.cells.at0 rfl) rfl), (lL (oA.cells.at (j := 1) rfl) rfl), (aA (o11.cells.at0 rfl) rfl), ?_⟩
    refine yC FU Tryz.underlying76 Hl ((I4.map.fr f5 id).fr f6 id) g.xs[k].Kind false ?_
    rw [if_neg (by decide)]
    refine ⟨_, _, _, hval, (lL (oA.cells.at (j := 1) rfl) rfl), (aA (o11.cells.at0 rfl) rfl), (by refine (aA (o11.cells.at0 rfl) (aC (o11.cells.at rfl) (aC (o11.cells.at rfl) (aC (o11.cells.at rfl) (aC (o11.cells.at rfl) ?_))))); rfl), ?_⟩
    exact fin h6 t83 t84 (f5.trans f6) (o83.fr0 f6) (by omega) o84
 ·have : k = g.xs.length := by omega
  subst this
  rw [List.take_length] at I
  exact hk h1 mm o I
end Go.Proofs.YtjmfpeiidlpngaaGreatDoor
namespace Go.Proofs.YtjmfpeiidlpngaaGreatDoor
set_option linter.unusedSimpArgs false
set_option linter.unusedVariables false
set_option maxRecDepth 20000
open Go
open Go.IntKind (wrap)
def xu (N : Nat) (h : aB) (s : Addr) (bs : List Bd) (gs : List Gr) : Prop := N ≤ h.size ∧ ∃ p1 c1 m mm, Kp (fun x => x < N) h (fun h' => aY h' s [.slice p1 bs.length c1, .map (some m)] ∧ Row 25 aE.vals h' p1 c1 bs ∧ (∀ b ∈ bs, aE.ok h' b) ∧ wH (Bn .i64) h' m mm) ∧
 ∀ kind : Int, ∃ p c av, (pT mm kind).getD (.slice none 0 0) = .slice p (av : List Addr).length c ∧ Kp (fun x => x < N) h (fun h' => Row 1 adV h' p c av) ∧ Gps (fun x => x < N) h av (gs.filter fun g => g.Kind = kind)
theorem xu.fr {N : Nat} {S : Nat → Prop} {h h' : aB} {s : Addr} {bs : List Bd} {gs : List Gr} (T : xu N h s bs gs) (f : Fr S h h') (hs : ∀ x, x < h.size → S x → N ≤ x) : xu N h' s bs gs := by
 obtain ⟨hN, p1, c1, m, mm, k1, k2⟩ := T
 have h1 : ∀ x, x < h.size → x < N → ¬ S x := fun x hx hn hh => by have := hs x hx hh; omega
 refine ⟨Nat.le_trans hN f.size, p1, c1, m, mm, k1.fr f h1 fun _ _ => id, fun kind => ?_⟩
 obtain ⟨p, c, av, e, k, G⟩ := k2 kind
 exact ⟨p, c, av, e, k.fr f h1 fun _ _ => id, G.fr f h1 fun _ _ => id⟩
theorem xu.fr0 {N : Nat} {h h' : aB} {s : Addr} {bs : List Bd} {gs : List Gr} (f : Fr (fun _ => False) h h') (T : xu N h s bs gs) : xu N h' s bs gs := T.fr f fun _ _ h => h.elim
structure Snd (b : Bd) : Prop where
 ck : Au.Hc b.Rule
 l1 : b.Src.xs.length ≤ 6
 l2 : b.Dst.xs.length ≤ 6
 l3 : b.SrcPorts.xs.length ≤ 6
 l4 : b.DstPorts.xs.length ≤ 6
theorem Snd.len {b : Bd} (s : Snd b) : L0 b := by
 obtain ⟨c, h1, h2, h3, h4⟩ := s
 have := c.src; have := c.dst; have := c.sp; have := c.dp; have := c.trn; have := c.conn; have := c.tesn; have := c.flon
 exact ⟨by omega, by omega, by omega, by omega, by omega, by omega, by omega, by omega, by omega, by omega, by omega, by omega⟩
theorem Snd.short {b : Bd} (s : Snd b) : Fp.JS b.Rule := ⟨⟨by have := s.ck.conn; omega, fun c hc => by have := s.ck.con c hc; omega⟩, by have := s.ck.trn; omega⟩
theorem Snd.wipe {b b' : Bd} (s : Snd b) (e : wipe b' = wipe b) : Snd b' := by
 have hs : ∀ b : Bd, Snd (Go.Proofs.YtjmfpeiidlpngaaGreatDoor.wipe b) ↔ Snd b := fun b => ⟨fun ⟨c, h1, h2, h3, h4⟩ => ⟨⟨c.act, c.proto, c.sid, c.prio, c.dir, c.kind, c.msg, c.trn, c.conn, c.tesn, c.flon, c.src, c.dst, c.sp, c.dp, c.tr, c.con, c.tes, c.flo⟩, h1, h2, h3, h4⟩,
  fun ⟨c, h1, h2, h3, h4⟩ => ⟨⟨c.act, c.proto, c.sid, c.prio, c.dir, c.kind, c.msg, c.trn, c.conn, c.tesn, c.flon, c.src, c.dst, c.sp, c.dp, c.tr, c.con, c.tes, c.flo⟩, h1, h2, h3, h4⟩⟩
 exact (hs b').1 (e ▸ (hs b).2 s)
theorem BS {P : List Fp.Grp → Prop} (l : List Fp.Ru) (ha : ∀ k gs, ∀ r ∈ l, P gs → P (Fp.Ah k r gs)) : ∀ (l' : List Fp.Ru), (∀ r ∈ l', r ∈ l) → ∀ k gs, P gs → P (Fp.fR l' k gs)
 | [], _, _, _, h => h
 | r :: l', hl, k, gs, h => by
  rw [Fp.fR]
  exact BS l ha l' (fun x hx => hl x (List.mem_cons_of_mem _ hx)) _ _ (ha k gs r (hl r (by simp)) h)
def HD (gs : List Fp.Grp) : Prop := ∀ g ∈ gs, ∀ p ∈ g.pats, 1 ≤ p.1.length ∧ p.1.length ≤ 64
theorem Fe {cs : List Fp.Cn} (sh : ∀ c ∈ cs, 1 ≤ c.Pattern.length ∧ c.Pattern.length ≤ 64) {p : List UInt8 × Bool} (hp : Fp.vg cs = some p) : 1 ≤ p.1.length ∧ p.1.length ≤ 64 := by
 unfold Fp.vg at hp
 split at hp
 ·cases hp
 ·rename_i hneg
  have hlt := Fp.re cs
  simp only [Option.some.injEq] at hp
  subst hp
  have hk : (Fp.cY cs).toNat < cs.length := by omega
  have e : cs.getD (Fp.cY cs).toNat Fp.noC = cs[(Fp.cY cs).toNat] := by rw [List.getD_eq_getElem?_getD, List.getElem?_eq_getElem hk]; rfl
  have := sh _ (List.getElem_mem hk)
  simp only [e]
  split
  ·simpa using this
  ·exact this
theorem HD.add {gs : List Fp.Grp} (s : HD gs) (k : Nat) (r : Fp.Ru) (sh : ∀ c ∈ r.Contents.xs, 1 ≤ c.Pattern.length ∧ c.Pattern.length ≤ 64) : HD (Fp.Ah k r gs) := by
 have hs : HD (Fp.uW r gs) := by
  intro g hg
  unfold Fp.uW at hg
  split at hg
  ·rcases List.mem_append.1 hg with hg | hg
   ·exact s g hg
   ·rw [List.mem_singleton.1 hg]; intro p hp; cases hp
  ·exact s g hg
 intro g hg
 rcases Fp.mO hg with hg | ⟨y, hy, rfl⟩
 ·exact hs g hg
 ·unfold Fp.sQ
  split
  ·exact hs y hy
  ·rename_i p hp
   split
   ·intro q hq
    rcases List.mem_append.1 hq with hq | hq
    ·exact hs y hy q hq
    ·rw [List.mem_singleton.1 hq]; exact Fe sh hp
   ·exact hs y hy
theorem yl (l : List Fp.Ru) : ∀ n k gs, k + n = l.length → Fp.tz k gs → Fp.tz l.length (Fp.fR (l.drop k) k gs)
 | 0, k, gs, e, s => by rw [List.drop_eq_nil_of_le (by omega), Fp.fR]; rw [← e]; exact s
 | n + 1, k, gs, e, s => by
  rw [Fp.zZ l k (by omega)]
  exact yl l n (k + 1) _ (by omega) (s.add _)
theorem Iz (l : List Fp.Ru) : Fp.tz l.length (Fp.pD l) := by
 have := yl l l.length 0 [] (by omega) ⟨Nat.le_refl _, fun g hg => by cases hg⟩
 rwa [List.drop_zero] at this
theorem M0 (l : List Fp.Ru) (sh : ∀ r ∈ l, ∀ c ∈ r.Contents.xs, 1 ≤ c.Pattern.length ∧ c.Pattern.length ≤ 64) : HD (Fp.pD l) :=
 BS l (fun k gs r hr h => h.add k r (sh r hr)) l (fun _ h => h) 0 [] fun g hg => by cases hg
theorem CT : ∀ L : List Au.Pt, (∀ p ∈ L, 1 ≤ p.t.length ∧ p.t.length ≤ 64) → Au.rP L = 0
 | [], _ => rfl
 | p :: L, h => by
  have := h p (by simp)
  unfold Au.rP
  rw [if_neg (fun e => by rw [e] at this; simp at this), if_neg (by omega)]
  exact CT L fun q hq => h q (List.mem_cons_of_mem _ hq)
theorem wY : ∀ (l : List Fp.Ru) k gs, Fp.fR (l.map LA) k gs = Fp.fR l k gs
 | [], _, _ => rfl
 | r :: l, k, gs => by rw [List.map_cons, Fp.fR, Fp.fR, wY l]; rfl
def iw (l : List Bd) : List Fp.Grp := Fp.pD (l.map (·.Rule))
theorem qD {l l' : List Bd} (e : l.map wipe = l'.map wipe) : iw l = iw l' := by
 have h : ∀ l : List Bd, iw l = Fp.pD ((l.map wipe).map (·.Rule)) := fun l => by
  unfold iw Fp.pD
  rw [← wY, List.map_map, List.map_map]; rfl
 rw [h, h, e]
theorem yk {l l' : List Bd} (e : l.map wipe = l'.map wipe) {b : Bd} (hb : b ∈ l) : ∃ b' ∈ l', wipe b = wipe b' := by
 have : wipe b ∈ l'.map wipe := e ▸ List.mem_map_of_mem hb
 obtain ⟨b', h1, h2⟩ := List.mem_map.1 this
 exact ⟨b', h1, h2.symm⟩
theorem Di [Gh] (l : Sl Bd) {h : aB} (ok : bH 25 aE.vals aE.ok h l) (hl : l.xs.length ≤ 40) (sd : ∀ b ∈ l.xs, Snd b) {Q : Value → aB → Prop}
  (hbad : ∀ h', Fr (fun _ => False) h h' → ¬ (l.xs.map oV).Nodup → Q (.tuple #[.pointer none, .int .i64 7]) h')
  (hk : ∀ s h' bs gs, Fr (fun _ => False) h h' → xu h'.size h' s bs gs → bs.map wipe = l.xs.map wipe → gs.map Fp.fJ = iw l.xs → (l.xs.map oV).Nodup → Q (.tuple #[.pointer (some s), .int .i64 0]) h') :
  aD Tryz.prog ki #[.slice l.p l.xs.length l.cap] h Q := by
 apply xV
 unfold r3
 refine ifD (fun e => by omega) fun _ => ?_
 refine Fg (Bn .i64) fun m h1 f1 em M1 => ?_
 refine aU (vs := [.slice none 0 0, .map (some m)]) fun A h2 f2 e2 oA => ?_
 refine Fg (Bn .i64) fun seen h3 f3 es M3 => ?_
 have z1 := f1.size; have z2 := f2.size; have z3 := f3.size
 have lm := M1.lt; have lA := oA.lt
 have f03 := (f1.trans f2).trans f3
 refine Ir l ok hl (fun b hb => (sd b hb).len) (A := A) (m := m) (seen := seen) ⟨by omega, f03, oA.fr0 f3, Row.nil, Row.nil, (M1.fr f2 id).fr f3 id, M3, rfl, fun b hb => (List.not_mem_nil hb).elim, fun x hx => (cU hx).elim, fun x hx => (cU hx).elim, by omega, List.nodup_nil⟩ hbad fun h4 p1 c1 p2 c2 bs C => ?_
 have z4 := C.fr.size
 have blen : bs.length = l.xs.length := C.len
 have okb : ∀ b ∈ bs, aE.ok h4 b := fun b hb => (C.st b hb).now
 have sdb : ∀ b ∈ bs, Snd b := fun b hb => by
  obtain ⟨b', hb', e⟩ := yk (l' := l.xs) (by rw [C.wp, List.take_length]) hb
  exact (sd b' hb').wipe e
 have wp : bs.map wipe = l.xs.map wipe := by rw [C.wp, List.take_length]
 unfold ka
 have okr : bH 21 aO.vals aO.ok h4 ⟨p2, c2, bs.map (·.Rule)⟩ := C.r2.sl Ea (by omega) (by rw [List.length_map]; omega) fun r hr => by
  obtain ⟨b, hb, rfl⟩ := List.mem_map.1 hr
  exact (okb b hb).k0
 have call : ∀ (R : Sl aO), R = ⟨p2, c2, bs.map (·.Rule)⟩ → (∀ (g : Sl bK) h', Fr (fun _ => False) h4 h' → Fp.FI h' g → g.xs.map Fp.fJ = Fp.pD R.xs → aH (fun (s : Int) h Kn => gC A g.p g.xs.length g.cap ((g.xs.length : Nat) : Int) Q s h Kn) 0 h') →
   aD Tryz.prog iR #[.slice R.p R.xs.length R.cap] h4 fun v h16 => ∃ t55a : Option Addr, ∃ t55n : Nat, ∃ t55c : Nat, v = .slice t55a t55n t55c ∧ aH (fun (s : Int) h Kn => gC A t55a t55n t55c ((t55n : Nat) : Int) Q s h Kn) 0 h16 := fun R hR hK => by
  refine Fp.J4 R (hR ▸ okr) (by rw [hR]; show (bs.map _).length ≤ 40; rw [List.length_map]; omega) (fun r hr => ?_) fun g h5 f5 okg eg => ⟨_, _, _, rfl, hK g h5 f5 okg eg⟩
  rw [hR] at hr
  obtain ⟨b, hb, rfl⟩ := List.mem_map.1 hr
  exact (sdb b hb).short
 refine (fun call => ?_) (call _ rfl fun g h5 f5 okg eg => ?_)
 ·rw [show (⟨p2, c2, bs.map (·.Rule)⟩ : Sl aO).xs.length = l.xs.length by show (bs.map _).length = _; rw [List.length_map]; exact blen] at call
  exact call
 have z5 := f5.size
 have sm : Fp.tz bs.length (iw bs) := by have := Iz (bs.map (·.Rule)); rwa [List.length_map] at this
 have pg : HD (iw bs) := M0 _ fun r hr c hc => by
  obtain ⟨b, hb, rfl⟩ := List.mem_map.1 hr
  have := (sdb b hb).ck.con c hc; omega
 have eg' : g.xs.map Fp.fJ = iw bs := eg
 have glen : g.xs.length ≤ 40 := by
  have h1 := congrArg List.length eg'
  rw [List.length_map] at h1
  have := sm.len; omega
 refine KM g okg (C.mm.fr f5 id) (vA := .slice p1 l.xs.length c1) (C.own.fr0 f5) C.nA.2.2.2.1 glen (fun gr hgr => ?_) fun h6 mm o I => ?_
 ·have hm : Fp.fJ gr ∈ iw bs := by rw [← eg']; exact List.mem_map_of_mem hgr
  have h1 := (sm.g _ hm).1
  have h2 := pg _ hm
  have e1 : (Fp.fJ gr).pats.length = gr.Patterns.xs.length := List.length_map ..
  refine ⟨by omega, CT _ fun p hp => ?_⟩
  obtain ⟨q, hq, rfl⟩ := List.mem_map.1 hp
  exact h2 (q.Text, q.Nocase) (List.mem_map_of_mem hq)
 ·have zI := I.size
  have l1 : ∀ x, InA p1 x → x < h4.size := fun x hx => C.r1.lt hx
  have lA4 := C.own.lt
  have hF : Fr (fun x => x = m ∨ h5.size ≤ x) h5 h6 := I.fr
  have big : ∀ h7, Fr (fun x => ¬ x < h6.size) h6 h7 → Fr (fun _ => False) h6 h7 := fun h7 f => f.mono' fun x hx hh => hh hx
  have nA := C.nA
  have sub : Fr (fun _ => False) h h6 := (C.fr.trans f5).tr hF fun x hx hh => by omega
  refine hk A h6 bs g.xs sub ⟨Nat.le_refl _, p1, c1, m, mm, fun h7 f7 => ?_, fun kind => ?_⟩ wp (eg'.trans (qD wp)) (by have := C.nd; rwa [List.take_length] at this)
  ·have f7' := big h7 f7
   have oA6 := ((C.own.fr0 f5).fr hF fun hh => by omega).fr0 f7'
   refine ⟨?_, (((C.r1.fr0 f5).fr hF fun x hx hh => by have := l1 x hx; have := C.n1 x hx; omega).fr0 f7'), fun b hb => ?_, I.map.fr f7' id⟩
   ·have := oA6.cells
    rwa [← blen] at this
   ·refine ((((C.st b hb).fr (B' := fun x => x ≠ m) f5 (fun _ _ _ => id) fun x hx hh => hh.2.2.1).fr (B' := fun x => x ≠ m) hF (fun x hx h1 hh => ?_) fun x hx hh => hh).fr (B' := fun x => x ≠ m) f7' (fun _ _ _ => id) fun x hx hh => hh).now
    rcases hh with hh | hh
    ·exact h1 hh
    ·omega
  ·obtain ⟨p, c, av, e, R, ho, G⟩ := I.kd kind
   exact ⟨p, c, av, e, fun h7 f7 => R.fr0 (big h7 f7), G.fr (Fr.refl (fun _ => False) _) (fun _ _ _ => id) fun x hx _ => hx⟩
end Go.Proofs.YtjmfpeiidlpngaaGreatDoor
namespace Go.Proofs.YtjmfpeiidlpngaaGreatDoor.Au
set_option linter.unusedSimpArgs false
set_option linter.unusedVariables false
set_option maxRecDepth 20000
open Go
open Go.IntKind (wrap)
structure yU (h : aB) (c a : Addr) (now at' : Nat) (tl : Nm) (p : Option Addr) (cap : Nat) : Prop where
 own : Own h c [.pointer (some a), .int .u16 now, .int .i64 at', .slice p tl.length cap] fW
 row : Row 1 bV h p cap tl
 nc : ¬ InA p c.block
theorem yU.fr {S : Nat → Prop} {h h' : aB} {c a : Addr} {now at' : Nat} {tl : Nm} {p : Option Addr} {cap : Nat} (C : yU h c a now at' tl p cap) (f : Fr S h h') (h1 : ¬ S c.block) (h2 : ∀ x, InA p x → ¬ S x) : yU h' c a now at' tl p cap :=
 ⟨C.own.fr f h1, C.row.fr f h2, C.nc⟩
theorem yU.fr0 {h h' : aB} {c a : Addr} {now at' : Nat} {tl : Nm} {p : Option Addr} {cap : Nat} (f : Fr (fun _ => False) h h') (C : yU h c a now at' tl p cap) : yU h' c a now at' tl p cap := C.fr f id fun _ _ => id
def spB (L : List Pt) (tl : Nm) (j : Nat) : Bool := (L.getD j ⟨[], false⟩).nc || decide (tl.drop (tl.length - (L.getD j ⟨[], false⟩).t.length) = (L.getD j ⟨[], false⟩).t)
theorem CF (L : List Pt) (j : Nat) (hj : j < L.length) : L.getD j ⟨[], false⟩ = L[j] := by rw [List.getD_eq_getElem?_getD, List.getElem?_eq_getElem hj]; rfl
theorem Eg {h : aB} {p : Option Addr} {cap : Nat} {l : Nm} (R : Row 1 bV h p cap l) (k : Nat) {n : Int} (hn : n = k) (hk : k ≤ l.length) {K : Option Addr → Nat → Nat → Prop}
  (hK : ∀ p' c', (∀ ad, p' = some ad → aY h ad (dW (l.drop k))) → (p' = none → l.drop k = []) → K p' (l.drop k).length c') : fM 1 p l.length cap (some n) none none K := by
 subst hn
 unfold fM
 refine ⟨by omega, by omega, ?_⟩
 rw [Int.toNat_natCast, ← List.length_drop]
 have hle := R.le
 have hb := R.own
 rw [wj] at hb
 by_cases hc : cap = k
 ·have e : l.drop k = [] := List.drop_eq_nil_of_le (by omega)
  rw [if_pos hc]
  exact hK _ _ (fun ad _ => by rw [e]; intro j hj; exact absurd hj (Nat.not_lt_zero _)) fun _ => e
 ·rw [if_neg hc]
  cases p with
  | none => exact hK _ _ (fun ad he => by cases he) fun _ => by have := hb.1; simp [dW] at this; rw [this]; simp
  | some ad =>
   refine hK _ _ (fun ad' he => ?_) fun he => by cases he
   simp only [Option.map_some, Option.some.injEq, Nat.mul_one] at he
   subst he
   have := hb.cells.sub k
   unfold dW at this ⊢
   rw [← List.map_drop] at this; exact this
theorem KF [Gh] {h : aB} {c a : Addr} {sg : List St} {L : List Pt} {now at' : Nat} {tl : Nm} {p : Option Addr} {cap : Nat} (A : Hu h a sg L) (C : yU h c a now at' tl p cap) (j : Nat) (hj : j < L.length) (hlen : L[j].t.length ≤ tl.length) (htl : tl.length ≤ 64) {Q : Value → aB → Prop}
  (hk : ∀ h', Fr (fun _ => False) h h' → Q (.bool (spB L tl j)) h') : aD Tryz.prog mf #[.pointer (some c), .int .i64 j] h Q := by
 apply sO
 unfold mB
 obtain ⟨q, cq, pq, pc, ca, _, S⟩ := A.blk
 have cc := C.own.cells
 unfold spB at hk
 rw [CF L j hj] at hk
 refine aV (bB (cc.at0 rfl) (aV (aC (ca.at rfl) (S.get j rfl hj fun ad ci => ?_))))
 rw [Int.toNat_natCast]
 refine aT (ci.at0 rfl) (aG (ci.at (j := 1) rfl) ?_)
 refine aU (vs := [.string (bs []), .bool false]) fun t5 h1 f1 e1 o1 => ?_
 refine jt o1 (ws := [.string (bs L[j].t), .bool L[j].nc]) (by rfl) (by rfl) fun h2 f2 s2 o2 => ?_
 have F2 : Fr (fun _ => False) h h2 := f1.tr f2 fun b hb hi => by omega
 have c2 := o2.cells
 refine aG (c2.at (j := 1) rfl) (ifB (fun e => ?_) fun e => ?_)
 ·rw [e] at hk; exact hk h2 F2
 rw [e, Bool.false_or] at hk
 have cc2 := cc.fr0 F2
 refine aV (aC (cc2.at rfl) (aV (aC (cc2.at rfl) (aT (c2.at0 rfl) ?_))))
 rw [aX, wr (by omega) (by omega)]
 refine Eg (C.row.fr0 F2) (tl.length - L[j].t.length) (by omega) (by omega) fun p' c' h3 h4 => ?_
 refine aT (c2.at0 rfl) ?_
 refine rm Tryz.underlying98 Tryz.underlying9 Tryz.underlying5 rfl h3 h4 ⟨_, rfl, aT (c2.at0 rfl) rfl, ?_⟩
 refine Qeq (hk h2 F2) ?_
 congr 1
 show _ = ((bs (tl.drop (tl.length - L[j].t.length))).toList == (bs L[j].t).toList)
 rw [jO, jO]
 rw [Bool.eq_iff_iff, decide_eq_true_iff, beq_iff_eq]
theorem Nk [Gh] {h : aB} {p : Option Addr} {cap : Nat} {L : List Nat} (R : Row 1 inV h p cap L) {e : Nat} {b : Addr} {T : TypeId} (ob : Own h b (inV e) T) (hl : L.length ≤ 2 ^ 29) {K : Value → aB → Prop}
  (hk : ∀ p' cap' h', Row 1 inV h' p' cap' (L ++ [e]) → Fr (InA p) h h' → (∀ b, InA p' b → InA p b ∨ h.size ≤ b) → K (.slice p' (L ++ [e]).length cap') h') :
  cQ Tryz.prog .append #[bG, bG] bG #[false, false] #[.slice p L.length cap, .slice (some b) 1 1] h K :=
 R.app rq Tryz.underlying46 (by intro k e; cases e) (by kernel_rfl) (by decide +kernel) wB (fun _ => rfl) ob 1 hl hk
theorem LI [Gh] {h : aB} {q : Option Addr} {cq : Nat} {l : List Nat} (R : Row 1 inV h q cq l) (hl : l.length ≤ 2 ^ 20) (F : Value) (P : Nat → Bool)
  (hF : ∀ h', Fr (fun _ => False) h h' → ∀ j ∈ l, ∀ Q : Value → aB → Prop, (∀ h'', Fr (fun _ => False) h' h'' → Q (.bool (P j)) h'') → my Tryz.prog F #[.int .i64 j] h' Q) {Q : Value → aB → Prop}
  (hk : ∀ r rc h', Fr (fun _ => False) h h' → Row 1 inV h' r rc (l.filter P) → (∀ x, InA r x → h.size ≤ x) → Q (.slice r (l.filter P).length rc) h') :
  aD Tryz.prog nV #[.slice q l.length cq, F] h Q := by
 apply zp
 unfold tm
 refine aH.go (fun n st h' => ∃ (i : Nat), st.2.2.2 = (i : Int) ∧ st.2.1 = ((l.take i).filter P).length ∧ i ≤ l.length ∧ n = l.length - i ∧ Fr (fun _ => False) h h' ∧ Row 1 inV h' st.1 st.2.2.1 ((l.take i).filter P) ∧ ∀ x, InA st.1 x → h.size ≤ x) l.length
  ⟨0, rfl, rfl, by omega, rfl, Fr.refl _ _, Row.nil, fun x hx => (cU hx).elim⟩ ?_
 rintro n ⟨ra, rn, rc, t10⟩ h1 ⟨i, e1, e2, hi, rfl, f1, R1, hr⟩ Kn hK
 dsimp only at e1 e2 R1 hr
 subst e1 e2
 dsimp only
 unfold n8
 have z1 := f1.size
 refine ifD (fun e => ?_) fun e => ?_
 ·have hil : i < l.length := by omega
  have htk : (l.take (i + 1)).filter P = (l.take i).filter P ++ (if P l[i] = true then [l[i]] else []) := by
   rw [show l.take (i + 1) = l.take i ++ [l[i]] by rw [List.take_append_getElem], List.filter_append, List.filter_cons, List.filter_nil]
  have hfl : ((l.take i).filter P).length ≤ i := Nat.le_trans (List.length_filter_le ..) (by rw [List.length_take]; omega)
  refine (R.fr0 f1).idx wB (by decide) i rfl hil fun ad ci => ?_
  rw [Int.toNat_natCast]
  refine aA (ci.at0 rfl) (hF h1 f1 l[i] (List.getElem_mem hil) _ fun h2 f2 => ⟨_, rfl, ?_⟩)
  have f12 := f1.trans f2
  have z2 := f2.size
  rw [wr (by omega) (by omega)]
  refine ifB (fun e3 => ?_) fun e3 => ?_
  ·rw [if_pos e3] at htk
   refine aU (vs := inV l[i]) fun t19 h3 f3 e3 o3 => ?_
   have z3 := f3.size
   refine Nk ((R1.fr0 f2).fr0 f3) o3 (by omega) fun p' c' h4 R4 f4 hn4 => ⟨_, _, _, rfl, ?_⟩
   rw [← htk] at R4 ⊢
   refine hK (l.length - (i + 1)) _ _ (by omega) ⟨i + 1, rfl, rfl, hil, rfl, (f12.trans f3).tr f4 fun x hx hh => by have := hr x hh; omega, R4, fun x hx => ?_⟩
   rcases hn4 x hx with hh | hh
   ·exact hr x hh
   ·omega
  ·rw [if_neg (by rw [e3]; decide), List.append_nil] at htk
   exact hK (l.length - (i + 1)) _ _ (by omega) ⟨i + 1, rfl, by dsimp only; rw [htk], hil, rfl, f12, by rw [htk]; exact R1.fr0 f2, hr⟩
 ·have : i = l.length := by omega
  subst this
  rw [List.take_length] at R1 ⊢
  exact hk ra rc h1 f1 R1 hr
end Go.Proofs.YtjmfpeiidlpngaaGreatDoor.Au
namespace Go.Proofs.YtjmfpeiidlpngaaGreatDoor.Au
set_option linter.unusedSimpArgs false
set_option linter.unusedVariables false
set_option maxRecDepth 20000
open Go
def oz (L : List Pt) (s : Nm) : List Nat := (List.range L.length).filter fun j => vl (L.getD j ⟨[], false⟩) s s.length
theorem Gy (L : List Pt) (s : Nm) : (oz L s).Pairwise (· < ·) := List.Pairwise.filter _ List.pairwise_lt_range
theorem th {L : List Pt} {w : Nm} {j : Nat} : j ∈ iJ L L.length w ↔ j < L.length ∧ cF (L.getD j ⟨[], false⟩).t = w := by
 unfold iJ
 rw [List.mem_filter, List.mem_range, decide_eq_true_iff]
theorem Ed (s : Nm) (k : Nat) (hk : k ≤ s.length) : A7 s k s.length = s.drop (s.length - k) := by
 unfold A7
 rw [List.take_of_length_le]
 rw [List.length_drop]; omega
theorem IV {v s : Nm} : v <:+ s ↔ v.length ≤ s.length ∧ s.drop (s.length - v.length) = v := by
 constructor
 ·intro h
  exact ⟨h.length_le, (List.suffix_iff_eq_drop.1 h).symm⟩
 ·rintro ⟨_, h⟩
  rw [← h]; exact List.drop_suffix _ _
section
variable {sg : List St} {ws : List Nm} {L : List Pt}
theorem Bq.pre' {E : Nm → List Nat} (D : Bq sg ws E) : Pre ws := ⟨List.mem_of_getElem? D.z, D.pre⟩
theorem Fb (he : rP L = 0) : iJ L L.length [] = [] := by
 rw [List.eq_nil_iff_forall_not_mem]
 intro j hj
 obtain ⟨h1, h2⟩ := th.1 hj
 rw [CF L j h1] at h2
 refine (wv he _ (List.getElem_mem h1)).1 ?_
 unfold cF at h2
 exact List.map_eq_nil_iff.1 h2
theorem FC (w : Nm) : (iJ L L.length w).Nodup := List.Pairwise.filter _ List.nodup_range
theorem IB (v w : Nm) (j : Nat) (h1 : j ∈ iJ L L.length v) (h2 : j ∈ iJ L L.length w) : v = w := (th.1 h1).2.symm.trans (th.1 h2).2
theorem zJ (D : Bq sg ws (iJ L L.length)) (he : rP L = 0) (s : Nm) : (mQ ws (iJ L L.length) (ls ws s)).Nodup :=
 zL D.pre' _ (Fb he) FC IB _ _ (Nat.le_refl _) (zh D.pre' s)
theorem CR (D : Bq sg ws (iJ L L.length)) (hw : ∀ w, w ∈ ws ↔ wS L L.length w) (he : rP L = 0) (s : Nm) (j : Nat) :
  j ∈ mQ ws (iJ L L.length) (ls ws s) ↔ j < L.length ∧ cF (L.getD j ⟨[], false⟩).t <:+ s := by
 rw [wu D.pre' _ (Fb he) j _ _ (Nat.le_refl _) (zh D.pre' s)]
 constructor
 ·rintro ⟨v, h1, h2, h3⟩
  obtain ⟨h4, h5⟩ := th.1 h3
  refine ⟨h4, ?_⟩
  rw [h5]; exact h1.trans (vR s)
 ·rintro ⟨h1, h2⟩
  have hm : cF (L.getD j ⟨[], false⟩).t ∈ ws := (hw _).2 (.inr ⟨j, h1, h1, by rw [CF L j h1]; exact List.prefix_refl _⟩)
  exact ⟨_, zg s h2 hm, hm, th.2 ⟨h1, rfl⟩⟩
theorem JM (s : Nm) (k : Nat) (h1 : k ≤ 64) (h2 : k ≤ s.length) : (s.drop (s.length - 64)).drop ((s.drop (s.length - 64)).length - k) = s.drop (s.length - k) := by
 rw [List.drop_drop, List.length_drop]
 congr 1; omega
theorem GB (p : Pt) (s : Nm) (h1 : p.t ≠ []) (h2 : p.t.length ≤ 64) :
  vl p s s.length = true ↔ cF p.t <:+ cF s ∧ (p.nc || decide ((s.drop (s.length - 64)).drop ((s.drop (s.length - 64)).length - p.t.length) = p.t)) = true := by
 have hs : cF p.t <:+ cF s ↔ p.t.length ≤ s.length ∧ cF (s.drop (s.length - p.t.length)) = cF p.t := by
  rw [IV, jR, jR]
  unfold cF
  rw [List.map_drop]
 unfold vl
 rw [Bool.and_eq_true, Bool.and_eq_true, decide_eq_true_iff, decide_eq_true_iff, hs]
 constructor
 ·rintro ⟨_, h3, h4⟩
  rw [Ed s _ h3] at h4
  rw [JM s _ h2 h3]
  by_cases hn : p.nc = true
  ·rw [if_pos hn, decide_eq_true_iff] at h4
   exact ⟨⟨h3, h4⟩, by rw [hn]; rfl⟩
  ·rw [if_neg hn, decide_eq_true_iff] at h4
   exact ⟨⟨h3, by rw [h4]⟩, by rw [h4]; simp⟩
 ·rintro ⟨⟨h3, h4⟩, h5⟩
  rw [JM s _ h2 h3] at h5
  refine ⟨h1, h3, ?_⟩
  rw [Ed s _ h3]
  by_cases hn : p.nc = true
  ·rw [if_pos hn, decide_eq_true_iff]; exact h4
  ·rw [if_neg hn, decide_eq_true_iff]
   rw [Bool.or_eq_true] at h5
   rcases h5 with h5 | h5
   ·exact absurd h5 hn
   ·exact of_decide_eq_true h5
theorem Gj (D : Bq sg ws (iJ L L.length)) (hw : ∀ w, w ∈ ws ↔ wS L L.length w) (he : rP L = 0) (s : Nm) :
  ((mQ ws (iJ L L.length) (ls ws (cF s))).filter (spB L (s.drop (s.length - 64)))).Perm (oz L s) := by
 refine (List.perm_ext_iff_of_nodup ((zJ D he _).filter _) ((List.nodup_range).filter _)).2 fun j => ?_
 rw [List.mem_filter, CR D hw he]
 rw [List.mem_filter, List.mem_range]
 constructor
 ·rintro ⟨⟨h1, h2⟩, h3⟩
  have hp := wv he _ (List.getElem_mem h1)
  rw [← CF L j h1] at hp
  exact ⟨h1, (GB _ s hp.1 hp.2).2 ⟨h2, h3⟩⟩
 ·rintro ⟨h1, h2⟩
  have hp := wv he _ (List.getElem_mem h1)
  rw [← CF L j h1] at hp
  have := (GB _ s hp.1 hp.2).1 h2
  exact ⟨⟨h1, this.1⟩, this.2⟩
theorem HH (D : Bq sg ws (iJ L L.length)) (hw : ∀ w, w ∈ ws ↔ wS L L.length w) (he : rP L = 0) (s : Nm) : (mQ ws (iJ L L.length) (ls ws s)).length ≤ L.length :=
 Bm (zJ D he s) fun j hj => ((CR D hw he s j).1 hj).1
end
end Go.Proofs.YtjmfpeiidlpngaaGreatDoor.Au
namespace Go.Proofs.YtjmfpeiidlpngaaGreatDoor
set_option linter.unusedSimpArgs false
set_option linter.unusedVariables false
set_option maxRecDepth 20000
open Go
section
variable {α : Type} [Inhabited α] {enc : α → Value} {P : Program}
theorem Ek [Gh] {f : FuncId} {ad : Addr} {cap : Nat} {xs ys : List α} {h : aB} (hc : ∀ args w, (callFunc f args).run P w = .ok (.enter f args) w) (hl : ys.length = xs.length)
  (R : Row 1 (fun x => [enc x]) h (some ad) cap xs)
  (hs : ∀ w : World, w.heap = h → Go.Sort.Holds enc w ad.block 0 xs.toArray → ad.block < w.heap.size → Calls P f #[.slice (some ⟨ad.block, 0, none⟩) xs.length cap] w fun e w' =>
   e = .returned (.tuple #[]) ∧ ∃ n os, w' = Go.Sort.grow (Go.Sort.putRow enc (Go.Sort.ahead w n) ad.block 0 ys.toArray) os)
  {K : Value → aB → Prop} (hk : ∀ h', Fr (InA (some ad)) h h' → Row 1 (fun x => [enc x]) h' (some ad) cap ys → K (.tuple #[]) h') : aD P f #[.slice (some ad) xs.length cap] h K := by
 obtain ⟨⟨h1, h2, ds, t, fr, hfr, hg, hcap, hlen, hcs⟩, hle⟩ := R
 have hfl : ∀ zs : List α, zs.flatMap (fun x => [enc x]) = zs.map enc := fun zs => by induction zs <;> simp_all
 rw [hfl] at hlen hcs
 obtain ⟨b, o, s⟩ := ad
 simp only at h1 h2 hg hs
 subst h1 h2
 rw [List.length_map] at hlen
 have hblk : b < h.size := qM hg
 intro w hw hsm
 have hrun := hc #[.slice (some ⟨b, 0, none⟩) xs.length cap] w
 rw [hrun]
 simp only
 refine (hs w hw ?_ (by rw [hw]; exact hblk)).mono ?_
 ·intro j hj
  have hj' : j < xs.length := by simpa using hj
  rw [Nat.zero_add]
  constructor
  ·show hcell w.heap ⟨b, j, none⟩ = _
   rw [hw, kH hg, hcs j (by simpa using hj')]
   simp [hj']
  ·show qA w.heap ⟨b, j, none⟩ = _
   rw [hw]
   exact rz hg hfr (by omega)
 ·rintro e w' ⟨rfl, n, os, rfl⟩
  refine ⟨_, rfl, ?_, ⟨hsm.1, hsm.2.1, hsm.2.2⟩⟩
  have hheap : (Go.Sort.grow (Go.Sort.putRow enc (Go.Sort.ahead w n) b 0 ys.toArray) os).heap = (h.modify b (Go.Sort.onCells (Go.Sort.putCells enc 0 ys.toArray))) ++ os := by
   rw [← hw]; rfl
  rw [hheap]
  have hat : ((h.modify b (Go.Sort.onCells (Go.Sort.putCells enc 0 ys.toArray))) ++ os)[b]? = some (.cells (Go.Sort.putCells enc 0 ys.toArray ds) t fr) := by
   rw [Array.getElem?_append_left (by simpa using hblk), Array.getElem?_modify, if_pos rfl, hg]; rfl
  have hsz : (Go.Sort.putCells enc 0 ys.toArray ds).size = ds.size := by simp [Go.Sort.putCells]
  refine hk _ ⟨by simp, fun c hcl hn => ?_⟩ ⟨⟨rfl, rfl, _, t, fr, by rw [hsz]; exact hfr, hat, by rw [hsz]; exact hcap, ?_, ?_⟩, by rw [hl]; exact hle⟩
  ·rw [Array.getElem?_append_left (by simpa using hcl), Array.getElem?_modify, if_neg (fun e => hn ⟨_, rfl, e⟩)]
  ·rw [hfl, hsz, List.length_map, hl]; exact hlen
  ·rw [hfl]
   intro i hi
   rw [List.length_map] at hi
   unfold Go.Sort.putCells
   rw [Array.getElem?_mapIdx, Array.getElem?_eq_getElem (by omega)]
   simp [hi]
theorem Ff [Gh] {f : FuncId} {p : Option Addr} {cap : Nat} {h : aB} (hc : ∀ args w, (callFunc f args).run P w = .ok (.enter f args) w)
  (hs : ∀ w : World, Calls P f #[.slice p 0 cap] w fun e w' => e = .returned (.tuple #[]) ∧ w' = w)
  {K : Value → aB → Prop} (hk : K (.tuple #[]) h) : aD P f #[.slice p 0 cap] h K := by
 intro w hw hsm
 rw [hc]
 simp only
 refine (hs w).mono ?_
 rintro e w' ⟨rfl, rfl⟩
 exact ⟨_, rfl, by rw [hw]; exact hk, hsm⟩
end
end Go.Proofs.YtjmfpeiidlpngaaGreatDoor
