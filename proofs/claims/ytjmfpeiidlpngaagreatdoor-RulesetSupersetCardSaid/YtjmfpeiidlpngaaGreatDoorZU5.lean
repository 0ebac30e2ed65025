/-
  Part 5 of 5 of the proofs: the texts of wip/ in one file, without what this claim does not use.
-/
import Derived.Test.YtjmfpeiidlpngaaGreatDoorZU4
namespace Go.Proofs.YtjmfpeiidlpngaaGreatDoor.Au
set_option linter.unusedSimpArgs false
set_option linter.unusedVariables false
set_option maxRecDepth 20000
open Go
open Go.IntKind (wrap)
theorem zq (p : Pt) (s : Nm) (n : Nat) : uA p (s.take n) n = uA p s n := by
 unfold uA
 by_cases h : p.t.length ≤ n
 ·have : zU (s.take n) p.t.length n = zU s p.t.length n := by
   unfold zU
   rw [List.drop_take, List.take_take]
   congr 1; omega
  rw [this]
 ·simp [h]
theorem E8 {α β : Type} (f : α → Bool) (g : α → β) : ∀ l : List α, (l.flatMap fun x => if f x = true then [g x] else []) = (l.filter f).map g
 | [] => rfl
 | x :: l => by
  rw [List.flatMap_cons, E8 f g l, List.filter_cons]
  by_cases h : f x = true
  ·rw [if_pos h, if_pos h]; rfl
  ·rw [if_neg h, if_neg h]; rfl
theorem HG (L : List Pt) (s : Nm) (n : Nat) (hn : n ≤ s.length) : hA L s n L.length = (nY L (s.take n)).map fun j => (j, n) := by
 unfold hA nY
 rw [E8]
 have e : (s.take n).length = n := by rw [List.length_take]; omega
 rw [e]
 congr 1
 refine List.filter_congr fun j _ => (zq _ s n).symm
def sr (N : Nat) (ws : List Nm) (h : aA) (c a : Addr) (text : Nm) (p : Option Addr) : Prop :=
 ∃ now cap, x4 h c a now text.length (text.drop (text.length - 64)) p cap ∧ ws[now]? = some (ls ws (cI text)) ∧ N ≤ c.block ∧ ∀ x, InA p x → N ≤ x
section
variable {N : Nat} {h : aA} {c a : Addr} {sg : List St} {ws : List Nm} {L : List Pt} {text : Nm} {p : Option Addr}
theorem sr.fr {S : Nat → Prop} {h' : aA} (C : sr N ws h c a text p) (f : Fr S h h') (h1 : ¬ S c.block) (h2 : ∀ x, InA p x → ¬ S x) : sr N ws h' c a text p := by
 obtain ⟨now, cap, C, r⟩ := C
 exact ⟨now, cap, C.fr f h1 h2, r⟩
theorem sr.fr0 {h' : aA} (f : Fr (fun _ => False) h h') (C : sr N ws h c a text p) : sr N ws h' c a text p := C.fr f id fun _ _ => id
theorem sr.lt (C : sr N ws h c a text p) : c.block < h.size := by
 obtain ⟨_, _, C, _⟩ := C; exact C.own.lt
theorem sr.lt' (C : sr N ws h c a text p) {x : Nat} (hx : InA p x) : x < h.size := by
 obtain ⟨_, _, C, _⟩ := C; exact C.row.lt hx
theorem sr.ge (C : sr N ws h c a text p) {x : Nat} (hx : x = c.block ∨ InA p x) : N ≤ x := by
 obtain ⟨_, _, _, _, h1, h2⟩ := C
 rcases hx with h | h
 ·omega
 ·exact h2 x h
theorem wY [Gh] (A : xo N h a sg ws L) {Q : Value → aA → Prop} (hk : ∀ c h', Fr (fun _ => False) h h' → h.size ≤ c.block → sr N ws h' c a [] none → Q (.pointer (some c)) h') : aE Tryz.prog eO #[.pointer (some a)] h Q := by
 apply qq
 unfold lj
 refine Ax (bA (vs := [.pointer (some a), .int .u16 0, .int .i64 0, .slice none 0 0]) fun c h1 f1 e1 o1 => ?_)
 have := A.s.1
 exact hk c h1 f1 (by omega) ⟨0, 0, ⟨o1, Row.nil, dJ⟩, A.d.z, by omega, fun x hx => (dJ hx).elim⟩
theorem Lr [Gh] (A : xo N h a sg ws L) (C : sr N ws h c a text p) (b : UInt8) (hlen : text.length ≤ 2 ^ 30) {Q : Value → aA → Prop}
  (hk : ∀ h' p' r rc, Fr (fun x => x = c.block ∨ InA p x) h h' → sr N ws h' c a (text ++ [b]) p' → (∀ x, InA p' x → InA p x ∨ h.size ≤ x) → Row 1 inV h' r rc (nY L (text ++ [b])) → (∀ x, InA r x → h.size ≤ x) → (∀ x, InA r x → ¬ InA p' x) → Q (.slice r (nY L (text ++ [b])).length rc) h') :
  aE Tryz.prog gK #[.pointer (some c), .int .u8 (bP b)] h Q := by
 obtain ⟨now, cap, C, hn, h1, h2⟩ := C
 refine Kf A text C h1 h2 b hn hlen fun h' now' p' cap' r rc f C' hn' hp' R hr hrp => ?_
 refine hk h' p' r rc f ⟨now', cap', ?_, hn', h1, fun x hx => ?_⟩ hp' R hr hrp
 ·rw [List.length_append, List.length_singleton] at C' ⊢; exact C'
 ·rcases hp' x hx with h | h
  ·exact h2 x h
  ·have := A.s.1; omega
theorem Iy [Gh] (A : xo N h a sg ws L) (C : sr N ws h c a text p) (s : Nm) (hlen : text.length + s.length ≤ 2 ^ 16) {Q : Value → aA → Prop}
  (hk : ∀ h' p' r rc, Fr (fun x => x = c.block ∨ InA p x) h h' → sr N ws h' c a (text ++ s) p' → (∀ x, InA p' x → InA p x ∨ h.size ≤ x) → Row 2 zT h' r rc (pT L (text ++ s) text.length s.length) → (∀ x, InA r x → h.size ≤ x) → (∀ x, InA r x → ¬ InA p' x) → Q (.slice r (pT L (text ++ s) text.length s.length).length rc) h') :
  aE Tryz.prog gJ #[.pointer (some c), .string (bs s)] h Q := by
 apply sf
 unfold mX
 rw [bN]
 have lt := C.lt
 have hm := A.m
 have hcap : ∀ k, k ≤ s.length → (pT L (text ++ s) text.length k).length ≤ 2 ^ 25 := fun k hk => by
  have h1 := wS L (text ++ s) text.length k
  have h2 : k * L.length ≤ 2 ^ 16 * 512 := Nat.mul_le_mul (by omega) hm
  omega
 refine Ax ?_
 refine aJ.go (fun n st h' => ∃ (i : Nat) (p' : Option Addr), st.2.2.2 = (i : Int) ∧ st.2.1 = (pT L (text ++ s) text.length i).length ∧ i ≤ s.length ∧ n = s.length - i ∧ Fr (fun x => x = c.block ∨ InA p x) h h' ∧ sr N ws h' c a (text ++ s.take i) p' ∧ (∀ x, InA p' x → InA p x ∨ h.size ≤ x) ∧ Row 2 zT h' st.1 st.2.2.1 (pT L (text ++ s) text.length i) ∧ (∀ x, InA st.1 x → h.size ≤ x) ∧ (∀ x, InA st.1 x → ¬ InA p' x)) s.length
  ⟨0, p, rfl, rfl, by omega, rfl, Fr.refl _ _, by rw [List.take_zero, List.append_nil]; exact C, fun x hx => .inl hx, Row.nil, fun x hx => (dJ hx).elim, fun x hx => (dJ hx).elim⟩ ?_
 rintro n ⟨oa, on, oc, t⟩ h1 ⟨i, p1, e1, e2, hi, rfl, f1, C1, hp1, R1, ho1, hd1⟩ Kn hK
 dsimp only at e1 e2 R1 ho1 hd1
 subst e1 e2
 dsimp only
 unfold jJ
 have z1 := f1.size
 have hge : ∀ x, x < h.size → (x = c.block ∨ InA p x) → N ≤ x := fun x _ hx => C.ge hx
 have A1 := A.fr f1 hge
 refine ifD (fun e => ?_) fun e => ?_
 ·have hil : i < s.length := by omega
  refine ixS s i rfl hil ?_
  have hck := hcap i (by omega)
  have htk : text ++ s.take i ++ [s[i]] = text ++ s.take (i + 1) := by rw [List.append_assoc, List.take_append_getElem]
  refine Lr A1 C1 s[i] (by rw [List.length_append, List.length_take]; omega) fun h2 p2 r rc f2 C2 hp2 R2 hr2 hrp2 => ⟨_, _, _, rfl, ?_⟩
  rw [htk] at C2 R2 ⊢
  have z2 := f2.size
  have hn2 : (text ++ s.take (i + 1)).length = text.length + 1 + i := by rw [List.length_append, List.length_take]; omega
  have hfd : hA L (text ++ s) (text.length + 1 + i) L.length = (nY L (text ++ s.take (i + 1))).map fun j => (j, text.length + 1 + i) := by
   rw [HG L (text ++ s) _ (by rw [List.length_append]; omega)]
   congr 2
   rw [List.take_append, List.take_of_length_le (by omega)]
   congr 2; omega
  have hfl : (nY L (text ++ s.take (i + 1))).length ≤ 512 := by
   unfold nY
   exact Nat.le_trans (List.length_filter_le ..) (by rw [List.length_range]; exact hm)
  generalize hFd : nY L (text ++ s.take (i + 1)) = F at *
  have R12 : Row 2 zT h2 oa oc (pT L (text ++ s) text.length i) := R1.fr f2 fun x hx hh => by
   rcases hh with hh | hh
   ·have := ho1 x hx; omega
   ·exact hd1 x hx hh
  have F2 : Fr (fun x => x = c.block ∨ InA p x) h h2 := f1.tr f2 fun x hx hh => by
   rcases hh with hh | hh
   ·exact .inl hh
   ·rcases hp1 x hh with h | h
    ·exact .inr h
    ·omega
  have hp2' : ∀ x, InA p2 x → InA p x ∨ h.size ≤ x := fun x hx => by
   rcases hp2 x hx with h | h
   ·exact hp1 x h
   ·exact .inr (by omega)
  have d2 : ∀ x, InA oa x → ¬ InA p2 x := fun x hx hh => by
   rcases hp2 x hh with h | h
   ·exact hd1 x hx h
   ·have := R1.lt hx; omega
  have dr2 : ∀ x, InA r x → ¬ InA oa x := fun x hx hh => by have := hr2 x hx; have := R1.lt hh; omega
  refine aJ.go (fun n st h' => ∃ (k : Nat), st.2.2.2 = (k : Int) ∧ st.2.1 = (pT L (text ++ s) text.length i ++ (F.take k).map fun j => (j, text.length + 1 + i)).length ∧ k ≤ F.length ∧ n = F.length - k ∧ Fr (fun x => x = c.block ∨ InA p x) h h' ∧ sr N ws h' c a (text ++ s.take (i + 1)) p2 ∧ Row 1 inV h' r rc F ∧ Row 2 zT h' st.1 st.2.2.1 (pT L (text ++ s) text.length i ++ (F.take k).map fun j => (j, text.length + 1 + i)) ∧ (∀ x, InA st.1 x → h.size ≤ x) ∧ (∀ x, InA st.1 x → ¬ InA p2 x) ∧ (∀ x, InA r x → ¬ InA st.1 x)) F.length
   ⟨0, rfl, by simp, by omega, rfl, F2, C2, R2, by simpa using R12, ho1, d2, dr2⟩ ?_
  rintro n ⟨oa, on, oc, t⟩ h3 ⟨k, e1, e2, hk', rfl, f3, C3, Rr3, R3, ho3, hd3, hr3⟩ Kn2 hK2
  dsimp only at e1 e2 R3 ho3 hd3 hr3
  subst e1 e2
  dsimp only
  unfold jK
  have z3 := f3.size
  refine ifD (fun e => ?_) fun e => ?_
  ·have hkl : k < F.length := by omega
   refine Rr3.idx vy (by decide) k rfl hkl fun ad ci => ?_
   rw [Int.toNat_natCast]
   have c3 := C3
   obtain ⟨now3, cap3, Cf3, _⟩ := c3
   have hat := Cf3.own.cells.at (j := 2) rfl
   rw [hn2] at hat
   refine aB (ci.at0 rfl) (aS (aB hat ?_))
   refine bA (vs := zT (F[k], text.length + 1 + i)) fun t33 h4 f4 e4 o4 => ?_
   have z4 := f4.size
   have e5 : (pT L (text ++ s) text.length i ++ (F.take k).map fun j => (j, text.length + 1 + i)) ++ [(F[k], text.length + 1 + i)] = pT L (text ++ s) text.length i ++ (F.take (k + 1)).map fun j => (j, text.length + 1 + i) := by
    rw [List.append_assoc, show F.take (k + 1) = F.take k ++ [F[k]] by rw [List.take_append_getElem], List.map_append]; rfl
   refine KL (R3.fr0 f4) o4 (by rw [List.length_append, List.length_map, List.length_take]; omega) fun p' c' h5 R5 f5 hn5 => ⟨_, _, _, rfl, ?_⟩
   rw [e5] at R5 ⊢
   rw [wr (by omega) (by omega)]
   have lt3 := C3.lt
   refine hK2 (F.length - (k + 1)) _ _ (by omega) ⟨k + 1, rfl, rfl, hkl, rfl, (f3.tr f4 fun _ _ h => h.elim).tr f5 fun x hx hh => by have := ho3 x hh; omega, (C3.fr0 f4).fr f5 (fun hh => by have := ho3 _ hh; omega) (fun x hx hh => hd3 x hh hx), (Rr3.fr0 f4).fr f5 (fun x hx hh => hr3 x hx hh), R5, fun x hx => ?_, fun x hx hh => ?_, fun x hx hh => ?_⟩
   ·rcases hn5 x hx with h | h
    ·exact ho3 x h
    ·omega
   ·rcases hn5 x hx with h | h
    ·exact hd3 x h hh
    ·have := C3.lt' hh; omega
   ·rcases hn5 x hh with h | h
    ·exact hr3 x hx h
    ·have := Rr3.lt hx; omega
  ·have : k = F.length := by omega
   subst this
   rw [List.take_length, ← hfd, ← AW] at R3 ⊢
   rw [wr (by omega) (by omega)]
   exact hK (s.length - (i + 1)) _ _ (by omega) ⟨i + 1, p2, rfl, rfl, hil, rfl, f3, C3, hp2', R3, ho3, hd3⟩
 ·have : i = s.length := by omega
  subst this
  rw [List.take_length] at C1
  exact hk h1 p1 oa oc f1 C1 hp1 R1 ho1 hd1
theorem Lp [Gh] (A : xo N h a sg ws L) (s : Nm) (hlen : s.length ≤ 2 ^ 16) {Q : Value → aA → Prop}
  (hk : ∀ h' r rc, Fr (fun _ => False) h h' → Row 2 zT h' r rc (pT L s 0 s.length) → (∀ x, InA r x → h.size ≤ x) → Q (.slice r (pT L s 0 s.length).length rc) h') :
  aE Tryz.prog iO #[.pointer (some a), .string (bs s)] h Q := by
 apply qZ
 unfold md
 refine wY A fun c h1 f1 hc C1 => ⟨_, rfl, ?_⟩
 have z1 := f1.size
 refine Iy (A.fr0 f1) C1 s (by rw [List.length_nil]; omega) fun h2 p' r rc f2 C2 hp' R2 hr hrp => ⟨_, _, _, rfl, ?_⟩
 rw [List.nil_append, List.length_nil] at R2 ⊢
 exact hk h2 r rc (f1.tr f2 fun x hx hh => by
  rcases hh with h | h
  ·omega
  ·exact (dJ h).elim) R2 fun x hx => by have := hr x hx; omega
end
end Go.Proofs.YtjmfpeiidlpngaaGreatDoor.Au
namespace Go.Proofs.YtjmfpeiidlpngaaGreatDoor
set_option linter.unusedSimpArgs false
set_option linter.unusedVariables false
set_option maxRecDepth 20000
open Go
open Go.IntKind (wrap)
theorem kw (n : Int) : (Au.na n).length = 1 := rfl
theorem EU (n : Int) : (Au.na n).all eQ = true := rfl
def xg (p : Nat → Bool) (n : Nat) : List Int := ((List.range n).filter p).map fun i : Nat => (i : Int)
theorem GH (p : Nat → Bool) (n : Nat) : xg p (n + 1) = if p n then xg p n ++ [(n : Int)] else xg p n := by
 unfold xg
 rw [List.range_succ, List.filter_append]
 cases h : p n <;> simp [h]
theorem zd (p : Nat → Bool) (n : Nat) : (xg p n).length ≤ n := by
 unfold xg; rw [List.length_map]
 exact Nat.le_trans (List.length_filter_le _ _) (by simp)
def atB (q : Bd → Bool) (l : List Bd) (i : Nat) : Bool := (l[i]?).any q
theorem u1 (q : Bd → Bool) (l : List Bd) (i : Nat) (hi : i < l.length) : atB q l i = q l[i] := by
 unfold atB; rw [List.getElem?_eq_getElem hi]; rfl
def BW (l : List Bd) (f : aT) (dir : Int) : List Int := xg (atB (fun b => Au.iU b f dir) l) l.length
theorem AP (b : Bd) (f : aT) (dir : Int) : Au.iU (wipe b) f dir = Au.iU b f dir := rfl
theorem CY {q : Bd → Bool} (hq : ∀ b, q (wipe b) = q b) {l l' : List Bd} (e : l.map wipe = l'.map wipe) : atB q l = atB q l' := by
 have h : ∀ l : List Bd, atB q l = atB q (l.map wipe) := fun l => by
  funext i
  unfold atB
  rw [List.getElem?_map]
  cases l[i]? with
  | none => rfl
  | some b => exact (hq b).symm
 rw [h, h l', e]
theorem GD {l l' : List Bd} (e : l.map wipe = l'.map wipe) (f : aT) (dir : Int) : BW l f dir = BW l' f dir := by
 unfold BW
 rw [CY (fun b => AP b f dir) e, show l.length = l'.length by have := congrArg List.length e; simpa using this]
section
variable {N : Nat} {h : aA} {s : Addr} {bs : List Bd} {gs : List Gr} {Q : Value → aA → Prop}
theorem wx.rd (T : wx N h s bs gs) (hb : bs.length ≤ 40) : ∃ p1 c1 v, bB h s [.slice p1 bs.length c1, v] ∧ bJ 25 aF.vals aF.ok h ⟨p1, c1, bs⟩ := by
 obtain ⟨hN, p1, c1, m, mm, k1, k2⟩ := T
 obtain ⟨c, R, ok, _⟩ := k1.now
 exact ⟨p1, c1, _, c, R.sl BC (by omega) (by omega) ok⟩
theorem J7 [Gh] (T : wx N h s bs gs) (hb : bs.length ≤ 40) (hk : Q (.int .i64 bs.length) h) : aE Tryz.prog kg #[.pointer (some s)] h Q := by
 apply wF
 unfold ry
 obtain ⟨p1, c1, v, c, _⟩ := T.rd hb
 exact Ax (aS (aD (c.at0 rfl) hk))
def Fu : Bd := ⟨⟨0, 0, sv, sv, sv, sv, false, 0, 0, 0, [], 0, 0, sv, sv, sv, sv, ⟨0, 0, 0, 0⟩⟩, sv, sv, sv, sv⟩
theorem HP [Gh] (T : wx N h s bs gs) (hb : bs.length ≤ 40) (f : aT) (dir : Int)
  (hk : ∀ p c h', Fr (fun _ => False) h h' → Row 1 Au.na h' p c (BW bs f dir) → (∀ x, InA p x → h.size ≤ x) → Q (.slice p (BW bs f dir).length c) h') :
  aE Tryz.prog lb #[.pointer (some s), .agg f.vals.toArray, .int .i64 dir] h Q := by
 apply vf
 unfold pv
 refine bA (vs := f.vals) fun t4 h1 f1 e1 o1 => ?_
 have z1 := f1.size
 refine J7 (T.fr0 f1) hb ⟨_, rfl, ?_⟩
 refine aJ.mk (fun st h' => ∃ (i : Nat) (p : Option Addr) (c : Nat), st = (p, (xg (atB (fun b => Au.iU b f dir) bs) i).length, c, (i : Int)) ∧ i ≤ bs.length ∧ Fr (fun _ => False) h1 h' ∧ Row 1 Au.na h' p c (xg (atB (fun b => Au.iU b f dir) bs) i) ∧ ∀ x, InA p x → h1.size ≤ x)
  (fun st _ => bs.length - st.2.2.2.toNat) ⟨0, none, 0, rfl, by omega, Fr.refl _ _, Row.nil, fun x hx => (dJ hx).elim⟩ ?_
 rintro st h2 ⟨i, p, c, rfl, hi, f2, R, hn⟩
 dsimp only
 unfold kY
 have z2 := f2.size
 refine ifD (fun hlt => ?_) (fun hge => ?_)
 ·have hi' : i < bs.length := by omega
  obtain ⟨p1, c1, v, cc, ok⟩ := ((T.fr0 f1).fr0 f2).rd hb
  refine aS (aD (cc.at0 rfl) ?_)
  refine eN ok i rfl hi' fun ad cb okr => ?_
  rw [Int.toNat_natCast]
  refine (aB (cb.at0 rfl) (aB (cb.at rfl) (aD (cb.at rfl) (aD (cb.at rfl) (aD (cb.at rfl) (aD (cb.at rfl) (aG (cb.at rfl) (aB (cb.at rfl) (aB (cb.at rfl) (aB (cb.at rfl) (aY (cb.at rfl) (aB (cb.at rfl) (aB (cb.at rfl) (aD (cb.at rfl) (aD (cb.at rfl) (aD (cb.at rfl) (aD (cb.at rfl) (aB (cb.at rfl) (aB (cb.at rfl) (aB (cb.at rfl) (aB (cb.at rfl) (aD (cb.at rfl) (aD (cb.at rfl) (aD (cb.at rfl) (aD (cb.at rfl) ?_)))))))))))))))))))))))))
  have o2 := o1.fr0 f2
  refine (aB (o2.cells.at0 rfl) (aG (o2.cells.at rfl) (aB (o2.cells.at rfl) (aB (o2.cells.at rfl) (aG (o2.cells.at rfl) (aB (o2.cells.at rfl) (aB (o2.cells.at rfl) (aB (o2.cells.at rfl) (aB (o2.cells.at rfl) ?_)))))))))
  refine Au.Bi bs[i] f dir okr fun h3 f3 => ⟨_, rfl, ?_⟩
  have z3 := f3.size
  have hl := zd (atB (fun b => Au.iU b f dir) bs) i
  have hs := GH (atB (fun b => Au.iU b f dir) bs) i
  rw [u1 _ _ _ hi'] at hs
  refine ifB (fun e => ?_) fun e => ?_
  ·rw [e] at hs
   rw [if_pos rfl] at hs
   refine bA (vs := [.int .i64 i]) fun t26 h4 f4 e4 o4 => ?_
   have z4 := f4.size
   refine ((R.fr0 f3).fr0 f4).app Au.ti Tryz.underlying46 (by intro k e; cases e) (by kernel_rfl) (by decide +kernel) kw EU (e := (i : Int)) o4 1 (by omega) fun p5 c5 h5 R5 f5 hn5 => ⟨_, _, _, rfl, ?_⟩
   rw [wr (by omega) (by omega)]
   refine ⟨⟨i + 1, p5, c5, by rw [hs]; simp, by omega, ?_, by rw [hs]; exact R5, fun x hx => ?_⟩, by dsimp only; omega⟩
   ·exact ((f2.trans f3).trans f4).tr f5 fun x hx hh => by have := hn x hh; omega
   ·rcases hn5 x hx with h | h
    ·exact hn x h
    ·omega
  ·rw [e] at hs
   rw [if_neg (by decide)] at hs
   rw [wr (by omega) (by omega)]
   exact ⟨⟨i + 1, p, c, by rw [hs]; simp, by omega, f2.trans f3, by rw [hs]; exact R.fr0 f3, hn⟩, by dsimp only; omega⟩
 ·have : i = bs.length := by omega
  subst this
  exact hk p c h2 (f1.trans f2) R fun x hx => by have := hn x hx; omega
end
end Go.Proofs.YtjmfpeiidlpngaaGreatDoor
namespace Go.Proofs.YtjmfpeiidlpngaaGreatDoor.Au
set_option linter.unusedSimpArgs false
set_option linter.unusedVariables false
set_option maxRecDepth 20000
open Go
open Go.IntKind (wrap)
def mkB (x : Int) : UInt8 := UInt8.ofNat x.toNat
theorem Ah {x : Int} (h0 : 0 ≤ x) (h1 : x ≤ 255) : bP (mkB x) = x := by
 unfold bP mkB
 rw [UInt8.toNat_ofNat']; omega
def pR (c : Int) : Int := if 48 ≤ c ∧ c ≤ 57 then c - 48 else if 97 ≤ c ∧ c ≤ 102 then c - 87 else if 65 ≤ c ∧ c ≤ 70 then c - 55 else -1
theorem B1 (c : Int) : -1 ≤ pR c ∧ pR c ≤ 15 := by unfold pR; split <;> (try split) <;> (try split) <;> omega
def rM (b : UInt8) : Bool := !(bP b == 9 || bP b == 10 || bP b == 13 || bP b == 32)
def oU (l : Nm) : Nm := l.filter rM
theorem Ec (l : Nm) (i : Nat) (hi : i < l.length) : oU (l.take (i + 1)) = oU (l.take i) ++ (if rM l[i] = true then [l[i]] else []) := by
 unfold oU
 rw [show l.take (i + 1) = l.take i ++ [l[i]] by rw [List.take_append_getElem], List.filter_append, List.filter_cons, List.filter_nil]
def sD : Nm → Nm
 | [] => []
 | [a] => [a]
 | [a, b] => [a, b]
 | c :: a :: b :: r => if bP c = 37 ∧ 0 ≤ pR (bP a) ∧ 0 ≤ pR (bP b) then mkB (16 * pR (bP a) + pR (bP b)) :: sD r else c :: sD (a :: b :: r)
theorem BO {l : Nm} {i : Nat} (hi : i < l.length) (h : bP l[i] ≠ 37 ∨ l.length ≤ i + 2) : sD (l.drop i) = l[i] :: sD (l.drop (i + 1)) := by
 rw [List.drop_eq_getElem_cons hi]
 cases h1 : l.drop (i + 1) with
 | nil => rfl
 | cons a r =>
  cases r with
  | nil => rfl
  | cons b r =>
   have hl : (l.drop (i + 1)).length = r.length + 2 := by rw [h1]; rfl
   rw [List.length_drop] at hl
   rw [sD, if_neg]
   rintro ⟨h2, _⟩
   rcases h with h | h
   ·exact h h2
   ·omega
theorem FL {l : Nm} {i : Nat} (hi : i + 2 < l.length) : sD (l.drop i) = if bP (l[i]'(by omega)) = 37 ∧ 0 ≤ pR (bP (l[i + 1]'(by omega))) ∧ 0 ≤ pR (bP l[i + 2]) then mkB (16 * pR (bP (l[i + 1]'(by omega))) + pR (bP l[i + 2])) :: sD (l.drop (i + 3)) else l[i]'(by omega) :: sD (l.drop (i + 1)) := by
 have e : l.drop i = l[i]'(by omega) :: l[i + 1]'(by omega) :: l[i + 2] :: l.drop (i + 3) := by
  rw [List.drop_eq_getElem_cons (show i < l.length by omega), List.drop_eq_getElem_cons (show i + 1 < l.length by omega), List.drop_eq_getElem_cons hi]
 have e1 : l.drop (i + 1) = l[i + 1]'(by omega) :: l[i + 2] :: l.drop (i + 3) := by
  rw [List.drop_eq_getElem_cons (show i + 1 < l.length by omega), List.drop_eq_getElem_cons hi]
 rw [e, sD, ← e1]
def sq (high : Int) : Nm → Nm
 | [] => []
 | c :: r => if pR (bP c) < 0 then sq high r else if high < 0 then sq (pR (bP c)) r else mkB (16 * high + pR (bP c)) :: sq (-1) r
section
variable {h : aA} {Q : Value → aA → Prop}
theorem zN [Gh] (c : Int) (h0 : 0 ≤ c) (h1 : c ≤ 255) (hk : Q (.int .i64 (pR c)) h) : aE Tryz.prog iQ #[.int .u8 c] h Q := by
 apply wV
 unfold rB ki
 unfold pR at hk
 by_cases a : 48 ≤ c ∧ c ≤ 57
 ·rw [if_pos a] at hk
  rw [if_pos (by simpa using a.1), if_pos (by simpa using a.2), wrb (by omega) (by omega), wr (by omega) (by omega)]; exact hk
 rw [if_neg a] at hk
 have b1 : (if (decide (97 ≤ c)) = true then (if (decide (c ≤ 102)) = true then (Q (.int .i64 (wrap .i64 ((wrap .i64 (wrap .u8 (c - 97))) + 10))) h) else (if (decide (65 ≤ c)) = true then (if (decide (c ≤ 70)) = true then (Q (.int .i64 (wrap .i64 ((wrap .i64 (wrap .u8 (c - 65))) + 10))) h) else (Q (.int .i64 (-1)) h)) else (Q (.int .i64 (-1)) h))) else (if (decide (65 ≤ c)) = true then (if (decide (c ≤ 70)) = true then (Q (.int .i64 (wrap .i64 ((wrap .i64 (wrap .u8 (c - 65))) + 10))) h) else (Q (.int .i64 (-1)) h)) else (Q (.int .i64 (-1)) h))) := by
  by_cases b : 97 ≤ c ∧ c ≤ 102
  ·rw [if_pos b] at hk
   rw [if_pos (by simpa using b.1), if_pos (by simpa using b.2), wrb (x := c - 97) (by omega) (by omega), wr (x := c - 97) (by omega) (by omega), wr (by omega) (by omega), show c - 97 + 10 = c - 87 by omega]; exact hk
  rw [if_neg b] at hk
  have b2 : (if (decide (65 ≤ c)) = true then (if (decide (c ≤ 70)) = true then (Q (.int .i64 (wrap .i64 ((wrap .i64 (wrap .u8 (c - 65))) + 10))) h) else (Q (.int .i64 (-1)) h)) else (Q (.int .i64 (-1)) h)) := by
   by_cases d : 65 ≤ c ∧ c ≤ 70
   ·rw [if_pos d] at hk
    rw [if_pos (by simpa using d.1), if_pos (by simpa using d.2), wrb (x := c - 65) (by omega) (by omega), wr (x := c - 65) (by omega) (by omega), wr (by omega) (by omega), show c - 65 + 10 = c - 55 by omega]; exact hk
   ·rw [if_neg d] at hk
    exact ifD (fun _ => ifD (fun _ => by omega) fun _ => hk) fun _ => hk
  exact ifD (fun _ => ifD (fun _ => by omega) fun _ => b2) fun _ => b2
 exact ifD (fun _ => ifD (fun _ => by omega) fun _ => b1) fun _ => b1
theorem Ha [Gh] {h0 h : aA} {p : Option Addr} {cap : Nat} {L : Nm} (R : Row 1 bV h p cap L) (hp : ∀ x, InA p x → h0.size ≤ x) (f : Fr (fun _ => False) h0 h) (hl : L.length ≤ 2 ^ 29) {x : Int} (b : UInt8) (hb : bP b = x) {K : Value → aA → Prop}
  (hk : ∀ p' cap' h', Row 1 bV h' p' cap' (L ++ [b]) → Fr (fun _ => False) h0 h' → (∀ x, InA p' x → h0.size ≤ x) → K (.slice p' (L ++ [b]).length cap') h') :
  alV h (.cells #[.int .u8 x] pb) fun t h2 => dU Tryz.prog .append #[aV, aV] aV #[false, false] #[.slice p L.length cap, .slice (some t) 1 1] h2 K := by
 subst hb
 refine bA (vs := bV b) fun t h2 f2 e2 o2 => ?_
 have z := f.size
 have z2 := f2.size
 refine LG (R.fr0 f2) o2 hl fun p' c' h3 R3 f3 hn3 => ?_
 refine hk p' c' h3 R3 ((f.trans f2).tr f3 fun x hx hh => by have := hp x hh; omega) fun x hx => ?_
 rcases hn3 x hx with h | h
 ·exact hp x h
 ·omega
theorem vt {b : UInt8} (h : bP b = 9 ∨ bP b = 10 ∨ bP b = 13 ∨ bP b = 32) : rM b = false := by
 unfold rM
 rcases h with h | h | h | h <;> simp [h]
theorem GC {b : UInt8} (h1 : bP b ≠ 9) (h2 : bP b ≠ 10) (h3 : bP b ≠ 13) (h4 : bP b ≠ 32) : rM b = true := by
 unfold rM; simp [h1, h2, h3, h4]
theorem Jz [Gh] (l : Nm) (hl : l.length ≤ 2 ^ 28) (hk : ∀ h', Fr (fun _ => False) h h' → Q (.string (bs (oU l))) h') : aE Tryz.prog m9 #[.string (bs l)] h Q := by
 apply tf
 unfold nC
 rw [bN]
 refine aJ.go (fun n st h' => ∃ (i : Nat), st.2.2.2 = (i : Int) ∧ st.2.1 = (oU (l.take i)).length ∧ i ≤ l.length ∧ n = l.length - i ∧ Fr (fun _ => False) h h' ∧ Row 1 bV h' st.1 st.2.2.1 (oU (l.take i)) ∧ (∀ b, InA st.1 b → h.size ≤ b)) l.length
  ⟨0, rfl, rfl, by omega, rfl, Fr.refl _ _, Row.nil, fun b hb => (dJ hb).elim⟩ ?_
 rintro n ⟨a, m, c, t⟩ h1 ⟨i, e1, e2, hi, rfl, f1, R1, ha⟩ Kn hK
 dsimp only at e1 e2 R1 ha
 subst e1 e2
 dsimp only
 unfold jS
 have hsl : (oU (l.take i)).length ≤ i := Nat.le_trans (List.length_filter_le ..) (by rw [List.length_take]; omega)
 refine ifD (fun e => ?_) fun e => ?_
 ·have hil : i < l.length := by omega
  have hs := Ec l i hil
  rw [wr (by omega) (by omega)]
  have skip : rM l[i] = false → Kn (a, (oU (l.take i)).length, c, (i : Int) + 1) h1 := fun hb => by
   rw [if_neg (by rw [hb]; decide), List.append_nil] at hs
   exact hK (l.length - (i + 1)) _ _ (by omega) ⟨i + 1, rfl, by dsimp only; rw [hs], hil, rfl, f1, by rw [hs]; exact R1, ha⟩
  have put : rM l[i] = true → cJ (bs l) a (oU (l.take i)).length c (i : Int) ((l.length : Nat) : Int) (i : Int) Q Kn h1 := fun hb => by
   unfold cJ
   rw [if_pos hb] at hs
   refine ixS l i rfl hil (Ha R1 ha f1 (by omega) l[i] rfl fun p' c' h2 R2 f2 hp2 => ⟨_, _, _, rfl, ?_⟩)
   rw [wr (by omega) (by omega)]
   rw [← hs] at R2 ⊢
   exact hK (l.length - (i + 1)) _ _ (by omega) ⟨i + 1, rfl, rfl, hil, rfl, f2, R2, hp2⟩
  refine ixS l i rfl hil ?_
  refine ifE (fun e1 => ?_) fun e1 => ifE (fun e2 => ?_) fun e2 => ifE (fun e3 => ?_) fun e3 => ifE (fun e4 => ?_) fun e4 => put (GC e1 e2 e3 e4)
  ·rw [e1, if_pos (by decide)]; exact skip (vt (.inl e1))
  ·rw [e2, if_pos (by decide)]; exact skip (vt (.inr (.inl e2)))
  ·rw [e3, if_pos (by decide)]; exact skip (vt (.inr (.inr (.inl e3))))
  ·exact skip (vt (.inr (.inr (.inr e4))))
 ·have : i = l.length := by omega
  subst this
  rw [List.take_length] at R1 ⊢
  exact BJ R1 ⟨_, rfl, hk h1 f1⟩
theorem FS [Gh] (l : Nm) (hl : l.length ≤ 2 ^ 28) (hk : ∀ h', Fr (fun _ => False) h h' → Q (.string (bs (sD l))) h') : aE Tryz.prog ma #[.string (bs l)] h Q := by
 apply rR
 unfold mv
 refine aJ.go (fun n st h' => ∃ (i : Nat) (out : Nm), st.2.2.2 = (i : Int) ∧ st.2.1 = out.length ∧ out.length ≤ i ∧ i ≤ l.length ∧ n = l.length - i ∧ Fr (fun _ => False) h h' ∧ out ++ sD (l.drop i) = sD l ∧ Row 1 bV h' st.1 st.2.2.1 out ∧ (∀ b, InA st.1 b → h.size ≤ b)) l.length
  ⟨0, [], rfl, rfl, by simp, by omega, rfl, Fr.refl _ _, rfl, Row.nil, fun b hb => (dJ hb).elim⟩ ?_
 rintro n ⟨a, m, c, t⟩ h1 ⟨i, out, e1, e2, hol, hi, rfl, f1, hout, R1, ha⟩ Kn hK
 dsimp only at e1 e2 R1 ha
 subst e1 e2
 dsimp only
 unfold jd
 rw [bN]
 refine ifD (fun e => ?_) fun e => ?_
 ·have hil : i < l.length := by omega
  have b2 : sD (l.drop i) = l[i] :: sD (l.drop (i + 1)) → cD (bs l) a out.length c (i : Int) Q Kn h1 := fun hp => by
   unfold cD
   refine ixS l i rfl hil (Ha R1 ha f1 (by omega) l[i] rfl fun p' c' h2 R2 f2 hp2 => ⟨_, _, _, rfl, ?_⟩)
   rw [wr (by omega) (by omega)]
   exact hK (l.length - (i + 1)) _ _ (by omega) ⟨i + 1, _, rfl, rfl, by rw [List.length_append, List.length_singleton]; omega, hil, rfl, f2, by rw [← hout, hp, List.append_assoc]; rfl, R2, hp2⟩
  refine ixS l i rfl hil (ifE (fun e3 => ?_) fun e3 => b2 (BO hil (.inl e3)))
  rw [wr (by omega) (by omega)]
  refine ifD (fun e4 => ?_) fun e4 => b2 (BO hil (.inr (by omega)))
  rw [wr (x := (i : Int) + 1) (by omega) (by omega), wr (x := (i : Int) + 2) (by omega) (by omega)]
  have h3 := FL (l := l) (i := i) (by omega)
  refine ixS l (i + 1) (by omega) (by omega) (ixS l (i + 2) (by omega) (by omega) ?_)
  have q1 := nh (l[i + 1]'(by omega))
  have q2 := nh (l[i + 2]'(by omega))
  have d1 := B1 (bP (l[i + 1]'(by omega)))
  have d2 := B1 (bP (l[i + 2]'(by omega)))
  refine zN _ q1.1 q1.2 ⟨_, rfl, zN _ q2.1 q2.2 ⟨_, rfl, ?_⟩⟩
  refine ifD (fun e5 => ifD (fun e6 => ?_) fun e6 => b2 (by rw [h3, if_neg (fun hh => by omega)])) fun e5 => b2 (by rw [h3, if_neg (fun hh => by omega)])
  rw [if_pos ⟨e3, by omega, by omega⟩] at h3
  rw [wr (x := 16 * pR (bP (l[i + 1]'(by omega)))) (by omega) (by omega), wr (x := 16 * pR (bP (l[i + 1]'(by omega))) + pR (bP (l[i + 2]'(by omega)))) (by omega) (by omega), wrb (by omega) (by omega)]
  refine Ha R1 ha f1 (by omega) (mkB (16 * pR (bP (l[i + 1]'(by omega))) + pR (bP (l[i + 2]'(by omega))))) (Ah (by omega) (by omega)) fun p' c' h2 R2 f2 hp2 => ⟨_, _, _, rfl, ?_⟩
  rw [wr (by omega) (by omega)]
  refine hK (l.length - (i + 3)) _ _ (by omega) ⟨i + 3, _, ?_, rfl, by rw [List.length_append, List.length_singleton]; omega, by omega, rfl, f2, by rw [← hout, h3, List.append_assoc]; rfl, R2, hp2⟩
  dsimp only; omega
 ·have : i = l.length := by omega
  subst this
  rw [List.drop_length] at hout
  have : out = sD l := by rw [← hout]; show out = out ++ []; rw [List.append_nil]
  subst this
  exact BJ R1 ⟨_, rfl, hk h1 f1⟩
theorem Lu [Gh] (l : Nm) (hl : l.length ≤ 2 ^ 28) (hk : ∀ h', Fr (fun _ => False) h h' → Q (.string (bs (sq (-1) l))) h') : aE Tryz.prog ot #[.string (bs l)] h Q := by
 apply uS
 unfold pE
 rw [bN]
 refine aJ.go (fun n st h' => ∃ (i : Nat) (out : Nm), st.2.2.2.2 = (i : Int) ∧ st.2.1 = out.length ∧ out.length ≤ i ∧ i ≤ l.length ∧ n = l.length - i ∧ Fr (fun _ => False) h h' ∧ -1 ≤ st.2.2.2.1 ∧ st.2.2.2.1 ≤ 15 ∧ out ++ sq st.2.2.2.1 (l.drop i) = sq (-1) l ∧ Row 1 bV h' st.1 st.2.2.1 out ∧ (∀ b, InA st.1 b → h.size ≤ b)) l.length
  ⟨0, [], rfl, rfl, by simp, by omega, rfl, Fr.refl _ _, by simp, by simp, rfl, Row.nil, fun b hb => (dJ hb).elim⟩ ?_
 rintro n ⟨a, m, c, hg, t⟩ h1 ⟨i, out, e1, e2, hol, hi, rfl, f1, g1, g2, hout, R1, ha⟩ Kn hK
 dsimp only at e1 e2 g1 g2 hout R1 ha
 subst e1 e2
 dsimp only
 unfold kO
 refine ifD (fun e => ?_) fun e => ?_
 ·have hil : i < l.length := by omega
  have q1 := nh l[i]
  have d1 := B1 (bP l[i])
  rw [List.drop_eq_getElem_cons hil, sq] at hout
  refine ixS l i rfl hil (zN _ q1.1 q1.2 ⟨_, rfl, ?_⟩)
  rw [wr (x := (i : Int) + 1) (by omega) (by omega)]
  refine ifD (fun e3 => ?_) fun e3 => ?_
  ·rw [if_pos e3] at hout
   exact hK (l.length - (i + 1)) _ _ (by omega) ⟨i + 1, out, rfl, rfl, by omega, hil, rfl, f1, g1, g2, hout, R1, ha⟩
  rw [if_neg e3] at hout
  refine ifD (fun e4 => ?_) fun e4 => ?_
  ·rw [if_pos e4] at hout
   exact hK (l.length - (i + 1)) _ _ (by omega) ⟨i + 1, out, rfl, rfl, by omega, hil, rfl, f1, by dsimp only; omega, by dsimp only; omega, hout, R1, ha⟩
  ·rw [if_neg e4] at hout
   rw [wr (x := 16 * hg) (by omega) (by omega), wr (x := 16 * hg + pR (bP l[i])) (by omega) (by omega), wrb (by omega) (by omega)]
   refine Ha R1 ha f1 (by omega) (mkB (16 * hg + pR (bP l[i]))) (Ah (by omega) (by omega)) fun p' c' h2 R2 f2 hp2 => ⟨_, _, _, rfl, ?_⟩
   exact hK (l.length - (i + 1)) _ _ (by omega) ⟨i + 1, _, rfl, rfl, by rw [List.length_append, List.length_singleton]; omega, hil, rfl, f2, by simp, by simp, by rw [← hout, List.append_assoc]; rfl, R2, hp2⟩
 ·have : i = l.length := by omega
  subst this
  rw [List.drop_length] at hout
  have : out = sq (-1) l := by rw [← hout]; show out = out ++ []; rw [List.append_nil]
  subst this
  exact BJ R1 ⟨_, rfl, hk h1 f1⟩
end
theorem Ih [Gh] (l : Nm) (hl : l.length ≤ 2 ^ 28) {h : aA} {Q : Value → aA → Prop} (hk : ∀ h', Fr (fun _ => False) h h' → Q (.string (bs (cI l))) h') : aE Tryz.prog m5 #[.string (bs l)] h Q := by
 apply sS
 unfold nU
 refine Bo Tryz.underlying194 Tryz.underlying98 Tryz.underlying5 l fun p c h1 f1 hp o1 hc => ⟨_, _, _, rfl, ?_⟩
 have R : Row 1 bV h1 p c l := ⟨by rw [vk]; exact o1, hc⟩
 have z1 := f1.size
 refine aJ.go (fun n st h' => ∃ (i : Nat), st = (i : Int) ∧ i ≤ l.length ∧ n = l.length - i ∧ Fr (fun _ => False) h h' ∧ Row 1 bV h' p c (cI (l.take i) ++ l.drop i)) l.length ⟨0, rfl, by omega, rfl, f1, by simpa [cI] using R⟩ ?_
 rintro n - h2 ⟨i, rfl, hi, rfl, f2, R2⟩ Kn hK
 unfold jW
 refine ifD (fun e => ?_) fun e => ?_
 ·have hlt : i < l.length := by omega
  have ht := Kr l i hi
  have hx := nh l[i]
  obtain ⟨ad, had, ce⟩ := R2.cellsAt xS (by omega) i (by omega)
  rw [Kb l i hlt] at ce
  have hnx : bP (iC l[i]) = bP l[i] → cI (l.take i) ++ l.drop i = cI (l.take (i + 1)) ++ l.drop (i + 1) := fun hb => by
   rw [← GW l i hlt]
   have : iC l[i] = l[i] := xN hb
   rw [this]
   refine (List.ext_getElem (by rw [List.length_set]) fun j h1 h2 => ?_).symm
   rw [List.getElem_set]
   split
   ·rename_i hij; subst hij; exact (Kb l i hlt _).symm
   ·rfl
  have hst := R2.setB (n := (i : Int)) i rfl ht.symm (by omega) (iC l[i]) (c := bP (iC l[i])) rfl (K := fun h3 => Kn (wrap .i64 ((i : Int) + 1)) h3) fun h3 f3 R3 => by
   rw [GW l i hlt] at R3
   rw [wr (by omega) (by omega)]
   exact hK (l.length - (i + 1)) _ _ (by omega) ⟨i + 1, rfl, hlt, rfl, f2.tr f3 fun b hb hi => by have := hp b hi; omega, R3⟩
  rw [had] at hst ⊢
  have hno : bP (iC l[i]) = bP l[i] → Kn (wrap .i64 ((i : Int) + 1)) h2 := fun hb => by
   rw [wr (by omega) (by omega)]
   exact hK (l.length - (i + 1)) _ _ (by omega) ⟨i + 1, rfl, hlt, rfl, f2, by rw [← hnx hb]; exact R2⟩
  refine bS i rfl hlt (aS ?_)
  refine aB (n := bP l[i]) (by rw [Int.toNat_natCast]; exact ce.at0 rfl) ?_
  have hlo := oM l[i]
  unfold u5 at hlo
  refine ifD (fun e3 => ifD (fun e4 => ?_) fun e4 => ?_) fun e3 => ?_
  ·rw [if_pos ⟨e3, e4⟩] at hlo
   rw [wrb (x := bP l[i] + 97) (by omega) (by omega), wrb (by omega) (by omega), show bP l[i] + 97 - 65 = bP (iC l[i]) by omega]
   exact hst
  ·exact hno (by rw [hlo, if_neg (by omega)])
  ·exact hno (by rw [hlo, if_neg (by omega)])
 ·have hil : i = l.length := by omega
  subst hil
  rw [List.take_length, List.drop_length, List.append_nil] at R2
  have := BJ R2 (K := fun v h4 => ∃ t22 : ByteArray, v = .string t22 ∧ Q (.string t22) h4) ⟨_, rfl, hk h2 f2⟩
  rw [jq] at this; exact this
end Go.Proofs.YtjmfpeiidlpngaaGreatDoor.Au
namespace Go.Proofs.YtjmfpeiidlpngaaGreatDoor.Au
set_option linter.unusedSimpArgs false
set_option linter.unusedVariables false
set_option maxRecDepth 20000
open Go
open Go.IntKind (wrap)
def Cg (c : UInt8) (l : Nm) : Option Nat := l.findIdx? (· == c)
def GJ (c : UInt8) (l : Nm) : Int := match Cg c l with | some i => (i : Int) | none => -1
theorem Eb (c : UInt8) (l : Nm) : (List.range l.length).find? (fun i => l.getD i 0 == c) = Cg c l := by
 unfold Cg
 induction l with
 | nil => rfl
 | cons x l ih =>
  rw [List.length_cons, List.range_succ_eq_map, List.find?_cons, List.findIdx?_cons]
  by_cases hx : (x == c) = true
  ·simp [hx]
  ·have hx' : (x == c) = false := by simpa using hx
   simp only [List.getD_cons_zero, hx', List.find?_map, Bool.false_eq_true, if_false]
   rw [← ih]
   congr 1
theorem DR (c : UInt8) (l : Nm) : firstIdx (bs l) c = GJ c l := by
 unfold firstIdx GJ
 have : (fun i => (bs l)[i]! == c) = (fun i => l.getD i 0 == c) := by
  funext i
  congr 1
  have e : (bs l)[i]! = l.toArray[i]! := by
   by_cases h : i < l.length
   ·have h1 : i < (bs l).size := by rw [bN]; exact h
    rw [getElem!_pos (bs l) i h1, getElem!_pos l.toArray i (by simpa using h)]; rfl
   ·have h1 : ¬ i < (bs l).size := by rw [bN]; exact h
    rw [getElem!_neg (bs l) i h1, getElem!_neg l.toArray i (by simpa using h)]
  rw [e]; simp [List.getD_eq_getElem?_getD]; rfl
 rw [this, bN, Eb]
 cases Cg c l <;> rfl
theorem D3 [Gh] (l : Nm) (c : UInt8) {h : aA} {Q : Value → aA → Prop} (hk : Q (.int .i64 (GJ c l)) h) :
  aE Tryz.prog iH #[.string (bs l), .int .u8 (bP c)] h Q := by
 rintro w rfl hs
 rw [run_callFunc_extern (fn := Tryz.f190) (e := Extern.BytealgIndexByte.indexByte) rfl (by kernel_rfl) (by kernel_rfl) (by kernel_rfl) (by kernel_rfl), run_indexByte_string]
 simp only [Result.andThen]
 have : (bP c).toNat.toUInt8 = c := by
  unfold bP
  rw [Int.toNat_natCast]
  apply UInt8.toNat_inj.1
  rw [Nat.toUInt8, UInt8.toNat_ofNat']
  have := c.toNat_lt
  omega
 rw [this, DR]; exact ⟨hk, hs⟩
theorem yu [Gh] (l : Nm) (c : UInt8) {h : aA} {Q : Value → aA → Prop} (hk : Q (.int .i64 (GJ c l)) h) : aE Tryz.prog jv #[.string (bs l), .int .u8 (bP c)] h Q := by
 apply vM
 unfold p7
 apply oe
 unfold jn
 exact D3 l c ⟨_, rfl, _, rfl, hk⟩
def IH : Nm := [65, 66, 67, 68, 69, 70, 71, 72, 73, 74, 75, 76, 77, 78, 79, 80, 81, 82, 83, 84, 85, 86, 87, 88, 89, 90, 97, 98, 99, 100, 101, 102, 103, 104, 105, 106, 107, 108, 109, 110, 111, 112, 113, 114, 115, 116, 117, 118, 119, 120, 121, 122, 48, 49, 50, 51, 52, 53, 54, 55, 56, 57, 43, 47]
def wG (c : UInt8) : Int := GJ c IH
theorem Ip {p : UInt8 → Bool} (h : ((List.range 256).all fun n => p (UInt8.ofNat n)) = true) (c : UInt8) : p c = true := by
 have := List.all_eq_true.1 h c.toNat (List.mem_range.2 c.toNat_lt)
 rwa [UInt8.ofNat_toNat] at this
theorem J5 (c : UInt8) : -1 ≤ wG c ∧ wG c < 64 := of_decide_eq_true (Ip (p := fun c => decide (-1 ≤ wG c ∧ wG c < 64)) (by decide +kernel) c)
def r7 (bits n : Nat) : Nm → Nm
 | [] => []
 | c :: r => if bP c = 61 then [] else if wG c < 0 then r7 bits n r else
  if 2 ≤ n then mkB (((bits * 64 + (wG c).toNat) / 2 ^ (n - 2) : Nat) : Int) :: r7 ((bits * 64 + (wG c).toNat) % 2 ^ (n - 2)) (n - 2) r else r7 (bits * 64 + (wG c).toNat) (n + 6) r
theorem LP (n b : Nat) (hn : n < 2 ^ 24) (hb : b < 64) :
  wrap .i64 (BitVec.toNat (BitVec.ofInt (IntKind.bits .i64) (wrap .i64 ((n : Int) * 2 ^ (min (Int.toNat (6 : Int)) (IntKind.bits .i64)))) ||| BitVec.ofInt (IntKind.bits .i64) (b : Int)) : Int) = ((n * 64 + b : Nat) : Int) := by
 have e1 : (2 : Int) ^ (min (Int.toNat (6 : Int)) (IntKind.bits .i64)) = 64 := rfl
 have e2 : (n : Int) * 64 = ((n * 64 : Nat) : Int) := by omega
 rw [e1, e2, wr (x := ((n * 64 : Nat) : Int)) (by omega) (by omega), BitVec.ofInt_natCast, BitVec.ofInt_natCast, BitVec.toNat_or, BitVec.toNat_ofNat, BitVec.toNat_ofNat]
 have e3 : n * 64 % 2 ^ (IntKind.bits .i64) = n * 64 := Nat.mod_eq_of_lt (by show _ < 2 ^ 64; omega)
 have e4 : b % 2 ^ (IntKind.bits .i64) = b := Nat.mod_eq_of_lt (by show _ < 2 ^ 64; omega)
 have e5 : (n * 64) ||| b = n * 64 + b := by
  have := Nat.two_pow_add_eq_or_of_lt (i := 6) (b := b) hb n
  rw [show 2 ^ 6 * n = n * 64 by omega] at this
  exact this.symm
 rw [e3, e4, e5, wr (by omega) (by omega)]
theorem GZ (x k : Nat) (hx : x < 2 ^ 24) (hk : k ≤ 20) : wrap .i64 (BitVec.toNat (BitVec.ofInt (IntKind.bits .i64) (x : Int) &&& BitVec.ofInt (IntKind.bits .i64) (((2 ^ k - 1 : Nat)) : Int)) : Int) = ((x % 2 ^ k : Nat) : Int) := by
 have hp : 2 ^ k ≤ 2 ^ 20 := Nat.pow_le_pow_right (by omega) hk
 have hp0 : 0 < 2 ^ k := Nat.two_pow_pos k
 rw [BitVec.ofInt_natCast, BitVec.ofInt_natCast, BitVec.toNat_and, BitVec.toNat_ofNat, BitVec.toNat_ofNat]
 have e3 : x % 2 ^ (IntKind.bits .i64) = x := Nat.mod_eq_of_lt (by show _ < 2 ^ 64; omega)
 have e4 : (2 ^ k - 1) % 2 ^ (IntKind.bits .i64) = 2 ^ k - 1 := Nat.mod_eq_of_lt (by show _ < 2 ^ 64; omega)
 rw [e3, e4, Nat.and_two_pow_sub_one_eq_mod]
 have := Nat.mod_lt x hp0
 exact wr (by omega) (by omega)
theorem HC (x k : Nat) : Int.fdiv (x : Int) (((2 ^ k : Nat)) : Int) = ((x / 2 ^ k : Nat) : Int) := by
 rw [Int.fdiv_eq_ediv_of_nonneg _ (Int.natCast_nonneg _)]; exact (Int.natCast_ediv ..).symm
section
variable {h : aA} {Q : Value → aA → Prop}
theorem H2 [Gh] (l : Nm) (hl : l.length ≤ 2 ^ 28) (hk : ∀ h', Fr (fun _ => False) h h' → Q (.string (bs (r7 0 0 l))) h') : aE Tryz.prog my #[.string (bs l)] h Q := by
 apply sM
 unfold mV
 rw [bN]
 refine aJ.go (fun m st h' => ∃ (i bits n : Nat) (out : Nm), st.2.2.2.2.2 = (i : Int) ∧ st.2.2.2.1 = (bits : Int) ∧ st.2.2.2.2.1 = (n : Int) ∧ st.2.1 = out.length ∧ out.length ≤ i ∧ i ≤ l.length ∧ m = l.length - i ∧ (n = 0 ∨ n = 2 ∨ n = 4 ∨ n = 6) ∧ bits < 2 ^ n ∧ Fr (fun _ => False) h h' ∧ out ++ r7 bits n (l.drop i) = r7 0 0 l ∧ Row 1 bV h' st.1 st.2.2.1 out ∧ (∀ b, InA st.1 b → h.size ≤ b)) l.length
  ⟨0, 0, 0, [], rfl, rfl, rfl, rfl, by simp, by omega, rfl, .inl rfl, by decide, Fr.refl _ _, rfl, Row.nil, fun b hb => (dJ hb).elim⟩ ?_
 rintro m ⟨a, on, c, bt, nn', t⟩ h1 ⟨i, bits, n, out, e1, e2, e3, e4, hol, hi, rfl, hn, hbits, f1, hout, R1, ha⟩ Kn hK
 dsimp only at e1 e2 e3 e4 R1 ha
 subst e1 e2 e3 e4
 dsimp only
 unfold jE
 refine ifD (fun e => ?_) fun e => ?_
 ·have hil : i < l.length := by omega
  rw [List.drop_eq_getElem_cons hil, r7] at hout
  refine ixS l i rfl hil (ifE (fun e5 => ?_) fun e5 => ?_)
  ·rw [if_pos e5, List.append_nil] at hout
   subst hout
   exact BJ R1 ⟨_, rfl, hk h1 f1⟩
  rw [if_neg e5] at hout
  have hv := J5 l[i]
  refine ixS l i rfl hil ?_
  refine yu IH l[i] ⟨wG l[i], rfl, ?_⟩
  rw [wr (x := (i : Int) + 1) (by omega) (by omega)]
  refine ifD (fun e6 => ?_) fun e6 => ?_
  ·rw [if_pos e6] at hout
   exact hK (l.length - (i + 1)) _ _ (by omega) ⟨i + 1, bits, n, out, rfl, rfl, rfl, rfl, by omega, hil, rfl, hn, hbits, f1, hout, R1, ha⟩
  rw [if_neg e6] at hout
  obtain ⟨v, hve⟩ : ∃ v : Nat, wG l[i] = v := ⟨(wG l[i]).toNat, by omega⟩
  rw [hve] at hout hv ⊢
  rw [Int.toNat_natCast] at hout
  have hb64 : bits < 64 := by rcases hn with rfl | rfl | rfl | rfl <;> simp at hbits <;> omega
  rw [LP bits v (by omega) (by omega), wr (x := (n : Int) + 6) (by omega) (by omega)]
  generalize hX : bits * 64 + v = X at *
  refine ⟨by decide, ifD (fun e7 => ?_) fun e7 => ?_⟩
  ·have hn2 : 2 ≤ n := by omega
   rw [if_pos hn2] at hout
   rw [wr (x := (n : Int) + 6 - 8) (by omega) (by omega)]
   have eP : (2 : Int) ^ (min (Int.toNat ((n : Int) + 6 - 8)) (IntKind.bits .i64)) = ((2 ^ (n - 2) : Nat) : Int) := by
    rcases hn with rfl | rfl | rfl | rfl
    ·omega
    ·rfl
    ·rfl
    ·rfl
   have hP : 2 ^ (n - 2) ≤ 16 ∧ X / 2 ^ (n - 2) < 256 := by
    rcases hn with rfl | rfl | rfl | rfl
    ·omega
    ·simp at hbits ⊢; omega
    ·simp at hbits ⊢; omega
    ·simp at hbits ⊢; omega
   have hX2 : X < 4096 := by omega
   have hp0 : 0 < 2 ^ (n - 2) := Nat.two_pow_pos _
   have hand := GZ X (n - 2) (by omega) (by omega)
   have hml := Nat.mod_lt X hp0
   have hfd := HC X (n - 2)
   rw [eP, hfd]
   generalize hBd : X / 2 ^ (n - 2) = B at *
   generalize hMd : X % 2 ^ (n - 2) = M at *
   have hbn : M < 2 ^ (n - 2) := hml
   generalize hPd : 2 ^ (n - 2) = P at *
   rw [wrb (by omega) (by omega)]
   refine ⟨by omega, Ha R1 ha f1 (by omega) (mkB ((B : Nat) : Int)) (Ah (by omega) (by omega)) fun p' c' h2 R2 f2 hp2 => ⟨_, _, _, rfl, by omega, ?_⟩⟩
   rw [Int.one_mul, wr (x := ((P : Nat) : Int)) (by omega) (by omega)]
   rw [show ((P : Nat) : Int) - 1 = ((P - 1 : Nat) : Int) by omega, wr (x := ((P - 1 : Nat) : Int)) (by omega) (by omega), hand]
   refine hK (l.length - (i + 1)) _ _ (by omega) ⟨i + 1, M, n - 2, _, rfl, rfl, ?_, rfl, by rw [List.length_append, List.length_singleton]; omega, hil, rfl, by omega, by rw [hPd]; exact hbn, f2, by rw [← hout, List.append_assoc]; rfl, R2, hp2⟩
   dsimp only; omega
  ·have hn0 : n = 0 := by omega
   subst hn0
   rw [if_neg (by omega)] at hout
   refine hK (l.length - (i + 1)) _ _ (by omega) ⟨i + 1, X, 6, out, rfl, rfl, rfl, rfl, by omega, hil, rfl, .inr (.inr (.inr rfl)), ?_, f1, hout, R1, ha⟩
   simp at hbits ⊢; omega
 ·have : i = l.length := by omega
  subst this
  rw [List.drop_length] at hout
  have : out = r7 0 0 l := by rw [← hout]; show out = out ++ []; rw [List.append_nil]
  subst this
  exact BJ R1 ⟨_, rfl, hk h1 f1⟩
end
end Go.Proofs.YtjmfpeiidlpngaaGreatDoor.Au
namespace Go.Proofs
open Go.Shelf
shelf_lay Lays.n221 Nm 221 at Tryz as Tryz.lays221
shelf_lay Lays.n156 Nm 156 at Tryz as Tryz.lays156
theorem Tryz.extra156 : Builder.Extra Tryz.prog Tryz.lays156_ren where
 sizeBuilder := by kernel_rfl
 liesBuilder := by kernel_rfl
 t5 := Tryz.underlying5
 a5 := Tryz.isAgg5
 z5 := Tryz.sizeOf5
 v5 := Tryz.zeroValue5
 infoByte := by kernel_rfl
 cellsByte := by kernel_rfl
 sizeByte := by kernel_rfl
 neB5 := by decide
end Go.Proofs
namespace Go.Proofs.YtjmfpeiidlpngaaGreatDoor.Au
set_option linter.unusedSimpArgs false
set_option linter.unusedVariables false
set_option maxRecDepth 20000
open Go Go.RowKit
open Go.IntKind (wrap)
def aR : Nm → List Nm
 | [] => [[]]
 | c :: l => if c = 47 then [] :: aR l else match aR l with
  | [] => [[c]]
  | x :: xs => (c :: x) :: xs
theorem jk : ∀ l, aR l ≠ []
 | [] => by unfold aR; simp
 | c :: l => by
  unfold aR; split
  ·simp
  ·split <;> simp
theorem Av (b c : UInt8) (l : Nm) : Lib.index (b :: l) [c] = if b = c then 0 else if Lib.index l [c] = -1 then -1 else Lib.index l [c] + 1 := by
 rw [Lib.index_one, Lib.index_one]
 show (if _ then _ else _) = _
 unfold Lib.indexByte
 first
  | rfl
  | (by_cases h : b = c <;> simp [h])
theorem Bm : ∀ (l : Nm), Lib.splitK [47] 0 (l.count 47) l = aR l
 | [] => rfl
 | c :: l => by
  have ih := Bm l
  unfold aR
  by_cases h : c = 47
  ·subst h
   rw [if_pos rfl, List.count_cons_self, ← ih]
   show (if _ then _ else _) = _
   have e : Lib.index (47 :: l) [47] = 0 := by rw [Av, if_pos rfl]
   rw [if_neg (by rw [e]; decide), e]
   rfl
  ·rw [if_neg h, List.count_cons_of_ne (by simpa using h), ← ih]
   cases hk : l.count 47 with
   | zero => rfl
   | succ k =>
    unfold Lib.splitK
    have e := Av c 47 l
    rw [if_neg h] at e
    have hge := Lib.index_ge l [47]
    by_cases hm : Lib.index l [47] = -1
    ·rw [if_pos hm] at e
     rw [if_pos (by rw [e]; rfl), if_pos (by rw [hm]; rfl)]
    ·rw [if_neg hm] at e
     obtain ⟨j, hj⟩ : ∃ j : Nat, Lib.index l [47] = j := ⟨(Lib.index l [47]).toNat, by omega⟩
     rw [if_neg (by rw [e, hj, beq_iff_eq]; omega), if_neg (by rw [hj, beq_iff_eq]; omega), e, hj]
     have e1 : (((j : Int) + 1).toNat + 0) = j + 1 := by omega
     have e2 : (((j : Int) + 1).toNat + ([47] : Nm).length) = (j + 1) + 1 := by simp
     have e3 : ((j : Int).toNat + 0) = j := by omega
     have e4 : ((j : Int).toNat + ([47] : Nm).length) = j + 1 := by simp
     rw [e1, e2, e3, e4]
     rfl
def yJ (s : Nm) : List Value := [.string (bs s)]
theorem qO (s : Nm) : (yJ s).length = 1 := rfl
theorem DT [Gh] {P : Program} {f : FuncId} {args : Array Value} {h : aA} {v : Value} {o : Obj} (hc : ∀ args w, (callFunc f args).run P w = .ok (.enter f args) w)
  (hs : ∀ w : World, w.heap = h → Calls P f args w fun e w' => e = .returned v ∧ w' = w.alloc o) {K : Value → aA → Prop} (hk : K v (h.push o)) : aE P f args h K := by
 intro w hw hsm
 rw [hc]
 simp only
 refine (hs w hw).mono ?_
 rintro e w' ⟨rfl, rfl⟩
 refine ⟨_, rfl, ?_, ⟨hsm.1, hsm.2.1, hsm.2.2⟩⟩
 have : (w.alloc o).heap = h.push o := by rw [← hw]; rfl
 rw [this]; exact hk
theorem HI (l : Nm) : l.count 47 ≤ l.length := List.count_le_length
theorem JA [Gh] (l : Nm) (hl : l.length ≤ 2 ^ 30) {h : aA} {Q : Value → aA → Prop}
  (hk : ∀ p cap h', Fr (fun _ => False) h h' → Row 1 yJ h' p cap (aR l) → (∀ b, InA p b → h.size ≤ b) → Q (.slice p (aR l).length cap) h') :
  aE Tryz.prog oR #[.string (bs l), .string (⟨#[47]⟩ : ByteArray)] h Q := by
 apply yG
 unfold tR
 have hcb : Lib.countB (bs l) ⟨#[47]⟩ = l.count 47 := by
  show Lib.count (bs l).data.toList [47] = _
  rw [wD, Lib.count_one]
 have hcl := HI l
 have hlen := Lib.splitB_all (⟨#[47]⟩ : ByteArray) (by decide) 0 (l.count 47) (bs l) hcb
 have hdata := Lib.splitB_data (⟨#[47]⟩ : ByteArray) 0 (l.count 47) (bs l)
 have e47 : (⟨#[47]⟩ : ByteArray).data.toList = [47] := rfl
 rw [wD, e47, Bm] at hdata
 have hbs : Lib.splitB (⟨#[47]⟩ : ByteArray) 0 (l.count 47) (bs l) = (aR l).map bs := by
  rw [← hdata, List.map_map]
  conv => lhs; rw [← List.map_id (Lib.splitB (⟨#[47]⟩ : ByteArray) 0 (l.count 47) (bs l))]
  apply List.map_congr_left
  intro x _
  show x = bs x.data.toList
  simp [bs]
 have hl2 : (aR l).length = l.count 47 + 1 := by rw [← hlen, hbs, List.length_map]
 refine DT (v := .slice (some ⟨h.size, 0, none⟩) (aR l).length (aR l).length) (o := .cells ((aR l).flatMap yJ).toArray dX) (fun _ _ => rfl) (fun w hw => ?_) ?_
 ·have c := Any.strings_genSplit_core Tryz.lays221 (by kernel_rfl) (bs l) (⟨#[47]⟩ : ByteArray) 0 (-1) (l.count 47 + 1) w (by rw [bN]; omega) (by decide) (Nat.zero_le _)
   (fun x c hx => (Any.strings_Index_one { Tryz.lays221 with } x 47 _).mono fun e w' ⟨h1, h2⟩ => ⟨by rw [h1]; show _ = Ending.returned (.int .i64 (Lib.index x.data.toList [47])); rw [Lib.index_one], h2⟩)
   ((Any.strings_Count_one { Tryz.lays221 with } (bs l) 47 w).mono fun e w' ⟨h1, h2⟩ => ⟨by rw [h1, hcb, wD]; rfl, h2⟩)
   (by decide) (by decide) (by rw [hcb, if_pos (by decide), bN]; omega)
  rw [Nat.add_sub_cancel, hbs, List.length_map, hw] at c
  refine c.mono fun e w' ⟨h1, h2⟩ => ⟨by rw [h1, ← hl2], ?_⟩
  rw [h2, ← hl2]
  have := Lib.cellsOf_full ((aR l).map bs)
  rw [List.length_map] at this
  rw [this]
  have e : ((aR l).map bs).map Value.string = (aR l).flatMap yJ := by
   generalize aR l = m
   induction m with
   | nil => rfl
   | cons a m ih => rw [List.map_cons, List.map_cons, List.flatMap_cons, ih]; rfl
  rw [e]
  rfl
 ·refine ⟨_, _, _, rfl, ?_⟩
  have o : Own (h.push (.cells ((aR l).flatMap yJ).toArray dX)) ⟨h.size, 0, none⟩ ((aR l).flatMap yJ) dX := ⟨rfl, rfl, dD⟩
  refine hk _ _ _ (Fr.push _ _ _) (Row.of_own qO o) fun b hb => ?_
  obtain ⟨ad, h1, rfl⟩ := hb
  cases h1; exact Nat.le_refl _
theorem DE [Gh] {P : Program} {f : FuncId} {args : Array Value} {h : aA} {v : Value} {B : Nat} {R : World → Prop} (hc : ∀ args w, (callFunc f args).run P w = .ok (.enter f args) w)
  (hs : ∀ w : World, w.heap = h → Calls P f args w fun e w' => e = .returned v ∧ Below B w w' ∧ R w') {K : Value → aA → Prop} (hk : ∀ w', Fr (fun x => B ≤ x) h w'.heap → R w' → K v w'.heap) : aE P f args h K := by
 intro w hw hsm
 rw [hc]
 simp only
 refine (hs w hw).mono ?_
 rintro e w' ⟨rfl, hb, hr⟩
 subst hw
 exact ⟨_, rfl, hk w' ⟨hb.size, fun b _ hn => hb.block b (Nat.lt_of_not_le hn)⟩ hr, hb.os.trans hsm.1, hb.tape.trans hsm.2.1, hb.output.trans hsm.2.2⟩
theorem JO [Gh] (l : Nm) {h : aA} {Q : Value → aA → Prop} (hk : Q (.bool (decide (l.take 1 = [47]))) h) : aE Tryz.prog eX #[.string (bs l), .string (⟨#[47]⟩ : ByteArray)] h Q := by
 apply ni
 unfold jw
 have e1 : (((⟨#[47]⟩ : ByteArray).size : Nat) : Int) = ((1 : Nat) : Int) := rfl
 rw [e1, bN]
 refine ifD (fun e => ?_) fun e => ?_
 ·refine slT l 1 rfl (by omega) ?_
  have e2 : (⟨#[47]⟩ : ByteArray) = bs [47] := rfl
  rw [e2, j5, j5]
  refine Qeq hk ?_
  congr 1
  rw [Bool.eq_iff_iff, decide_eq_true_iff, beq_iff_eq]
 ·have : l = [] := List.length_eq_zero_iff.1 (by omega)
  subst this
  exact hk
theorem Dd [Gh] (l : Nm) {h : aA} {Q : Value → aA → Prop} (hk : Q (.bool (decide (l.take 1 = [47]))) h) : aE Tryz.prog lO #[.string (bs l), .string (⟨#[47]⟩ : ByteArray)] h Q := by
 apply vG
 unfold qb
 exact JO l ⟨_, rfl, hk⟩
theorem KO [Gh] {h : aA} {p : Option Addr} {c : Nat} {ts : List Nm} (R : Row 1 yJ h p c ts) (h0 : ts ≠ []) (hl : ts.length ≤ 2 ^ 30) (hj : (Lib.join ts [47]).length ≤ 2 ^ 40) {Q : Value → aA → Prop} (hk : ∀ h', Fr (fun _ => False) h h' → Q (.string (bs (Lib.join ts [47]))) h') :
  aE Tryz.prog mC #[.slice p ts.length c, .string (⟨#[47]⟩ : ByteArray)] h Q := by
 obtain ⟨ad, hp, _⟩ := R.cellsAt qO (by omega) 0 (List.length_pos_iff.2 h0)
 subst hp
 have o := R.own
 obtain ⟨b, off, sp⟩ := ad
 obtain ⟨h1, h2, _⟩ := o
 simp only at h1 h2
 subst h1 h2
 have hlt : b < h.size := R.lt ⟨_, rfl, rfl⟩
 have hd : (ts.map bs).map (fun x : ByteArray => x.data.toList) = ts := by
  rw [List.map_map]
  conv => rhs; rw [← List.map_id ts]
  exact List.map_congr_left fun x _ => wD x
 have e47 : (⟨#[47]⟩ : ByteArray).data.toList = [47] := rfl
 have hlen : (ts.map bs).length = ts.length := List.length_map ..
 refine DE (R := fun _ => True) (B := h.size) (v := .string (bs (Lib.join ts [47]))) (fun _ _ => rfl) (fun w hw => ?_) fun w' f _ => hk _ (f.mono' fun b hb h => by omega)
 have := Any.strings_Join Tryz.lays156 Tryz.extra156 b 0 c (ts.map bs) (⟨#[47]⟩ : ByteArray) w (fun j x hx => by
  rw [List.getElem?_map, Option.map_eq_some_iff] at hx
  obtain ⟨y, hy, rfl⟩ := hx
  obtain ⟨hjl, rfl⟩ := List.getElem?_eq_some_iff.1 hy
  obtain ⟨ad, he, cc⟩ := R.cellsAt qO (by omega) j hjl
  cases he
  have c0 : bB h (Addr.add ⟨b, 0, none⟩ (j * 1)) [.string (bs ts[j])] := cc
  have := c0.at0 rfl
  rw [gT, Nat.mul_one] at this
  show hcell w.heap ⟨b, 0 + j, none⟩ = _
  rw [hw]; exact this) (by rw [hw]; exact hlt) (by rw [hlen]; omega) (by rw [hlen]; exact R.le) (by rw [hd, e47]; exact Nat.le_trans hj (by decide))
 rw [hlen, hd, e47] at this
 exact this.mono fun e w' ⟨h1, h2⟩ => ⟨h1, by rw [hw] at h2; exact h2, trivial⟩
end Go.Proofs.YtjmfpeiidlpngaaGreatDoor.Au
namespace Go.Proofs.YtjmfpeiidlpngaaGreatDoor.Au
set_option linter.unusedSimpArgs false
set_option linter.unusedVariables false
set_option maxRecDepth 20000
open Go
open Go.IntKind (wrap)
def od (kept : List Nm) (s : Nm) : List Nm := if s = [] ∨ s = [46] then kept else if s = [46, 46] then kept.dropLast else kept ++ [s]
def cP (ss : List Nm) : List Nm := ss.foldl od []
def mE (s : Nm) : Bool := decide (s = []) || decide (s = [46]) || decide (s = [46, 46])
def uq (p : Nm) : Nm :=
 if cP (aR p) = [] then [47] else
  (if p.take 1 = [47] then [47] else []) ++ Lib.join (cP (aR p)) [47] ++ (if mE ((aR p).getLast (jk p)) = true then [47] else [])
def mA (l : Nm) : Nat := (Cg 63 l).getD l.length
def Bg (l : Nm) : Nm := uq (l.take (mA l)) ++ l.drop (mA l)
theorem Eg (l : Nm) : mA l ≤ l.length := by
 unfold mA
 cases h : Cg 63 l with
 | none => exact Nat.le_refl _
 | some i =>
  unfold Cg at h
  rw [List.findIdx?_eq_some_iff_getElem] at h
  exact Nat.le_of_lt h.1
theorem _root_.Go.Proofs.YtjmfpeiidlpngaaGreatDoor.Row.pre {α : Type} {sz : Nat} {vals : α → List Value} {h : aA} {p : Option Addr} {cap : Nat} {L : List α} (R : Row sz vals h p cap L) (hv : ∀ x, (vals x).length = sz) (k : Nat) (hk : k ≤ L.length) : Row sz vals h p cap (L.take k) := by
 refine ⟨?_, by rw [List.length_take]; have := R.le; omega⟩
 have o := R.own
 cases p with
 | none =>
  have h1 := o.1
  rw [List.flatMap_eq_nil_iff] at h1
  exact ⟨List.flatMap_eq_nil_iff.2 fun x hx => h1 x (List.mem_of_mem_take hx), o.2⟩
 | some ad =>
  obtain ⟨h1, h2, ds, t, fr, hfr, hg, hc, hl, hcs⟩ := o
  have e : (L.take k).flatMap vals = (L.flatMap vals).take (k * sz) := by
   conv => rhs; rw [← List.take_append_drop k L, List.flatMap_append]
   rw [List.take_left' (by rw [mz hv, List.length_take, Nat.min_eq_left hk])]
  rw [e]
  refine ⟨h1, h2, ds, t, fr, hfr, hg, hc, by rw [List.length_take]; omega, fun i hi => ?_⟩
  rw [List.length_take] at hi
  rw [List.getElem_take]; exact hcs i (by omega)
theorem K1 : gW Tryz.prog lN dX Tryz.t9 (.string (bs [])) := ⟨Tryz.underlying28, by kernel_rfl, by kernel_rfl, by kernel_rfl, by decide⟩
def cN (ts : List Nm) : Nat := (ts.map (fun t => t.length + 1)).sum
theorem u3 (ts : List Nm) (x : Nm) : cN (ts ++ [x]) = cN ts + x.length + 1 := by unfold cN; simp; omega
theorem yn (ts : List Nm) : cN ts.dropLast ≤ cN ts := by
 rcases List.eq_nil_or_concat ts with h | ⟨a, b, h⟩
 ·subst h; exact Nat.le_refl _
 ·rw [List.concat_eq_append] at h
  subst h
  rw [List.dropLast_concat, u3]; omega
theorem BM (k : List Nm) (s : Nm) : cN (od k s) ≤ cN k + s.length + 1 := by
 unfold od
 split
 ·omega
 ·split
  ·have := yn k; omega
  ·rw [u3]; omega
theorem DF (ts : List Nm) : (Lib.join ts [47]).length ≤ cN ts := by
 cases ts with
 | nil => rw [Lib.join_nil]; exact Nat.zero_le _
 | cons a r =>
  rw [Lib.join_cons]
  unfold Lib.joinTail cN
  rw [List.length_append, List.length_flatten, List.map_map, List.map_cons, List.sum_cons]
  have : (r.map (List.length ∘ fun x => [47] ++ x)).sum = (r.map fun t => t.length + 1).sum := by
   have hf : (List.length ∘ fun x : Nm => [47] ++ x) = fun t => t.length + 1 := by funext x; show ([47] ++ x : Nm).length = _; simp
   rw [hf]
  rw [this]; omega
theorem vv : ∀ l : Nm, cN (aR l) ≤ l.length + 1
 | [] => by unfold aR cN; simp
 | c :: l => by
  have ih := vv l
  have hne := jk l
  unfold aR
  split
  ·unfold cN at ih ⊢; simp at ih ⊢; omega
  ·cases h : aR l with
   | nil => exact absurd h hne
   | cons x xs => rw [h] at ih; unfold cN at ih ⊢; simp at ih ⊢; omega
theorem uW : ∀ (ss : List Nm) (k : List Nm), cN (ss.foldl od k) ≤ cN k + cN ss
 | [], k => by simp [cN]
 | s :: ss, k => by
  have h1 := uW ss (od k s)
  have h2 := BM k s
  rw [List.foldl_cons]
  have : cN (s :: ss) = s.length + 1 + cN ss := by unfold cN; simp
  omega
theorem Cy (ts : List Nm) : ts.length ≤ cN ts := by
 unfold cN
 induction ts with
 | nil => simp
 | cons a r ih => rw [List.length_cons, List.map_cons, List.sum_cons]; omega
theorem Fi : ∀ (ss : List Nm) (k : List Nm), (∀ x ∈ k, x ≠ []) → ∀ x ∈ ss.foldl od k, x ≠ []
 | [], k, h => h
 | s :: ss, k, h => by
  rw [List.foldl_cons]
  refine Fi ss (od k s) fun x hx => ?_
  unfold od at hx
  split at hx
  ·exact h x hx
  ·split at hx
   ·exact h x (List.dropLast_subset _ hx)
   ·rename_i h1 h2
    rcases List.mem_append.1 hx with hx | hx
    ·exact h x hx
    ·rw [List.mem_singleton.1 hx]; exact fun e => h1 (.inl e)
theorem I3 (ss : List Nm) (h : cP ss ≠ []) : Lib.join (cP ss) [47] ≠ [] := by
 have hk := Fi ss [] (by simp)
 unfold cP at *
 cases hh : ss.foldl od [] with
 | nil => exact absurd hh h
 | cons a r =>
  rw [hh] at hk
  rw [Lib.join_cons]
  intro e
  exact hk a List.mem_cons_self (List.append_eq_nil_iff.1 e).1
theorem Ac (ss : List Nm) (i : Nat) (hi : i < ss.length) : cP (ss.take (i + 1)) = od (cP (ss.take i)) ss[i] := by
 unfold cP
 rw [show ss.take (i + 1) = ss.take i ++ [ss[i]] by rw [List.take_append_getElem], List.foldl_append]; rfl
section
variable {h : aA} {Q : Value → aA → Prop}
theorem LF [Gh] {h0 h : aA} {p : Option Addr} {cap : Nat} {L : List Nm} (R : Row 1 yJ h p cap L) (hp : ∀ x, InA p x → h0.size ≤ x) (f : Fr (fun _ => False) h0 h) (hl : L.length ≤ 2 ^ 29) (b : Nm) {K : Value → aA → Prop}
  (hk : ∀ p' cap' h', Row 1 yJ h' p' cap' (L ++ [b]) → Fr (fun _ => False) h0 h' → (∀ x, InA p' x → h0.size ≤ x) → K (.slice p' (L ++ [b]).length cap') h') :
  alV h (.cells #[.string (bs b)] dX) fun t h2 => dU Tryz.prog .append #[lN, lN] lN #[false, false] #[.slice p L.length cap, .slice (some t) 1 1] h2 K := by
 refine bA (vs := yJ b) fun t h2 f2 e2 o2 => ?_
 have z := f.size
 have z2 := f2.size
 refine (R.fr0 f2).app K1 Tryz.underlying28 (by intro k e; cases e) (by kernel_rfl) (by decide +kernel) qO (fun _ => rfl) o2 1 hl fun p' c' h3 R3 f3 hn3 => ?_
 refine hk p' c' h3 R3 ((f.trans f2).tr f3 fun x hx hh => by have := hp x hh; omega) fun x hx => ?_
 rcases hn3 x hx with h | h
 ·exact hp x h
 ·omega
theorem JP [Gh] {p : Option Addr} {c : Nat} (hk : Q (.string (bs [])) h) : aE Tryz.prog mC #[.slice p 0 c, .string (⟨#[47]⟩ : ByteArray)] h Q := by
 apply zk
 unfold uF
 rw [if_pos (by decide)]; exact hk
theorem Cj : IntKind.max .i64 = 9223372036854775807 := by decide
theorem Ff [Gh] (q : Nm) (l : Nm) (hl : l.length ≤ 2 ^ 28) (hq : q.length ≤ 2 ^ 28) (hk : ∀ h', Fr (fun _ => False) h h' → Q (.string (bs (uq l ++ q))) h') : fK (bs l) (bs q) Q h := by
 unfold fK
 refine JA l (by omega) fun sp sc h1 f1 Rs hsp => ⟨_, _, _, rfl, ?_⟩
 have hne := jk l
 have hsa := vv l
 have hsl := Cy (aR l)
 refine aJ.go (fun n st h' => ∃ (i : Nat), st.2.2.2 = (i : Int) ∧ st.2.1 = (cP ((aR l).take i)).length ∧ i ≤ (aR l).length ∧ n = (aR l).length - i ∧ Fr (fun _ => False) h1 h' ∧ Row 1 yJ h' st.1 st.2.2.1 (cP ((aR l).take i)) ∧ (∀ b, InA st.1 b → h1.size ≤ b)) (aR l).length
  ⟨0, rfl, rfl, Nat.zero_le _, rfl, Fr.refl _ _, Row.nil, fun b hb => (dJ hb).elim⟩ ?_
 rintro n ⟨a, m, c, t⟩ h2 ⟨i, e1, e2, hi, rfl, f2, R2, ha⟩ Kn hK
 dsimp only at e1 e2 R2 ha
 subst e1 e2
 dsimp only
 unfold kh
 have hfa := uW ((aR l).take i) []
 have hkl : (cP ((aR l).take i)).length ≤ 2 ^ 29 := by
  have h1 := Cy (cP ((aR l).take i))
  have h2 : cN ((aR l).take i) ≤ cN (aR l) := by
   conv => rhs; rw [← List.take_append_drop i (aR l)]
   unfold cN; rw [List.map_append, List.sum_append]; omega
  have h3 : cN [] = 0 := rfl
  unfold cP at *
  omega
 refine ifD (fun e => ?_) fun e => ?_
 ·have hil : i < (aR l).length := by omega
  have hst := Ac (aR l) i hil
  refine (Rs.fr0 f2).idx qO (by decide) i rfl hil fun ad ci => ?_
  rw [Int.toNat_natCast]
  refine aY (ci.at0 rfl) ?_
  have go : ∀ (p' : Option Addr) (c' : Nat) (h3 : aA), Row 1 yJ h3 p' c' (cP ((aR l).take (i + 1))) → Fr (fun _ => False) h1 h3 → (∀ x, InA p' x → h1.size ≤ x) → Kn (p', (cP ((aR l).take (i + 1))).length, c', wrap .i64 ((i : Int) + 1)) h3 := fun p' c' h3 R3 f3 hp3 => by
   rw [wr (by omega) (by omega)]
   exact hK ((aR l).length - (i + 1)) _ _ (by omega) ⟨i + 1, rfl, rfl, hil, rfl, f3, R3, hp3⟩
  generalize (aR l)[i] = s at *
  have skip : s = [] ∨ s = [46] → Kn (a, (cP ((aR l).take i)).length, c, wrap .i64 ((i : Int) + 1)) h2 := fun hs => by
   have e : cP ((aR l).take (i + 1)) = cP ((aR l).take i) := by rw [hst]; unfold od; rw [if_pos hs]
   have := go a c h2 (by rw [e]; exact R2) f2 ha
   rw [e] at this; exact this
  refine CV (fun e3 => ?_) fun e3 => ?_
  ·rw [if_pos (by rw [e3]; show ((bs []).toList == (bs []).toList) = true; rw [j5]; rfl)]; exact skip (.inl e3)
  refine ifS (m := [46]) (fun e4 => skip (.inr e4)) fun e4 => ?_
  unfold io
  have hn : ¬ (s = [] ∨ s = [46]) := fun hh => hh.elim e3 e4
  refine ifS (m := [46, 46]) (fun e5 => ?_) fun e5 => ?_
  ·have ek : cP ((aR l).take (i + 1)) = (cP ((aR l).take i)).dropLast := by rw [hst]; unfold od; rw [if_neg hn, if_pos e5]
   have el : (if (0 : Int) > (wrap .i64 ((((cP ((aR l).take i)).length : Nat) : Int) - 1)) then (0 : Int) else (wrap .i64 ((((cP ((aR l).take i)).length : Nat) : Int) - 1))) = (((cP ((aR l).take i)).length - 1 : Nat) : Int) := by
    rw [wr (by omega) (by omega)]; split <;> omega
   rw [el]
   refine ⟨by omega, by have := R2.le; omega, ?_⟩
   rw [Int.toNat_natCast]
   have R3 := R2.pre qO ((cP ((aR l).take i)).length - 1) (by omega)
   rw [← List.dropLast_eq_take] at R3
   have := go a c h2 (by rw [ek]; exact R3) f2 ha
   rw [ek, List.length_dropLast] at this; exact this
  ·have ek : cP ((aR l).take (i + 1)) = cP ((aR l).take i) ++ [s] := by rw [hst]; unfold od; rw [if_neg hn, if_neg e5]
   refine LF R2 ha f2 hkl s fun p' c' h3 R3 f3 hp3 => ⟨_, _, _, rfl, ?_⟩
   rw [← ek] at R3 ⊢
   exact go p' c' h3 R3 f3 hp3
 ·have : i = (aR l).length := by omega
  subst this
  rw [List.take_length] at R2 hkl ⊢
  unfold j9
  have f02 := f1.trans f2
  unfold uq at hk
  have hja := DF (cP (aR l))
  have hfa2 := uW (aR l) []
  have h3 : cN [] = 0 := rfl
  have hkeep : cN (cP (aR l)) ≤ 2 ^ 29 := by unfold cP; omega
  have hlast : (aR l).length - 1 < (aR l).length := by have := List.length_pos_iff.2 hne; omega
  have b4 : ∀ (o : Nm), o.length ≤ 1 → o = (if l.take 1 = [47] then [47] else []) → fI (bs q) a (cP (aR l)).length c sp (aR l).length sc (bs o) Q h2 := fun o ho1 ho => by
   unfold fI
   rw [← ho] at hk
   have b6 : ∀ (x : Nm) (h4 : aA), x.length ≤ 2 ^ 30 → Q (.string (bs (x ++ q))) h4 → fB (bs q) (bs x) Q h4 := fun x h4 hx hq' => by
    unfold fB
    rw [ya, bN, bN, Cj]
    exact ⟨by omega, hq'⟩
   have fin : ∀ (h4 : aA), Fr (fun _ => False) h2 h4 → bR (wrap .i64 ((((aR l).length : Nat) : Int) - 1)) (aR l).length (nn sp fun t58 => ldS h4 (Addr.add t58 (((wrap .i64 ((((aR l).length : Nat) : Int) - 1))).toNat * 1)) fun t59 => if (decide ((((cP (aR l)).length : Nat) : Int) > 0)) = true then (if (t59.toList == (⟨#[]⟩ : ByteArray).toList) = true then ((((bs o ++ bs (Lib.join (cP (aR l)) [47])).size + (⟨#[47]⟩ : ByteArray).size : Nat) : Int) ≤ IntKind.max .i64 ∧ bE (bs q) ((bs o ++ bs (Lib.join (cP (aR l)) [47])) ++ (⟨#[47]⟩ : ByteArray)) Q h4) else (if (t59.toList == (⟨#[46]⟩ : ByteArray).toList) = true then ((((bs o ++ bs (Lib.join (cP (aR l)) [47])).size + (⟨#[47]⟩ : ByteArray).size : Nat) : Int) ≤ IntKind.max .i64 ∧ bE (bs q) ((bs o ++ bs (Lib.join (cP (aR l)) [47])) ++ (⟨#[47]⟩ : ByteArray)) Q h4) else (if (t59.toList == (⟨#[46, 46]⟩ : ByteArray).toList) = true then ((((bs o ++ bs (Lib.join (cP (aR l)) [47])).size + (⟨#[47]⟩ : ByteArray).size : Nat) : Int) ≤ IntKind.max .i64 ∧ bE (bs q) ((bs o ++ bs (Lib.join (cP (aR l)) [47])) ++ (⟨#[47]⟩ : ByteArray)) Q h4) else (bE (bs q) (bs o ++ bs (Lib.join (cP (aR l)) [47])) Q h4)))) else (bE (bs q) (bs o ++ bs (Lib.join (cP (aR l)) [47])) Q h4)) := fun h4 f4 => by
    have f04 := f02.trans f4
    have hk := hk h4 f04
    rw [wr (by omega) (by omega), show (((aR l).length : Nat) : Int) - 1 = (((aR l).length - 1 : Nat) : Int) by omega]
    refine ((Rs.fr0 f2).fr0 f4).idx qO (by decide) ((aR l).length - 1) rfl hlast fun ad ci => ?_
    rw [Int.toNat_natCast]
    refine aY (ci.at0 rfl) ?_
    have egl : (aR l).getLast (jk l) = (aR l)[(aR l).length - 1]'hlast := List.getLast_eq_getElem _
    rw [egl] at hk
    generalize (aR l)[(aR l).length - 1]'hlast = s at *
    have e47 : (⟨#[47]⟩ : ByteArray) = bs [47] := rfl
    rw [e47, ya, ya, bN, bN, Cj, List.length_append]
    have hlen47 : ([47] : Nm).length = 1 := rfl
    refine ifD (fun e6 => ?_) fun e6 => ?_
    ·have hkn : cP (aR l) ≠ [] := fun h => by rw [h] at e6; simp at e6
     rw [if_neg hkn] at hk
     have b5 : ∀ x : Nm, x ≠ [] → x.length ≤ 2 ^ 30 → Q (.string (bs (x ++ q))) h4 → bE (bs q) (bs x) Q h4 := fun x hx hxl hq' => by
      unfold bE
      exact CV (fun h => absurd h hx) fun _ => b6 x h4 hxl hq'
     have yes : mE s = true → (((o.length + (Lib.join (cP (aR l)) [47]).length + ([47] : Nm).length : Nat) : Int) ≤ 9223372036854775807 ∧ bE (bs q) (bs (o ++ Lib.join (cP (aR l)) [47] ++ [47])) Q h4) := fun he => by
      rw [if_pos he] at hk
      exact ⟨by omega, b5 _ (by simp) (by simp; omega) hk⟩
     refine CV (fun e7 => yes (by unfold mE; rw [decide_eq_true e7]; rfl)) fun e7 => ?_
     refine ifS (m := [46]) (fun e8 => yes (by unfold mE; rw [decide_eq_true e8]; simp)) fun e8 => ?_
     refine ifS (m := [46, 46]) (fun e9 => yes (by unfold mE; rw [decide_eq_true e9]; simp)) fun e9 => ?_
     rw [if_neg (by unfold mE; rw [decide_eq_false e7, decide_eq_false e8, decide_eq_false e9]; decide), List.append_nil] at hk
     refine b5 _ (fun hx => ?_) (by rw [List.length_append]; omega) hk
     exact I3 _ hkn (List.append_eq_nil_iff.1 hx).2
    ·have hkn : cP (aR l) = [] := List.length_eq_zero_iff.1 (by omega)
     rw [if_pos hkn] at hk
     rw [hkn, Lib.join_nil, List.append_nil]
     unfold bE
     refine CV (fun _ => b6 [47] h4 (by simp) hk) fun hx => ?_
     have : o = [47] := by
      rw [ho] at hx ⊢
      split at hx
      ·rename_i hh; rw [if_pos hh]
      ·exact absurd rfl hx
     rw [this]
     exact b6 [47] h4 (by simp) hk
   by_cases hkn : cP (aR l) = []
   ·rw [hkn] at fin ⊢
    refine JP ⟨_, rfl, ?_⟩
    rw [bN, bN, Cj]
    refine ⟨by simp; omega, ?_⟩
    have := fin h2 (Fr.refl _ _)
    rw [Lib.join_nil] at this; exact this
   ·refine KO R2 hkn (by have := Cy (cP (aR l)); omega) (by omega) fun h4 f4 => ⟨_, rfl, ?_⟩
    rw [bN, bN, Cj]
    exact ⟨by omega, fin h4 f4⟩
  refine Dd l ⟨_, rfl, ifB (fun e6 => ?_) fun e6 => ?_⟩
  ·exact b4 [47] (by simp) (by rw [if_pos (of_decide_eq_true e6)])
  ·exact b4 [] (by simp) (by rw [if_neg (of_decide_eq_false e6)])
theorem Kq [Gh] (l : Nm) (hl : l.length ≤ 2 ^ 28) (hk : ∀ h', Fr (fun _ => False) h h' → Q (.string (bs (Bg l))) h') : aE Tryz.prog np #[.string (bs l)] h Q := by
 apply uB
 unfold oq
 refine yu l 63 ⟨_, rfl, ?_⟩
 unfold Bg mA at hk
 unfold GJ
 cases hx : Cg 63 l with
 | none =>
  rw [hx] at hk
  dsimp only
  rw [if_neg (by decide)]
  refine Ff [] l hl (by simp) fun h' f => ?_
  have := hk h' f
  rw [Option.getD_none, List.take_length, List.drop_length] at this; exact this
 | some i =>
  rw [hx] at hk
  dsimp only
  have hi : i ≤ l.length := by
   have := Eg l
   unfold mA at this
   rw [hx] at this; exact this
  rw [if_pos (by simp)]
  refine slT l i rfl hi (slF l i rfl hi ?_)
  refine Ff (l.drop i) (l.take i) (by rw [List.length_take]; omega) (by rw [List.length_drop]; omega) fun h' f => hk h' f
end
end Go.Proofs.YtjmfpeiidlpngaaGreatDoor.Au
namespace Go.Proofs.YtjmfpeiidlpngaaGreatDoor.Au
set_option linter.unusedSimpArgs false
set_option linter.unusedVariables false
set_option maxRecDepth 20000
open Go
open Go.IntKind (wrap)
def trL (k : Int) (l : Nm) : Nm :=
 if k = 1 then cI l else if k = 2 then oU l else if k = 3 then sD l else if k = 4 then r7 0 0 l else if k = 5 then Bg l else if k = 6 then sq (-1) l else l
def jO (ks : List Int) (l : Nm) : Nm := (ks.take 4).foldl (fun s k => trL k s) l
theorem xh : ∀ l : Nm, (sD l).length ≤ l.length
 | [] => Nat.le_refl _
 | [a] => Nat.le_refl _
 | [a, b] => Nat.le_refl _
 | c :: a :: b :: r => by
  rw [sD]
  split
  ·have := xh r; simp only [List.length_cons]; omega
  ·have := xh (a :: b :: r); simp only [List.length_cons] at this ⊢; omega
theorem vm : ∀ (l : Nm) (k : Int), (sq k l).length ≤ l.length
 | [], _ => Nat.le_refl _
 | c :: r, k => by
  rw [sq]
  split
  ·have := vm r k; simp only [List.length_cons]; omega
  ·split
   ·have := vm r (pR (bP c)); simp only [List.length_cons]; omega
   ·have := vm r (-1); simp only [List.length_cons]; omega
theorem vh : ∀ (l : Nm) (b n : Nat), (r7 b n l).length ≤ l.length
 | [], _, _ => Nat.le_refl _
 | c :: r, b, n => by
  rw [r7]
  split
  ·simp
  ·split
   ·have := vh r b n; simp only [List.length_cons]; omega
   ·split
    ·have := vh r ((b * 64 + (wG c).toNat) % 2 ^ (n - 2)) (n - 2); simp only [List.length_cons]; omega
    ·have := vh r (b * 64 + (wG c).toNat) (n + 6); simp only [List.length_cons]; omega
theorem FO (p : Nm) : (uq p).length ≤ p.length + 3 := by
 unfold uq
 split
 ·simp
 ·have h1 := DF (cP (aR p))
  have h2 := uW (aR p) []
  have h3 := vv p
  have h4 : cN [] = 0 := rfl
  unfold cP at *
  rw [List.length_append, List.length_append]
  have a1 : (if p.take 1 = [47] then ([47] : Nm) else []).length ≤ 1 := by split <;> simp
  have a2 : (if mE ((aR p).getLast (jk p)) = true then ([47] : Nm) else []).length ≤ 1 := by split <;> simp
  omega
theorem Ko (k : Int) (l : Nm) : (trL k l).length ≤ l.length + 3 := by
 unfold trL
 split
 ·rw [jq]; omega
 split
 ·unfold oU; have := List.length_filter_le rM l; omega
 split
 ·have := xh l; omega
 split
 ·have := vh l 0 0; omega
 split
 ·unfold Bg
  rw [List.length_append, List.length_drop]
  have := FO (l.take (mA l))
  have := Eg l
  rw [List.length_take] at *
  omega
 split
 ·have := vm l (-1); omega
 ·omega
theorem ze : ∀ (ks : List Int) (l : Nm), (ks.foldl (fun s k => trL k s) l).length ≤ l.length + 3 * ks.length
 | [], l => by simp
 | k :: ks, l => by
  rw [List.foldl_cons, List.length_cons]
  have h1 := ze ks (trL k l)
  have h2 := Ko k l
  omega
theorem AX (ks : List Int) (l : Nm) : (jO ks l).length ≤ l.length + 12 := by
 unfold jO
 have := ze (ks.take 4) l
 rw [List.length_take] at this; omega
section
variable {h : aA} {Q : Value → aA → Prop}
theorem IV [Gh] (k : Int) (l : Nm) (hl : l.length ≤ 2 ^ 28) (hk : ∀ h', Fr (fun _ => False) h h' → Q (.string (bs (trL k l))) h') : aE Tryz.prog mJ #[.int .i64 k, .string (bs l)] h Q := by
 apply wN
 unfold rA
 apply zb
 unfold uP
 unfold trL at hk
 refine ifE (fun e => ?_) fun e => ?_
 ·rw [if_pos e] at hk
  exact ⟨_, rfl, cK.2 (Ih l hl fun h' f => ⟨_, rfl, hk h' f⟩)⟩
 rw [if_neg e] at hk
 refine ifE (fun e => ?_) fun e => ?_
 ·rw [if_pos e] at hk
  exact ⟨_, rfl, cK.2 (Jz l hl fun h' f => ⟨_, rfl, hk h' f⟩)⟩
 rw [if_neg e] at hk
 refine ifE (fun e => ?_) fun e => ?_
 ·rw [if_pos e] at hk
  exact ⟨_, rfl, cK.2 (FS l hl fun h' f => ⟨_, rfl, hk h' f⟩)⟩
 rw [if_neg e] at hk
 refine ifE (fun e => ?_) fun e => ?_
 ·rw [if_pos e] at hk
  exact ⟨_, rfl, cK.2 (H2 l hl fun h' f => ⟨_, rfl, hk h' f⟩)⟩
 rw [if_neg e] at hk
 refine ifE (fun e => ?_) fun e => ?_
 ·rw [if_pos e] at hk
  exact ⟨_, rfl, cK.2 (Kq l hl fun h' f => ⟨_, rfl, hk h' f⟩)⟩
 rw [if_neg e] at hk
 refine ifE (fun e => ?_) fun e => ?_
 ·rw [if_pos e] at hk
  exact ⟨_, rfl, cK.2 (Lu l hl fun h' f => ⟨_, rfl, hk h' f⟩)⟩
 rw [if_neg e] at hk
 refine ⟨_, rfl, cK.2 ?_⟩
 show aE Tryz.prog n9 #[.string (bs l)] h _
 apply uz
 unfold ov
 exact ⟨_, rfl, hk h (Fr.refl _ _)⟩
end
end Go.Proofs.YtjmfpeiidlpngaaGreatDoor.Au
namespace Go.Proofs.YtjmfpeiidlpngaaGreatDoor.Au
set_option linter.unusedSimpArgs false
set_option linter.unusedVariables false
set_option maxRecDepth 20000
open Go
open Go.IntKind (wrap)
theorem Ef (ks : List Int) (l : Nm) (i : Nat) (hi : i < ks.length) : ((ks.take (i + 1)).foldl (fun s k => trL k s) l) = trL ks[i] ((ks.take i).foldl (fun s k => trL k s) l) := by
 rw [show ks.take (i + 1) = ks.take i ++ [ks[i]] by rw [List.take_append_getElem], List.foldl_append]; rfl
section
variable {h : aA} {Q : Value → aA → Prop}
theorem Kd [Gh] (ks : Sl Int) (l : Nm) (hl : l.length ≤ 2 ^ 20) (o : bJ 1 (fun n : Int => [Value.int .i64 n]) (kOk .i64) h ks) (hk : ∀ h', Fr (fun _ => False) h h' → Q (.string (bs (jO ks.xs l))) h') : aE Tryz.prog lV #[.slice ks.p ks.xs.length ks.cap, .string (bs l)] h Q := by
 apply yw
 unfold tT
 have hcap := o.cap
 have hle := o.len
 obtain ⟨m, em, hm4, hml, hmt⟩ : ∃ m : Nat, (if (4 : Int) < ((ks.xs.length : Nat) : Int) then (4 : Int) else ((ks.xs.length : Nat) : Int)) = (m : Int) ∧ m ≤ 4 ∧ m ≤ ks.xs.length ∧ ks.xs.take m = ks.xs.take 4 := by
  by_cases h : (4 : Int) < ((ks.xs.length : Nat) : Int)
  ·rw [if_pos h]; exact ⟨4, rfl, by omega, by omega, rfl⟩
  ·rw [if_neg h]; exact ⟨ks.xs.length, rfl, by omega, by omega, by rw [List.take_of_length_le (by omega), List.take_of_length_le (by omega)]⟩
 rw [em]
 refine ⟨by omega, by omega, ?_⟩
 rw [Int.toNat_natCast]
 refine aJ.go (fun n st h' => ∃ i : Nat, st.2 = (i : Int) ∧ st.1 = bs ((ks.xs.take i).foldl (fun s k => trL k s) l) ∧ i ≤ m ∧ n = m - i ∧ Fr (fun _ => False) h h') m ⟨0, rfl, rfl, by omega, rfl, Fr.refl _ _⟩ ?_
 rintro n ⟨s, t⟩ h1 ⟨i, e1, e2, hi, rfl, f1⟩ Kn hK
 dsimp only at e1 e2
 subst e1 e2
 dsimp only
 unfold oW
 refine ifD (fun e => ?_) fun e => ?_
 ·have him : i < m := by omega
  have hil : i < ks.xs.length := by omega
  obtain ⟨ad, had, ci, _⟩ := (bJ.fr0 yA f1 o).at_ i hil
  rw [had]
  refine bS i rfl him (aS ?_)
  rw [Int.toNat_natCast]
  have hfl := ze (ks.xs.take i) l
  rw [List.length_take] at hfl
  refine aB (ci.at0 rfl) (IV ks.xs[i] ((ks.xs.take i).foldl (fun s k => trL k s) l) (by omega) fun h2 f2 => ⟨_, rfl, ?_⟩)
  rw [wr (by omega) (by omega)]
  exact hK (m - (i + 1)) _ _ (by omega) ⟨i + 1, rfl, by rw [Ef _ _ _ hil], him, rfl, f1.trans f2⟩
 ·have : i = m := by omega
  subst this
  rw [hmt]
  exact hk h1 f1
end
end Go.Proofs.YtjmfpeiidlpngaaGreatDoor.Au
namespace Go.Proofs.YtjmfpeiidlpngaaGreatDoor
set_option linter.unusedSimpArgs false
set_option linter.unusedVariables false
set_option maxRecDepth 20000
open Go
open Go.IntKind (wrap)
def bbV (b : Bool) : List Value := [.bool b]
theorem yT (b : Bool) : (bbV b).length = 1 := rfl
def uh (seen : List Bool) (hs : List Au.Hit) : List Bool := hs.foldl (fun s x => s.set x.1 true) seen
theorem Bv (hs : List Au.Hit) : ∀ seen : List Bool, (uh seen hs).length = seen.length := by
 induction hs with
 | nil => intro s; rfl
 | cons x hs ih => intro s; show (uh (s.set x.1 true) hs).length = _; rw [ih, List.length_set]
theorem Gl (hs : List Au.Hit) : ∀ (seen : List Bool) (n : Nat), (uh seen hs)[n]? = (seen[n]?).map fun b => b || hs.any fun x => decide (x.1 = n) := by
 induction hs with
 | nil => intro s n; show s[n]? = _; cases s[n]? <;> simp
 | cons x hs ih =>
  intro s n
  show (uh (s.set x.1 true) hs)[n]? = _
  rw [ih, List.getElem?_set, List.any_cons]
  by_cases e : x.1 = n
  ·rw [if_pos e]
   subst e
   by_cases hl : x.1 < s.length
   ·rw [if_pos hl, List.getElem?_eq_getElem hl]; simp
   ·rw [if_neg hl, List.getElem?_eq_none (by omega)]; rfl
  ·rw [if_neg e]; cases s[n]? <;> simp [e]
def ww (p : Au.Pt) (w : Au.Nm) : Bool := (List.range (w.length + 1)).any fun e => Au.uA p w e
def uY (L : List Au.Pt) (w : Au.Nm) : List Bool := L.map fun p => ww p w
theorem w9 {L : List Au.Pt} {s : Au.Nm} {fm k j e : Nat} : (j, e) ∈ Au.pT L s fm k ↔ fm < e ∧ e ≤ fm + k ∧ j < L.length ∧ Au.uA (L.getD j ⟨[], false⟩) s e = true := by
 unfold Au.pT Au.hA
 simp only [List.mem_flatMap, List.mem_range]
 constructor
 ·rintro ⟨m, hm, j', hj', hx⟩
  split at hx
  ·rename_i ho
   simp only [List.mem_singleton, Prod.mk.injEq] at hx
   obtain ⟨rfl, rfl⟩ := hx
   exact ⟨by omega, by omega, hj', ho⟩
  ·cases hx
 ·rintro ⟨h1, h2, h3, h4⟩
  refine ⟨e - (fm + 1), by omega, j, h3, ?_⟩
  have : fm + 1 + (e - (fm + 1)) = e := by omega
  rw [this, if_pos h4]; simp
theorem IK (L : List Au.Pt) (j : Nat) (hj : j < L.length) : L.getD j ⟨[], false⟩ = L[j] := by rw [List.getD_eq_getElem?_getD, List.getElem?_eq_getElem hj]; rfl
theorem GS (p : Au.Pt) (w : Au.Nm) : Au.uA p w 0 = false := by
 unfold Au.uA
 by_cases h : p.t = []
 ·simp [h]
 ·have : 0 < p.t.length := List.length_pos_iff.2 h
  have h2 : ¬ p.t.length ≤ 0 := by omega
  simp [h2]
theorem Df (p : Au.Pt) (w s : Au.Nm) (e : Nat) (he : e ≤ w.length) : Au.uA p (w ++ s) e = Au.uA p w e := by
 rw [← Au.zq p (w ++ s) e, ← Au.zq p w e, List.take_append_of_le_length he]
theorem tN {p : Au.Pt} {w : Au.Nm} : ww p w = true ↔ ∃ e, e ≤ w.length ∧ Au.uA p w e = true := by
 unfold ww
 rw [List.any_eq_true]
 constructor
 ·rintro ⟨e, h1, h2⟩; exact ⟨e, by rw [List.mem_range] at h1; omega, h2⟩
 ·rintro ⟨e, h1, h2⟩; exact ⟨e, by rw [List.mem_range]; omega, h2⟩
theorem Dt {a b : Bool} (h : a = true ↔ b = true) : a = b := by cases a <;> cases b <;> simp_all
theorem Be (L : List Au.Pt) (w s : Au.Nm) : uh (uY L w) (Au.pT L (w ++ s) w.length s.length) = uY L (w ++ s) := by
 apply List.ext_getElem?
 intro n
 rw [Gl]
 unfold uY
 rw [List.getElem?_map, List.getElem?_map]
 by_cases hn : n < L.length
 ·rw [List.getElem?_eq_getElem hn]
  simp only [Option.map_some, Option.some.injEq]
  apply Dt
  rw [Bool.or_eq_true, tN, tN, List.any_eq_true]
  constructor
  ·rintro (⟨e, h1, h2⟩ | ⟨⟨j, e⟩, h1, h2⟩)
   ·exact ⟨e, by rw [List.length_append]; omega, by rw [Df _ _ _ _ h1]; exact h2⟩
   ·rw [decide_eq_true_iff] at h2
    simp only at h2
    subst h2
    obtain ⟨a, b, c, d⟩ := w9.1 h1
    rw [IK _ _ c] at d
    exact ⟨e, by rw [List.length_append]; omega, d⟩
  ·rintro ⟨e, h1, h2⟩
   rw [List.length_append] at h1
   by_cases he : e ≤ w.length
   ·exact .inl ⟨e, he, by rw [Df _ _ _ _ he] at h2; exact h2⟩
   ·exact .inr ⟨(n, e), w9.2 ⟨by omega, by omega, hn, by rw [IK _ _ hn]; exact h2⟩, by simp⟩
 ·rw [List.getElem?_eq_none (by omega)]; rfl
theorem Br (L : List Au.Pt) : uY L [] = List.replicate L.length false := by
 unfold uY
 rw [List.eq_replicate_iff]
 refine ⟨by simp, fun b hb => ?_⟩
 obtain ⟨p, _, rfl⟩ := List.mem_map.1 hb
 cases h : ww p [] with
 | false => rfl
 | true =>
  obtain ⟨e, h1, h2⟩ := tN.1 h
  have : e = 0 := by simpa using h1
  subst this
  rw [GS] at h2; cases h2
theorem Hw (L : List Au.Pt) (s : Au.Nm) : uh (List.replicate L.length false) (Au.pT L s 0 s.length) = uY L s := by
 have := Be L [] s
 rw [Br] at this
 simpa using this
section
variable {h : aA} {Q : Value → aA → Prop}
theorem HK [Gh] {pa : Addr} {v0 v2 v3 : Value} {q : Option Addr} {qc : Nat} {seen : List Bool} (cp : bB h pa [v0, .slice q seen.length qc, v2, v3]) (R : Row 1 bbV h q qc seen) (hq : ¬ InA q pa.block)
  {r : Option Addr} {rc : Nat} {hs : List Au.Hit} (Rr : Row 2 Au.zT h r rc hs) (hr : ∀ x, InA r x → ¬ InA q x) (hin : ∀ x ∈ hs, x.1 < seen.length) (hl : hs.length ≤ 2 ^ 40)
  (hk : ∀ h', Fr (InA q) h h' → Row 1 bbV h' q qc (uh seen hs) → Q (.tuple #[]) h') : aE Tryz.prog jA #[.pointer (some pa), .slice r hs.length rc] h Q := by
 apply vE
 unfold pV
 refine aJ.mk (fun st h' => ∃ k : Nat, st = (k : Int) ∧ k ≤ hs.length ∧ Fr (InA q) h h' ∧ Row 1 bbV h' q qc (uh seen (hs.take k))) (fun st _ => hs.length - st.toNat) ⟨0, rfl, by omega, Fr.refl _ _, R⟩ ?_
 rintro st h1 ⟨k, rfl, hkl, f1, R1⟩
 unfold lG
 refine ifD (fun hlt => ?_) (fun hge => ?_)
 ·have hi : k < hs.length := by omega
  have Rr1 := Rr.fr f1 hr
  refine Rr1.idx Au.Dn (by omega) k rfl hi fun ad cc => ?_
  rw [Int.toNat_natCast]
  refine (aB (cc.at0 rfl) (aB (cc.at rfl) ?_))
  refine rm rfl rfl fun t5 h2 f2 ht5 o5 => ?_
  have cp2 : bB h2 pa [v0, .slice q seen.length qc, v2, v3] := (cp.fr f1 hq).fr0 f2
  refine aS (aD (cp2.at (j := 1) rfl) (aB (o5.cells.at0 rfl) ?_))
  have hb := hin _ (List.getElem_mem hi)
  have hb2 : hs[k].1 < (uh seen (hs.take k)).length := by rw [Bv]; exact hb
  have R2 := R1.fr0 f2
  rw [← Bv (hs.take k) seen]
  obtain ⟨aq, hqe, cq⟩ := R2.cellsAt yT (by omega) hs[k].1 hb2
  subst hqe
  refine bS hs[k].1 rfl hb2 ?_
  rw [Int.toNat_natCast]
  refine aS ?_
  rw [← kM (aq.add (hs[k].1 * 1))]
  refine R2.set1 yT hs[k].1 hb2 rfl (j := 0) (by omega) (v := .bool true) rfl (e' := true) rfl fun h3 f3 R3 => ?_
  rw [wr (by omega) (by omega)]
  refine ⟨⟨k + 1, by omega, by omega, (f1.trans (f2.mono fun _ => False.elim)).trans f3, ?_⟩, by omega⟩
  rw [show hs.take (k + 1) = hs.take k ++ [hs[k]] by rw [List.take_append_getElem]]
  unfold uh at R3 ⊢
  rw [List.foldl_append]; exact R3
 ·have : k = hs.length := by omega
  subst this
  rw [List.take_length] at R1
  exact hk h1 f1 R1
end
end Go.Proofs.YtjmfpeiidlpngaaGreatDoor
namespace Go.Proofs.YtjmfpeiidlpngaaGreatDoor
set_option linter.unusedSimpArgs false
set_option linter.unusedVariables false
set_option maxRecDepth 20000
open Go
open Go.IntKind (wrap)
abbrev Tag := Nat → Nat
def GpX (N : Nat) (h : aA) (ga : Addr) (g : Gr) (au : Addr) (sg : List Au.St) (ws : List Au.Nm) : Prop :=
 Kp (fun x => x < N) h (fun h' => bB h' ga (g.vals ++ [.pointer (some au)]) ∧ bI.ok h' g) ∧ Au.xo N h au sg ws (ptS g.Patterns).xs
theorem GpX.fr {N : Nat} {S : Nat → Prop} {h h' : aA} {ga : Addr} {g : Gr} {au : Addr} {sg : List Au.St} {ws : List Au.Nm} (G : GpX N h ga g au sg ws) (f : Fr S h h') (hs : ∀ x, x < h.size → S x → N ≤ x) : GpX N h' ga g au sg ws :=
 ⟨G.1.fr f (fun x hx hn hh => by have := hs x hx hh; omega) fun _ _ => id, G.2.fr f hs⟩
theorem GpX.of {N : Nat} {h : aA} {ga : Addr} {g : Gr} (G : GpB (fun x => x < N) h ga g) (hN : N ≤ h.size) : ∃ au sg ws, GpX N h ga g au sg ws := by
 obtain ⟨au, sg, ws, k1, k2, d⟩ := G
 exact ⟨au, sg, ws, k1, d.auto k2 hN⟩
def hZ (g : Gr) : List Au.Pt := (ptS g.Patterns).xs
theorem qu (g : Gr) : (hZ g).length = g.Patterns.xs.length := List.length_map ..
def iG (g : Gr) (w : Au.Nm) : List Bool := if g.Transforms.xs = [] then uY (hZ g) w else List.replicate (hZ g).length false
theorem mW (g : Gr) (w : Au.Nm) : (iG g w).length = (hZ g).length := by
 unfold iG; split
 ·unfold uY; rw [List.length_map]
 ·simp
def yy : Value := .func (.func 33) #[] #[]
def Ay : Value := .func (.func 34) #[] #[]
def H5 (t9 t13 t14 : Addr) : Value := .func (.func 36) #[] #[.pointer (some t9), .pointer (some t13), .pointer (some t14)]
def JQ (t12 t9 t13 : Addr) : Value := .func (.func 39) #[] #[.pointer (some t12), .pointer (some t9), .pointer (some t13)]
def HT (t9 : Addr) : Value := .func (.func 41) #[] #[.pointer (some t9)]
def Ku : Value := .func (.func 42) #[] #[]
def IJ (N : Nat) (o : Tag) (i : Nat) (h : aA) (t9 ga : Addr) (g : Gr) (pa au : Addr) (ws : List Au.Nm) (w : Au.Nm) (fd en : Value) : Prop :=
 (g.Patterns.xs = [] ∧ fd = yy ∧ en = Ay) ∨
 (g.Patterns.xs ≠ [] ∧ g.Transforms.xs = [] ∧ en = Ay ∧ ∃ t13 t14 cur p, fd = H5 t9 t13 t14 ∧ Kp (fun x => o x = 0) h (fun h' => bB h' t13 [.pointer (some pa)] ∧ bB h' t14 [.pointer (some cur)]) ∧ Au.sr N ws h cur au w p ∧ o cur.block = 11 + 2 * i ∧ ∀ x, InA p x → o x = 11 + 2 * i) ∨
 (g.Patterns.xs ≠ [] ∧ g.Transforms.xs ≠ [] ∧ fd = yy ∧ ∃ t12 t13, en = JQ t12 t9 t13 ∧ Kp (fun x => o x = 0) h (fun h' => bB h' t12 [.pointer (some ga)] ∧ bB h' t13 [.pointer (some pa)]))
structure n8 (N : Nat) (o : Tag) (i : Nat) (h : aA) (t9 ga : Addr) (g : Gr) (pa : Addr) (w : Au.Nm) (seen : List Bool) : Prop where
 tag : o pa.block = 0
 len : seen.length = (hZ g).length
 ex : ∃ q qc fd en au sg ws, Kp (fun x => o x = 0) h (fun h' => bB h' pa [.pointer (some ga), .slice q seen.length qc, fd, en]) ∧ Row 1 bbV h q qc seen ∧ (∀ x, InA q x → o x = 10 + 2 * i) ∧ GpX N h ga g au sg ws ∧ IJ N o i h t9 ga g pa au ws w fd en
section
variable {N i : Nat} {o o' : Tag} {h h' : aA} {t9 ga : Addr} {g : Gr} {pa : Addr} {w : Au.Nm} {seen : List Bool} {S : Nat → Prop}
theorem Kp.tag {P : aA → Prop} (k : Kp (fun x => o x = 0) h P) (f : Fr S h h') (ho : Au.Old h o o') (hs : ∀ x, x < h.size → S x → o x ≠ 0) : Kp (fun x => o' x = 0) h' P :=
 k.fr f (fun x hx h0 hh => hs x hx hh h0) fun x hx h0 => by rw [ho x hx]; exact h0
theorem IJ.fr {au : Addr} {ws : List Au.Nm} {fd en : Value} (M : IJ N o i h t9 ga g pa au ws w fd en) (f : Fr S h h') (ho : Au.Old h o o') (hs : ∀ x, x < h.size → S x → o x ≠ 0 ∧ o x ≠ 11 + 2 * i) : IJ N o' i h' t9 ga g pa au ws w fd en := by
 rcases M with M | ⟨m1, m2, m3, t13, t14, cur, p, m4, k, C, c1, c2⟩ | ⟨m1, m2, m3, t12, t13, m4, k⟩
 ·exact .inl M
 ·refine .inr (.inl ⟨m1, m2, m3, t13, t14, cur, p, m4, k.tag f ho fun x hx hh => (hs x hx hh).1, C.fr f (fun hh => (hs _ C.lt hh).2 c1) (fun x hx hh => (hs _ (C.lt' hx) hh).2 (c2 x hx)), ?_, fun x hx => ?_⟩)
  ·rw [ho _ C.lt]; exact c1
  ·rw [ho _ (C.lt' hx)]; exact c2 x hx
 ·exact .inr (.inr ⟨m1, m2, m3, t12, t13, m4, k.tag f ho fun x hx hh => (hs x hx hh).1⟩)
theorem n8.fr (P : n8 N o i h t9 ga g pa w seen) (hp : pa.block < h.size) (low : ∀ x, x < N → o x = 0) (f : Fr S h h') (ho : Au.Old h o o') (hs : ∀ x, x < h.size → S x → o x ≠ 0 ∧ o x ≠ 10 + 2 * i ∧ o x ≠ 11 + 2 * i) : n8 N o' i h' t9 ga g pa w seen := by
 obtain ⟨tg, ln, q, qc, fd, en, au, sg, ws, k, R, hq, G, M⟩ := P
 refine ⟨by rw [ho _ hp]; exact tg, ln, q, qc, fd, en, au, sg, ws, k.tag f ho fun x hx hh => (hs x hx hh).1, R.fr f (fun x hx hh => (hs x (R.lt hx) hh).2.1 (hq x hx)), fun x hx => by rw [ho _ (R.lt hx)]; exact hq x hx, G.fr f (fun x hx hh => ?_), M.fr f ho fun x hx hh => ⟨(hs x hx hh).1, (hs x hx hh).2.2⟩⟩
 rcases Nat.lt_or_ge x N with hl | hl
 ·exact absurd (low x hl) (hs x hx hh).1
 ·exact hl
end
def yX (s : Addr) (f : aT) (dir : Int) (pp : Option Addr) (pn pc : Nat) (bp : Option Addr) (bn bc : Nat) (work : Int) (done : Bool) (op : Option Addr) (on oc : Nat) : List Value :=
 [.pointer (some s), .int .i64 f.Proto, .bool f.Src.V6, .int .u64 f.Src.Hi, .int .u64 f.Src.Lo, .bool f.Dst.V6, .int .u64 f.Dst.Hi, .int .u64 f.Dst.Lo, .int .i64 f.Sport, .int .i64 f.Dport, .int .i64 dir, .slice pp pn pc, .slice bp bn bc, .int .i64 work, .bool done, .slice op on oc]
def ke (g : Gr) : Bool := decide (g.Patterns.xs ≠ []) && decide (g.Transforms.xs = [])
theorem n8.feed [Gh] {N i : Nat} {o : Tag} {h : aA} {t9 ga : Addr} {g : Gr} {pa : Addr} {w : Au.Nm} (P : n8 N o i h t9 ga g pa w (iG g w)) (hp : pa.block < h.size) (low : ∀ x, x < N → o x = 0)
  {c s : Addr} {f : aT} {dir : Int} {pp : Option Addr} {pn pc : Nat} {bp : Option Addr} {bn bc : Nat} {work : Int} {done : Bool} {op : Option Addr} {on oc : Nat} (oc9 : Own h c (yX s f dir pp pn pc bp bn bc work done op on oc) iW) (tc : o c.block = 1) (k9 : Kp (fun x => o x = 0) h fun h' => bB h' t9 [.pointer (some c)])
  (x : Au.Nm) (hx : w.length + x.length ≤ 2 ^ 16) (hw : 0 ≤ work ∧ work ≤ 2 ^ 40) {Q : Value → aA → Prop} {K : aA → Prop} {fd : Value} (hfd : hcell h (pa.add 2) = some fd) (hQ : ∀ h', K h' → Q (.tuple #[]) h')
  (hk : ∀ h' o', Au.Old h o o' → Fr (fun x => o x = 1 ∨ o x = 10 + 2 * i ∨ o x = 11 + 2 * i) h h' → Own h' c (yX s f dir pp pn pc bp bn bc (work + if ke g = true then (x.length : Int) else 0) done op on oc) iW → n8 N o' i h' t9 ga g pa (w ++ x) (iG g (w ++ x)) → K h') :
  mw Tryz.prog fd #[.string (bs x)] h Q := by
 obtain ⟨tg, ln, q, qc, fd', en, au, sg, ws, k, R, hq, G, M⟩ := P
 have e := hfd.symm.trans (k.now.at (j := 2) rfl)
 simp only [Option.some.injEq] at e
 subst e
 rcases M with ⟨m1, m2, m3⟩ | ⟨m1, m2, m3, t13, t14, cur, p, m4, kc, C, c1, c2⟩ | ⟨m1, m2, m3, t12, t13, m4, kc⟩
 ·subst m2
  unfold yy
  rw [cK]
  apply oF
  unfold kW
  refine hQ _ (hk h o (Au.Old.refl _ _) (Fr.refl _ _) ?_ ?_)
  ·have : ke g = false := by unfold ke; simp [m1]
   rw [this]; simpa using oc9
  ·have e0 : hZ g = [] := by unfold hZ ptS; rw [m1]; rfl
   have e1 : ∀ w, iG g w = [] := fun w => List.length_eq_zero_iff.1 (by rw [mW, e0]; rfl)
   rw [e1] at k R ⊢
   exact ⟨tg, by rw [e0]; rfl, q, qc, yy, en, au, sg, ws, k, R, hq, G, .inl ⟨m1, rfl, m3⟩⟩
 ·subst m4
  unfold H5
  rw [cK]
  have hd : ke g = true := by unfold ke; simp [m1, m2]
  have sW : ∀ w, iG g w = uY (hZ g) w := fun w => by unfold iG; rw [if_pos m2]
  apply uv
  unfold oo
  have lc := oc9.lt
  refine aU (k9.now.at0 rfl) (aS (aB (oc9.cells.at (j := 13) rfl) (aS ?_)))
  rw [bN, wr (by omega) (by omega)]
  refine cH oc9 13 (by show 13 < 16; omega) rfl fun h1 f1 z1 o1 => ?_
  have kc1 := kc.tag f1 (Au.Old.refl _ _) fun x hx hh => by rw [hh, tc]; omega
  have C1 := C.fr f1 (fun hh => by rw [hh, tc] at c1; omega) fun x hx hh => by have := c2 x hx; rw [hh, tc] at this; omega
  have NC : N ≤ h.size := G.2.s.1
  have G1 := G.fr f1 fun x hx hh => by
   rcases Nat.lt_or_ge x N with hl | hl
   ·have := low x hl; rw [hh, tc] at this; omega
   ·exact hl
  refine aU (kc1.now.1.at0 rfl) (aU (kc1.now.2.at0 rfl) ?_)
  refine Au.Iy G1.2 C1 x (by omega) fun h2 p' r rc f2 C2 hp' Rr hr hrp => ⟨_, _, _, rfl, ?_⟩
  have z1' := f1.size
  have z2 := f2.size
  have lcur := C1.lt
  have hS2 : ∀ y, y < h.size → (y = cur.block ∨ InA p y) → o y = 11 + 2 * i := fun y hy hh => by
   rcases hh with hh | hh
   ·rw [hh]; exact c1
   ·exact c2 y hh
  have kc2 := kc1.fr (B' := fun x => o x = 0) f2 (fun y hy h0 hh => by have := hS2 y (by omega) hh; omega) fun _ _ => id
  refine ⟨aU (kc2.now.1.at0 rfl) rfl, ?_⟩
  have k1 := k.tag f1 (Au.Old.refl _ _) fun x hx hh => by rw [hh, tc]; omega
  have k2 := k1.fr (B' := fun x => o x = 0) f2 (fun y hy h0 hh => by have := hS2 y (by omega) hh; omega) fun _ _ => id
  have R1 := R.fr f1 fun y hy hh => by have := hq y hy; rw [hh, tc] at this; omega
  have lq : ∀ y, InA q y → y < h.size := fun y hy => R.lt hy
  have R2 := R1.fr f2 fun y hy hh => by have := hq y hy; have := hS2 y (lq y hy) hh; omega
  refine HK k2.now R2 (fun hh => by have := hq _ hh; omega) Rr (fun y hy hh => by have := hr y hy; have := lq y hh; omega) (fun y hy => ?_) ?_ fun h3 f3 R3 => ⟨rfl, ?_⟩
  ·rw [mW]
   exact (w9.1 (show (y.1, y.2) ∈ _ from hy)).2.2.1
  ·have := Au.wS (hZ g) (w ++ x) w.length x.length
   have hm := G.2.m
   have : x.length * (hZ g).length ≤ 2 ^ 16 * 512 := Nat.mul_le_mul (by omega) hm
   have : (Au.pT (hZ g) (w ++ x) w.length x.length).length ≤ 2 ^ 40 := by omega
   exact this
  ·refine hQ _ (hk h3 (Au.upT o h.size (11 + 2 * i)) (Au.Old.up (Nat.le_refl _)) ?_ ?_ ?_)
   ·refine ((f1.mono' fun y hy hh => .inl (by rw [hh, tc])).tr f2 fun y hy hh => .inr (.inr (hS2 y hy hh))).tr f3 fun y hy hh => .inr (.inl (hq y hh))
   ·rw [hd, if_pos rfl]
    have o3 := (o1.fr f2 fun hh => by have := hS2 _ (by omega) hh; rw [tc] at this; omega).fr f3 fun hh => by have := hq _ hh; rw [tc] at this; omega
    exact o3
   ·have e3 : uh (iG g w) (Au.pT (hZ g) (w ++ x) w.length x.length) = iG g (w ++ x) := by rw [sW, sW]; exact Be _ _ _
    have R3' : Row 1 bbV h3 q qc (iG g (w ++ x)) := by rw [← e3]; exact R3
    have up : ∀ y, y < h.size → Au.upT o h.size (11 + 2 * i) y = o y := fun y hy => Au.dY hy
    have k3 := k2.fr (B' := fun x => o x = 0) f3 (fun y hy h0 hh => by have := hq y hh; omega) fun _ _ => id
    have kc3 := kc2.fr (B' := fun x => o x = 0) f3 (fun y hy h0 hh => by have := hq y hh; omega) fun _ _ => id
    have toU : ∀ {P : aA → Prop}, Kp (fun x => o x = 0) h P → Kp (fun x => Au.upT o h.size (11 + 2 * i) x = 0) h3 P := fun kk => by
     refine ((kk.fr (B' := fun x => Au.upT o h.size (11 + 2 * i) x = 0) f1 (fun y hy h0 hh => by rw [hh, tc] at h0; omega) fun y hy h0 => by rw [up y hy]; exact h0).fr (B' := fun x => Au.upT o h.size (11 + 2 * i) x = 0) f2 (fun y hy h0 hh => ?_) fun _ _ => id).fr (B' := fun x => Au.upT o h.size (11 + 2 * i) x = 0) f3 (fun y hy h0 hh => ?_) fun _ _ => id
     ·have hy' : y < h.size := by
       rcases hh with hh | hh
       ·omega
       ·have := C.lt' hh; omega
      have := hS2 y hy' hh; rw [up y hy'] at h0; omega
     ·have := hq y hh; have := lq y hh; rw [up y this] at h0; omega
    refine ⟨by rw [up _ hp]; exact tg, mW _ _, q, qc, _, _, au, sg, ws, ?_, R3', fun y hy => by rw [up y (lq y hy)]; exact hq y hy, ?_, .inr (.inl ⟨m1, m2, m3, t13, t14, cur, p', rfl, toU kc, ?_, ?_, fun y hy => ?_⟩)⟩
    ·have := toU k
     rw [mW] at this ⊢
     exact this
    ·refine (G1.fr f2 fun y hy hh => ?_).fr f3 fun y hy hh => ?_
     ·exact C1.ge hh
     ·rcases Nat.lt_or_ge y N with hl | hl
      ·have := low y hl; have := hq y hh; omega
      ·exact hl
    ·exact C2.fr f3 (fun hh => by have := hq _ hh; omega) fun y hy hh => by
      have h5 := hq y hh
      rcases hp' y hy with h6 | h6
      ·have := c2 y h6; omega
      ·have := lq y hh; omega
    ·rw [up _ (by omega)]; exact c1
    ·rcases hp' y hy with h6 | h6
     ·rw [up y (by have := C.lt' h6; omega)]; exact c2 y h6
     ·exact Au.ka (by omega)
 ·subst m3
  unfold yy
  rw [cK]
  apply oF
  unfold kW
  refine hQ _ (hk h o (Au.Old.refl _ _) (Fr.refl _ _) ?_ ?_)
  ·have : ke g = false := by unfold ke; simp [m2]
   rw [this]; simpa using oc9
  ·have e1 : iG g (w ++ x) = iG g w := by unfold iG; rw [if_neg m2, if_neg m2]
   rw [e1]
   exact ⟨tg, ln, q, qc, yy, en, au, sg, ws, k, R, hq, G, .inr (.inr ⟨m1, m2, rfl, t12, t13, m4, kc⟩)⟩
end Go.Proofs.YtjmfpeiidlpngaaGreatDoor
namespace Go.Proofs.YtjmfpeiidlpngaaGreatDoor
set_option linter.unusedSimpArgs false
set_option linter.unusedVariables false
set_option maxRecDepth 20000
open Go
open Go.IntKind (wrap)
theorem LJ {h : aA} {a : Addr} {v : Value} (hv : hcell h a = some v) : a.block < h.size := by
 rcases Nat.lt_or_ge a.block h.size with hb | hb
 ·exact hb
 ·unfold hcell at hv; rw [Array.getElem?_eq_none hb] at hv; cases hv
section
variable {N i : Nat} {o o' : Tag} {h h' : aA} {s c t9 ga : Addr} {g : Gr} {pa : Addr} {w : Au.Nm} {seen : List Bool} {S : Nat → Prop}
theorem n8.lt (P : n8 N o i h t9 ga g pa w seen) : pa.block < h.size := by
 obtain ⟨tg, ln, q, qc, fd, en, au, sg, ws, k, _⟩ := P
 exact LJ (k.now.at0 rfl)
end
structure ly (N : Nat) (F : Nat → Prop) (o : Tag) (h : aA) (s c t9 : Addr) (bs : List Bd) (gs K : List Gr) (av pa : List Addr) (tx : Nat → Au.Nm) (sn : Nat → Gr → List Bool) : Prop where
 low : ∀ x, x < N → o x = 0
 fp : ∀ x, x < h.size → N ≤ x → o x ≠ 9 → F x
 set : wx N h s bs gs
 k9 : Kp (fun x => o x = 0) h fun h' => bB h' t9 [.pointer (some c)]
 la : av.length = K.length
 lp : pa.length = K.length
 part : ∀ i (h1 : i < K.length) (h2 : i < av.length) (h3 : i < pa.length), n8 N o i h t9 av[i] K[i] pa[i] (tx i) (sn i K[i])
def ug (o : Tag) (h : aA) (s c : Addr) (f : aT) (dir : Int) (L : List Addr) (buf : Au.Nm) (work : Int) (done : Bool) (out : List Int) : Prop :=
 o c.block = 1 ∧ ∃ pp pc bp bc op oc, Own h c (yX s f dir pp L.length pc bp buf.length bc work done op out.length oc) iW ∧ Row 1 adV h pp pc L ∧ (∀ x, InA pp x → o x = 4) ∧ Row 1 Au.bV h bp bc buf ∧ (∀ x, InA bp x → o x = 2) ∧ Row 1 Au.na h op oc out ∧ ∀ x, InA op x → o x = 3
def BL (o : Tag) (h : aA) (t9 : Addr) (kp : Option Addr) : Prop := ∀ a, kp = some a → ∃ t90, Kp (fun x => o x = 0) h fun h' => bB h' a [.pointer (some t90), .slice none 0 0, HT t9, Ku] ∧ bB h' t90 [.int .i64 0, .slice none 0 0, .slice none 0 0, .slice none 0 0, .slice none 0 0, .pointer none]
section
variable {N : Nat} {F : Nat → Prop} {o o' : Tag} {h h' : aA} {s c t9 : Addr} {f : aT} {dir : Int} {bs : List Bd} {gs K : List Gr} {av pa L : List Addr} {tx : Nat → Au.Nm} {sn : Nat → Gr → List Bool} {S : Nat → Prop} {buf : Au.Nm} {work : Int} {done : Bool} {out : List Int} {kp : Option Addr}
theorem ly.fr (R : ly N F o h s c t9 bs gs K av pa tx sn) (f : Fr S h h') (ho : Au.Old h o o') (hs : ∀ x, x < h.size → S x → o x ≠ 0 ∧ o x < 10) {F' : Nat → Prop} (hF : ∀ x, x < h'.size → N ≤ x → o' x ≠ 9 → F' x) (hF0 : h.size ≤ h'.size := by omega) : ly N F' o' h' s c t9 bs gs K av pa tx sn := by
 have hN := R.set.1
 refine ⟨fun x hx => by rw [ho x (by omega)]; exact R.low x hx, hF, R.set.fr f fun x hx hh => ?_, R.k9.tag f ho fun x hx hh => (hs x hx hh).1, R.la, R.lp, fun i h1 h2 h3 => ?_⟩
 ·rcases Nat.lt_or_ge x N with hl | hl
  ·exact absurd (R.low x hl) (hs x hx hh).1
  ·exact hl
 ·have P := R.part i h1 h2 h3
  exact P.fr P.lt R.low f ho fun x hx hh => by have := hs x hx hh; omega
theorem ug.fr (C : ug o h s c f dir L buf work done out) (f' : Fr S h h') (ho : Au.Old h o o') (hs : ∀ x, x < h.size → S x → o x = 0 ∨ o x = 9 ∨ 10 ≤ o x) : ug o' h' s c f dir L buf work done out := by
 obtain ⟨tg, pp, pc, bp, bc, op, oc, ow, R1, t1, R2, t2, R3, t3⟩ := C
 refine ⟨by rw [ho _ ow.lt]; exact tg, pp, pc, bp, bc, op, oc, ow.fr f' (fun hh => by have := hs _ ow.lt hh; omega), R1.fr f' (fun x hx hh => by have := hs _ (R1.lt hx) hh; have := t1 x hx; omega), fun x hx => by rw [ho _ (R1.lt hx)]; exact t1 x hx,
  R2.fr f' (fun x hx hh => by have := hs _ (R2.lt hx) hh; have := t2 x hx; omega), fun x hx => by rw [ho _ (R2.lt hx)]; exact t2 x hx, R3.fr f' (fun x hx hh => by have := hs _ (R3.lt hx) hh; have := t3 x hx; omega), fun x hx => by rw [ho _ (R3.lt hx)]; exact t3 x hx⟩
theorem BL.fr (k : BL o h t9 kp) (f : Fr S h h') (ho : Au.Old h o o') (hs : ∀ x, x < h.size → S x → o x ≠ 0) : BL o' h' t9 kp := fun a e => by
 obtain ⟨t90, kk⟩ := k a e
 exact ⟨t90, kk.tag f ho hs⟩
end
def qX (K : List Gr) : Bool := K.any fun g => decide (g.Patterns.xs ≠ []) && decide (g.Transforms.xs ≠ [])
theorem Fv : gW Tryz.prog dZ gA Tryz.t101 (.pointer none) := ⟨Tryz.underlying97, by kernel_rfl, by kernel_rfl, by kernel_rfl, by decide +kernel⟩
theorem Fn : gW Tryz.prog sE EF Tryz.t4 (.bool false) := ⟨Tryz.underlying102, by kernel_rfl, by kernel_rfl, by kernel_rfl, by decide +kernel⟩
def sn0 (w : Au.Nm) : Nat → Gr → List Bool := fun _ g => iG g w
theorem r3 {h : aA} {a : Addr} {vs ws : List Value} (c : bB h a (vs ++ ws)) : bB h a vs := fun j hj => by
 have := c j (by rw [List.length_append]; omega)
 rw [this, List.getElem_append_left hj]
structure Hk (hs h : aA) (ga pa t12 t13 : Addr) (q : Option Addr) (n qc : Nat) : Prop where
 o12 : Own h t12 [.pointer (some ga)] fD
 op : Own h pa [.pointer (some ga), .slice q n qc, yy, Ay] j0
 o13 : Own h t13 [.pointer (some pa)] gA
 row : Row 1 bbV h q qc (List.replicate n false)
 ge : hs.size ≤ t12.block ∧ hs.size ≤ pa.block ∧ hs.size ≤ t13.block
 ne : t12.block ≠ pa.block ∧ t12.block ≠ t13.block ∧ pa.block ≠ t13.block
 qn : ∀ x, InA q x → hs.size ≤ x ∧ x ≠ t12.block ∧ x ≠ pa.block ∧ x ≠ t13.block
theorem Hk.fr {hs h h' : aA} {ga pa t12 t13 : Addr} {q : Option Addr} {n qc : Nat} {S : Nat → Prop} (T : Hk hs h ga pa t12 t13 q n qc) (f : Fr S h h') (hS : ∀ x, S x → x < hs.size) : Hk hs h' ga pa t12 t13 q n qc := by
 have hn : ∀ x, hs.size ≤ x → ¬ S x := fun x hx hh => by have := hS x hh; omega
 exact ⟨T.o12.fr f (hn _ T.ge.1), T.op.fr f (hn _ T.ge.2.1), T.o13.fr f (hn _ T.ge.2.2), T.row.fr f fun x hx => hn x (T.qn x hx).1, T.ge, T.ne, T.qn⟩
open Classical in
noncomputable def tM (hs : aA) (o : Tag) (k : Nat) (A B C : Nat → Prop) : Tag := fun x => if x < hs.size then o x else if A x then 10 + 2 * k else if B x then 4 else if C x then 11 + 2 * k else 0
section
variable {hs : aA} {o : Tag} {k : Nat} {A B C : Nat → Prop} {x : Nat}
theorem nk (h : x < hs.size) : tM hs o k A B C x = o x := if_pos h
theorem Ki (h : hs.size ≤ x) (a : A x) : tM hs o k A B C x = 10 + 2 * k := by unfold tM; rw [if_neg (by omega), if_pos a]
theorem Hb (h : hs.size ≤ x) (a : ¬ A x) (b : B x) : tM hs o k A B C x = 4 := by unfold tM; rw [if_neg (by omega), if_neg a, if_pos b]
theorem Kk (h : hs.size ≤ x) (a : ¬ A x) (b : ¬ B x) (c : C x) : tM hs o k A B C x = 11 + 2 * k := by unfold tM; rw [if_neg (by omega), if_neg a, if_neg b, if_pos c]
theorem vc (h : hs.size ≤ x) (a : ¬ A x) (b : ¬ B x) (c : ¬ C x) : tM hs o k A B C x = 0 := by unfold tM; rw [if_neg (by omega), if_neg a, if_neg b, if_neg c]
theorem C4 : Au.Old hs o (tM hs o k A B C) := fun x hx => nk hx
end
theorem sX {o : Tag} {h : aA} {a : Addr} {vs : List Value} {T : TypeId} (w : Own h a vs T) (ho : o a.block = 0) : Kp (fun x => o x = 0) h fun h' => bB h' a vs := fun h' f => (w.fr f fun hh => hh ho).cells
theorem ly.snoc {N : Nat} {F : Nat → Prop} {o : Tag} {h : aA} {s c t9 : Addr} {bs : List Bd} {gs K : List Gr} {av pa : List Addr} {tx : Nat → Au.Nm} {sn : Nat → Gr → List Bool} (R : ly N F o h s c t9 bs gs K av pa tx sn) {ga p : Addr} {g : Gr}
  (P : n8 N o K.length h t9 ga g p (tx K.length) (sn K.length g)) : ly N F o h s c t9 bs gs (K ++ [g]) (av ++ [ga]) (pa ++ [p]) tx sn := by
 have la := R.la
 have lp := R.lp
 refine ⟨R.low, R.fp, R.set, R.k9, by simp [la], by simp [lp], fun i h1 h2 h3 => ?_⟩
 rw [List.length_append, List.length_singleton] at h1
 by_cases hi : i < K.length
 ·rw [List.getElem_append_left hi, List.getElem_append_left (by omega), List.getElem_append_left (by omega)]
  exact R.part i hi (by omega) (by omega)
 ·have : i = K.length := by omega
  subst this
  have e1 : (K ++ [g])[K.length] = g := by simp
  have e2 : (av ++ [ga])[K.length]'h2 = ga := by rw [List.getElem_append_right (by omega)]; simp
  have e3 : (pa ++ [p])[K.length]'h3 = p := by rw [List.getElem_append_right (by omega)]; simp
  rw [e1, e2, e3]; exact P
end Go.Proofs.YtjmfpeiidlpngaaGreatDoor
namespace Go.Proofs.YtjmfpeiidlpngaaGreatDoor
set_option linter.unusedSimpArgs false
set_option linter.unusedVariables false
set_option maxRecDepth 20000
open Go
open Go.IntKind (wrap)
set_option maxHeartbeats 1000000 in
theorem Hz [Gh] {N k : Nat} {o : Tag} {h0 hs h : aA} {s c t9 : Addr} {bs : List Bd} {gs K : List Gr} {av pa : List Addr} {f : aT} {dir : Int}
  (hN : N ≤ h0.size) (R : ly N (fun x => h0.size ≤ x) o hs s c t9 bs gs K av pa (fun _ => []) (sn0 [])) (C : ug o hs s c f dir pa [] 0 false []) (f0 : Fr (fun _ => False) h0 hs) (hK : K.length = k) (hkl : k ≤ 40)
  {g : Gr} {ga pk t12 t13 : Addr} {q : Option Addr} {qc : Nat} (T : Hk hs h ga pk t12 t13 q (hZ g).length qc) (fs : Fr (fun _ => False) hs h) {au : Addr} {sg : List Au.St} {ws : List Au.Nm} (G : GpX N hs ga g au sg ws)
  {keep : Bool} {pga : Option Addr} {pgn pgc : Nat} {t28 : Int} {Q : Value → aA → Prop} {Kn1 : Bool × Int → aA → Prop}
  (hk : ∀ keep' pa' h' o', keep' = (keep || (decide (g.Patterns.xs ≠ []) && decide (g.Transforms.xs ≠ []))) → Fr (fun _ => False) h0 h' → ly N (fun x => h0.size ≤ x) o' h' s c t9 bs gs (K ++ [g]) (av ++ [ga]) pa' (fun _ => []) (sn0 []) → ug o' h' s c f dir pa' [] 0 false [] → Kn1 (keep', (k : Int) + 1) h') :
  cW t9 keep t12 t13 pga pgn pgc t28 (k : Int) Q Kn1 h := by
 unfold cW
 have lp := R.lp
 obtain ⟨tg, pp, pc, bp, bc, op, oc, ow, R1, t1, R2, t2, R3, t3⟩ := C
 have lc := ow.lt
 have cge : h0.size ≤ c.block := by
  refine R.fp _ lc ?_ (by rw [tg]; omega)
  rcases Nat.lt_or_ge c.block N with hl | hl
  ·have := R.low _ hl; omega
  ·exact hl
 have ppge : ∀ x, InA pp x → h0.size ≤ x := fun x hx => by
  refine R.fp _ (R1.lt hx) ?_ (by rw [t1 x hx]; omega)
  rcases Nat.lt_or_ge x N with hl | hl
  ·have := R.low _ hl; have := t1 x hx; omega
  ·exact hl
 have zf0 := f0.size
 have zs := fs.size
 have k9 := R.k9.fr0 fs
 have ow1 := ow.fr0 fs
 refine aU (k9.now.at0 rfl) (aU (k9.now.at0 rfl) (aS (aD (ow1.cells.at (j := 11) rfl) (aU (T.o13.cells.at0 rfl) ?_))))
 refine bA (vs := adV pk) fun t49 h19 f19 e19 o49 => ?_
 have z19 := f19.size
 have k19 := k9.fr0 f19
 have ow19 := ow1.fr0 f19
 refine ⟨aU (k19.now.at0 rfl) rfl, aU (k19.now.at0 rfl) rfl, aD (ow19.cells.at (j := 11) rfl) rfl, ?_⟩
 refine ((R1.fr0 fs).fr0 f19).app Fv Tryz.underlying97 (by intro k e; cases e) (by kernel_rfl) (by decide +kernel) vj zt o49 1 (by omega) fun pp' pc' h20 R1' f20 hn20 => ⟨_, _, _, rfl, ?_⟩
 have z20 := f20.size
 have k20 := k19.fr (B' := fun x => o x = 0) f20 (fun x hx h1 hh => by have := t1 x hh; omega) fun _ _ => id
 refine ⟨aU (k20.now.at0 rfl) rfl, aS ?_⟩
 have ow20 := ow19.fr f20 fun hh => by have := t1 _ hh; omega
 refine cH ow20 11 (by show 11 < 16; omega) rfl fun h21 f21 z21 ow21 => ?_
 have k21 := k20.fr (B' := fun x => o x = 0) f21 (fun x hx h1 hh => by rw [hh] at h1; omega) fun _ _ => id
 have lpp : ∀ x, InA pp x → x < hs.size := fun x hx => R1.lt hx
 have T19 := T.fr f19 fun x hh => hh.elim
 have T20 := T19.fr f20 lpp
 have T21 := T20.fr f21 fun x hh => by omega
 have F21 : Fr (fun x => InA pp x ∨ x = c.block) hs h21 := (((fs.trans f19).mono fun _ => False.elim).trans (f20.mono fun _ => .inl)).trans (f21.mono fun _ => .inr)
 have G21 := G.fr F21 fun x hx hh => by
  rcases Nat.lt_or_ge x N with hl | hl
  ·have := R.low x hl
   rcases hh with hh | hh
   ·have := t1 x hh; omega
   ·rw [hh, tg] at this; omega
  ·exact hl
 have gc := r3 G21.1.now.1
 have gok := G21.1.now.2
 have npp' : ∀ x, InA pp' x → InA pp x ∨ h19.size ≤ x := hn20
 have nq' : ∀ x, InA q x → ¬ InA pp' x := fun x hx hh => by
  have h1 := T19.row.lt hx
  have h2 := (T.qn x hx).1
  rcases hn20 x hh with h | h
  ·have := lpp x h; omega
  ·omega
 have own' : ∀ {a : Addr}, hs.size ≤ a.block → a.block < h19.size → ¬ InA pp' a.block := fun {a} h1 h2 hh => by
  rcases hn20 _ hh with h | h
  ·have := lpp _ h; omega
  ·omega
 have l12 := T19.o12.lt
 have lpk := T19.op.lt
 have l13 := T19.o13.lt
 have fin : ∀ h' (Cu : Nat → Prop) (fd en : Value) (pp2 : Option Addr) (pc2 : Nat), (∀ x, Cu x → h21.size ≤ x) → ∀ {S : Nat → Prop}, Fr S h21 h' → (∀ x, S x → x = pk.block ∨ h21.size ≤ x) →
   Own h' pk [.pointer (some ga), .slice q (hZ g).length qc, fd, en] j0 → IJ N (tM hs o k (InA q) (InA pp') Cu) k h' t9 ga g pk au ws [] fd en →
   Fr (fun _ => False) h0 h' ∧ ly N (fun x => h0.size ≤ x) (tM hs o k (InA q) (InA pp') Cu) h' s c t9 bs gs (K ++ [g]) (av ++ [ga]) (pa ++ [pk]) (fun _ => []) (sn0 []) ∧ ug (tM hs o k (InA q) (InA pp') Cu) h' s c f dir (pa ++ [pk]) [] 0 false [] := by
  intro h' Cu fd en pp2 pc2 hCu S fS hS oP M
  have zS := fS.size
  have Ftot : Fr (fun x => InA pp x ∨ x = c.block) hs h' := F21.tr fS fun x hx hh => by
   have := T.ge.2.1
   rcases hS x hh with h | h
   ·omega
   ·omega
  have nS : ∀ x, x < h21.size → x ≠ pk.block → ¬ S x := fun x hx hne hh => by
   rcases hS x hh with h | h
   ·exact hne h
   ·omega
  have tpp : ∀ x, InA pp' x → tM hs o k (InA q) (InA pp') Cu x = 4 := fun x hx => by
   rcases Nat.lt_or_ge x hs.size with hl | hl
   ·rw [nk hl]
    rcases hn20 x hx with h | h
    ·exact t1 x h
    ·omega
   ·exact Hb hl (fun hh => nq' x hh hx) hx
  have Rr : ly N (fun x => h0.size ≤ x) (tM hs o k (InA q) (InA pp') Cu) h' s c t9 bs gs K av pa (fun _ => []) (sn0 []) := by
   refine R.fr Ftot C4 (fun x hx hh => ?_) (fun x hx hN' hne => ?_) Ftot.size
   ·rcases hh with hh | hh
    ·have := t1 x hh; omega
    ·rw [hh, tg]; omega
   ·rcases Nat.lt_or_ge x hs.size with hl | hl
    ·exact R.fp x hl hN' (by rw [nk hl] at hne; exact hne)
    ·show h0.size ≤ x; omega
  refine ⟨f0.tr Ftot fun x hx hh => ?_, Rr.snoc ⟨?_, ?_, q, qc, fd, en, au, sg, ws, ?_, ?_, fun x hx => ?_, ?_, ?_⟩, ?_, pp', pc', bp, bc, op, oc, ?_, ?_, tpp, ?_, fun x hx => ?_, ?_, fun x hx => ?_⟩
  ·rcases hh with hh | hh
   ·have := ppge x hh; omega
   ·omega
  ·exact vc T.ge.2.1 (fun hh => (T.qn _ hh).2.2.1 rfl) (own' T.ge.2.1 lpk) fun hh => by have := hCu _ hh; omega
  ·exact mW _ _
  ·have := sX (o := tM hs o k (InA q) (InA pp') Cu) oP (vc T.ge.2.1 (fun hh => (T.qn _ hh).2.2.1 rfl) (own' T.ge.2.1 lpk) fun hh => by have := hCu _ hh; omega)
   rw [← mW g []] at this
   exact this
  ·have e : iG g [] = List.replicate (hZ g).length false := by
    unfold iG; split
    ·exact Br _
    ·rfl
   show Row 1 bbV h' q qc (iG g [])
   rw [e]
   refine T21.row.fr fS fun x hx => nS x ?_ ?_
   ·exact T21.row.lt hx
   ·exact (T.qn x hx).2.2.1
  ·rw [hK]; exact Ki (T.qn x hx).1 hx
  ·exact G21.fr fS fun x hx hh => by
    rcases hS x hh with h | h
    ·have := T.ge.2.1; omega
    ·have := G.2.s.1; omega
  ·rw [hK]; exact M
  ·rw [nk lc]; exact tg
  ·have := ow21.fr fS (nS _ (by omega) (by have := T.ge.2.1; omega))
   exact this
  ·exact (R1'.fr f21 fun x hx hh => by
    rcases hn20 x hx with h | h
    ·have := t1 x h; rw [hh, tg] at this; omega
    ·omega).fr fS fun x hx => nS x (by have := R1'.lt hx; omega) fun e => by
     rcases hn20 x hx with h | h
     ·have := lpp x h; have := T.ge.2.1; omega
     ·omega
  ·exact R2.fr Ftot fun x hx hh => by
    have := t2 x hx
    rcases hh with hh | hh
    ·have := t1 x hh; omega
    ·rw [hh, tg] at this; omega
  ·rw [nk (R2.lt hx)]; exact t2 x hx
  ·exact R3.fr Ftot fun x hx hh => by
    have := t3 x hx
    rcases hh with hh | hh
    ·have := t1 x hh; omega
    ·rw [hh, tg] at this; omega
  ·rw [nk (R3.lt hx)]; exact t3 x hx
 have plen : (hZ g).length = g.Patterns.xs.length := qu g
 refine aU (T21.o12.cells.at0 rfl) (aS (aD (gc.at (j := 2) rfl) ?_))
 rw [wr (by omega) (by omega)]
 refine ifE (fun e => ?_) fun e => ?_
 ·have e0 : g.Patterns.xs = [] := List.length_eq_zero_iff.1 (by omega)
  obtain ⟨a1, a2, a3⟩ := fin h21 (fun _ => False) yy Ay none 0 (fun _ hh => hh.elim) (Fr.refl (fun _ => False) _) (fun _ hh => hh.elim) T21.op (.inl ⟨e0, rfl, rfl⟩)
  exact hk _ _ h21 _ (by simp [e0]) a1 a2 a3
 have hne : g.Patterns.xs ≠ [] := fun e2 => e (by rw [e2]; rfl)
 refine aU (T21.o12.cells.at0 rfl) (aS (aD (gc.at (j := 1) rfl) ?_))
 refine ifE (fun e2 => ?_) fun e2 => ?_
 ·have e0 : g.Transforms.xs = [] := List.length_eq_zero_iff.1 (by omega)
  refine aU (T21.o12.cells.at0 rfl) (aS (aU (G21.1.now.1.at (j := 5) rfl) ?_))
  refine Au.wY G21.2 fun cur h22 f22 hcur C22 => ⟨_, rfl, ?_⟩
  have z22 := f22.size
  refine bA (vs := [.pointer none]) fun t14 h23 f23 e23 o14 => ?_
  have z23 := f23.size
  have lcur := C22.lt
  refine kG o14 (by show 0 < 1; omega) rfl fun h24 f24 z24 o14' => ?_
  have T24 := ((T21.fr f22 fun x hh => hh.elim).fr f23 fun x hh => hh.elim)
  have o13' := T24.o13.fr f24 (by omega)
  have op' := T24.op.fr f24 (by omega)
  refine aU (o13'.cells.at0 rfl) (aS ?_)
  refine cH op' 2 (by show 2 < 4; omega) rfl fun h25 f25 z25 op25 => ?_
  have z24' := f24.size; have z25' := f25.size
  have F25 : Fr (fun x => x = pk.block ∨ h21.size ≤ x) h21 h25 := ((f22.mono fun _ => False.elim).trans (f23.mono fun _ => False.elim)).trans ((f24.mono fun x hh => .inr (by omega)).trans (f25.mono fun x hh => .inl hh))
  have o13'' := o13'.fr f25 fun hh => T.ne.2.2 hh.symm
  have o14'' := o14'.fr f25 (by omega)
  have t0 : ∀ x, hs.size ≤ x → x < h19.size → ¬ InA q x → tM hs o k (InA q) (InA pp') (fun x => x = cur.block) x = 0 := fun x h1 h2 h3 => vc h1 h3 (fun hh => by
   rcases hn20 _ hh with h | h
   ·have := lpp _ h; omega
   ·omega) (by omega)
  obtain ⟨a1, a2, a3⟩ := fin h25 (fun x => x = cur.block) (H5 t9 t13 t14) Ay none 0 (fun x hh => by omega) F25 (fun x hh => hh) op25 (.inr (.inl ⟨hne, e0, rfl, t13, t14, cur, none, rfl, (sX o13'' (t0 _ T.ge.2.2 l13 fun hh => (T.qn _ hh).2.2.2 rfl)).and (sX o14'' (vc (by omega) (fun hh => by have := T21.row.lt hh; omega) (fun hh => by have := R1'.lt hh; omega) (by omega))),
   ((C22.fr0 f23).fr f24 (by omega) fun x hx => (dJ hx).elim).fr f25 (by omega) (fun x hx => (dJ hx).elim), Kk (by omega) (fun hh => by have := T21.row.lt hh; omega) (fun hh => by have := R1'.lt hh; omega) rfl, fun x hx => (dJ hx).elim⟩))
  exact hk _ _ h25 _ (by simp [e0]) a1 a2 a3
 ·have e0 : g.Transforms.xs ≠ [] := fun e3 => e2 (by rw [e3]; rfl)
  refine aU (T21.o13.cells.at0 rfl) (aS ?_)
  refine cH T21.op 3 (by show 3 < 4; omega) rfl fun h26 f26 z26 op26 => ?_
  have o13' := T21.o13.fr f26 fun hh => T.ne.2.2 hh.symm
  have o12' := T21.o12.fr f26 fun hh => T.ne.1 hh
  obtain ⟨a1, a2, a3⟩ := fin h26 (fun _ => False) yy (JQ t12 t9 t13) none 0 (fun x hh => hh.elim) f26 (fun x hh => .inl hh) op26 (.inr (.inr ⟨hne, e0, rfl, t12, t13, rfl, (sX o12' (vc T.ge.1 (fun hh => (T.qn _ hh).2.1 rfl) (own' T.ge.1 l12) id)).and (sX o13' (vc T.ge.2.2 (fun hh => (T.qn _ hh).2.2.2 rfl) (own' T.ge.2.2 l13) id))⟩))
  exact hk _ _ h26 _ (by simp [hne, e0]) a1 a2 a3
end Go.Proofs.YtjmfpeiidlpngaaGreatDoor
namespace Go.Proofs.YtjmfpeiidlpngaaGreatDoor
set_option linter.unusedSimpArgs false
set_option linter.unusedVariables false
set_option maxRecDepth 20000
open Go
open Go.IntKind (wrap)
def uO (N : Nat) (F : Nat → Prop) (h : aA) (s c : Addr) (f : aT) (dir : Int) (bs : List Bd) (gs K : List Gr) (w : Au.Nm) (work : Int) (done : Bool) (out : List Int) : Prop :=
 ∃ (o : Tag) (t9 : Addr) (av pa : List Addr) (kp : Option Addr), ly N F o h s c t9 bs gs K av pa (fun _ => w) (sn0 w) ∧ ug o h s c f dir (pa ++ kp.toList) (if qX K = true then w else []) work done out ∧ BL o h t9 kp ∧ kp.isSome = qX K
theorem D6 (K : List Gr) (g : Gr) : qX (K ++ [g]) = (qX K || (decide (g.Patterns.xs ≠ []) && decide (g.Transforms.xs ≠ []))) := by
 unfold qX; rw [List.any_append]; simp
theorem H0 [Gh] {N : Nat} {o : Tag} {h0 h : aA} {s c t9 : Addr} {bs : List Bd} {gs K : List Gr} {av pa : List Addr} {f : aT} {dir : Int}
  (hN : N ≤ h0.size) (R : ly N (fun x => h0.size ≤ x) o h s c t9 bs gs K av pa (fun _ => []) (sn0 [])) (C : ug o h s c f dir pa [] 0 false []) (f0 : Fr (fun _ => False) h0 h) (hkl : K.length ≤ 40)
  {Q : Value → aA → Prop} (hk : ∀ h', Fr (fun _ => False) h0 h' → uO N (fun x => h0.size ≤ x) h' s c f dir bs gs K [] 0 false [] → h0.size ≤ c.block → Q (.pointer (some c)) h') :
  jo t9 (qX K) Q h := by
 unfold jo
 have lp := R.lp
 have C0 := C
 obtain ⟨tg, pp, pc, bp, bc, op, oc, ow, R1, t1, R2, t2, R3, t3⟩ := C
 have lc := ow.lt
 have cge : h0.size ≤ c.block := by
  refine R.fp _ lc ?_ (by rw [tg]; omega)
  rcases Nat.lt_or_ge c.block N with hl | hl
  ·have := R.low _ hl; omega
  ·exact hl
 have ppge : ∀ x, InA pp x → h0.size ≤ x := fun x hx => by
  refine R.fp _ (R1.lt hx) ?_ (by rw [t1 x hx]; omega)
  rcases Nat.lt_or_ge x N with hl | hl
  ·have := R.low _ hl; have := t1 x hx; omega
  ·exact hl
 have k9 := R.k9
 refine ifB (fun e => ?_) fun e => ?_
 ·refine aU (k9.now.at0 rfl) (aU (k9.now.at0 rfl) (aS (aD (ow.cells.at (j := 11) rfl) ?_)))
  refine bA (vs := [.int .i64 0, .slice none 0 0, .slice none 0 0, .slice none 0 0, .slice none 0 0, .pointer none]) fun t90 h1 f1 e1 o90 => ?_
  have k91 := k9.fr0 f1
  have ow1 := ow.fr0 f1
  refine ⟨aU (k91.now.at0 rfl) rfl, aU (k91.now.at0 rfl) rfl, aD (ow1.cells.at (j := 11) rfl) rfl, ?_⟩
  refine bA (vs := [.pointer (some t90), .slice none 0 0, HT t9, Ku]) fun t93 h2 f2 e2 o93 => ?_
  have k92 := k91.fr0 f2
  have ow2 := ow1.fr0 f2
  refine ⟨aU (k92.now.at0 rfl) rfl, aU (k92.now.at0 rfl) rfl, aD (ow2.cells.at (j := 11) rfl) rfl, ?_⟩
  refine bA (vs := adV t93) fun t94 h3 f3 e3 o94 => ?_
  have k93 := k92.fr0 f3
  have ow3 := ow2.fr0 f3
  have z1 := f1.size; have z2 := f2.size; have z3 := f3.size
  refine ⟨aU (k93.now.at0 rfl) rfl, aU (k93.now.at0 rfl) rfl, aD (ow3.cells.at (j := 11) rfl) rfl, ?_⟩
  have F3 := (f1.trans f2).trans f3
  refine (R1.fr0 F3).app Fv Tryz.underlying97 (by intro k e; cases e) (by kernel_rfl) (by decide +kernel) vj zt o94 1 (by omega) fun pp' pc' h4 R1' f4 hn4 => ⟨_, _, _, rfl, ?_⟩
  have z4 := f4.size
  have k94 := k93.fr (B' := fun x => o x = 0) f4 (fun x hx h1 hh => by have := t1 x hh; omega) fun _ _ => id
  refine ⟨aU (k94.now.at0 rfl) rfl, aS ?_⟩
  have ow4 := ow3.fr f4 fun hh => by have := t1 _ hh; omega
  refine cH ow4 11 (by show 11 < 16; omega) rfl fun h5 f5 z5 ow5 => ?_
  have k95 := k94.fr (B' := fun x => o x = 0) f5 (fun x hx h1 hh => by rw [hh] at h1; omega) fun _ _ => id
  refine aU (k95.now.at0 rfl) ?_
  have z5' := f5.size
  have lpp : ∀ x, InA pp x → x < h.size := fun x hx => R1.lt hx
  have l90 := o90.lt; have l93 := o93.lt; have l94 := o94.lt
  have Ft : Fr (fun x => InA pp x ∨ x = c.block) h h5 := ((F3.mono fun _ => False.elim).trans (f4.mono fun _ => .inl)).trans (f5.mono fun _ => .inr)
  have own' : ∀ x, h.size ≤ x → x < h3.size → ¬ InA pp' x := fun x h1 h2 hh => by
   rcases hn4 _ hh with h | h
   ·have := lpp _ h; omega
   ·omega
  have nF : ∀ x, ¬ (fun _ : Nat => False) x := fun _ => id
  have o90' := ((o90.fr0 f2).fr0 f3).fr f4 (fun hh => by have := lpp _ hh; omega) |>.fr f5 (by omega)
  have o93' := (o93.fr0 f3).fr f4 (fun hh => by have := lpp _ hh; omega) |>.fr f5 (by omega)
  have tpp : ∀ x, InA pp' x → tM h o 0 (fun _ => False) (InA pp') (fun _ => False) x = 4 := fun x hx => by
   rcases Nat.lt_or_ge x h.size with hl | hl
   ·rw [nk hl]
    rcases hn4 x hx with h | h
    ·exact t1 x h
    ·omega
   ·exact Hb hl id hx
  refine hk h5 (f0.tr Ft fun x hx hh => ?_) ⟨tM h o 0 (fun _ => False) (InA pp') (fun _ => False), t9, av, pa, some t93, R.fr Ft C4 (fun x hx hh => ?_) (fun x hx hN' hne => ?_) Ft.size, ⟨?_, pp', pc', bp, bc, op, oc, ?_, ?_, tpp, ?_, fun x hx => ?_, ?_, fun x hx => ?_⟩, fun a ea => ?_, by rw [e]; rfl⟩ cge
  ·rcases hh with hh | hh
   ·have := ppge x hh; omega
   ·omega
  ·rcases hh with hh | hh
   ·have := t1 x hh; omega
   ·rw [hh, tg]; omega
  ·rcases Nat.lt_or_ge x h.size with hl | hl
   ·exact R.fp x hl hN' (by rw [nk hl] at hne; exact hne)
   ·have := f0.size; show h0.size ≤ x; omega
  ·rw [nk lc]; exact tg
  ·rw [ite_self]; exact ow5
  ·exact R1'.fr f5 fun x hx hh => by
    rcases hn4 x hx with h | h
    ·have := t1 x h; rw [hh, tg] at this; omega
    ·omega
  ·rw [ite_self]
   exact R2.fr Ft fun x hx hh => by
    have := t2 x hx
    rcases hh with hh | hh
    ·have := t1 x hh; omega
    ·rw [hh, tg] at this; omega
  ·rw [nk (R2.lt hx)]; exact t2 x hx
  ·exact R3.fr Ft fun x hx hh => by
    have := t3 x hx
    rcases hh with hh | hh
    ·have := t1 x hh; omega
    ·rw [hh, tg] at this; omega
  ·rw [nk (R3.lt hx)]; exact t3 x hx
  ·simp only [Option.some.injEq] at ea
   subst ea
   exact ⟨t90, (sX o93' (vc (by omega) id (own' _ (by omega) (by omega)) id)).and (sX o90' (vc (by omega) id (own' _ (by omega) (by omega)) id))⟩
 ·refine aU (k9.now.at0 rfl) ?_
  refine hk h f0 ⟨o, t9, av, pa, none, R, ?_, fun a ea => (by cases ea), by rw [e]; rfl⟩ cge
  rw [ite_self]
  have : pa ++ (none : Option Addr).toList = pa := by simp
  rw [this]; exact C0
set_option maxHeartbeats 1000000 in
theorem wY [Gh] {N : Nat} {h0 : aA} {s : Addr} {bs : List Bd} {gs : List Gr} (T0 : wx N h0 s bs gs) (hg : gs.length ≤ 40) (hpl : ∀ g ∈ gs, g.Patterns.xs.length ≤ 512) (f : aT) (kind dir : Int)
  {Q : Value → aA → Prop} (hk : ∀ c h', Fr (fun _ => False) h0 h' → uO N (fun x => h0.size ≤ x) h' s c f dir bs gs (gs.filter fun g => g.Kind = kind) [] 0 false [] → h0.size ≤ c.block → Q (.pointer (some c)) h') :
  aE Tryz.prog jl #[.pointer (some s), .agg f.vals.toArray, .int .i64 kind, .int .i64 dir] h0 Q := by
 apply vN
 unfold qd
 have hN := T0.1
 refine bA (vs := f.vals) fun t5 h1 f1 e1 o5 => ?_
 refine Ax ?_
 refine (aB (o5.cells.at0 rfl) (aG (o5.cells.at rfl) (aB (o5.cells.at rfl) (aB (o5.cells.at rfl) (aG (o5.cells.at rfl) (aB (o5.cells.at rfl) (aB (o5.cells.at rfl) (aB (o5.cells.at rfl) (aB (o5.cells.at rfl) ?_)))))))))
 refine bA (vs := yX s f dir none 0 0 none 0 0 0 false none 0 0) fun c h2 f2 e2 oC => ?_
 refine bA (vs := [.pointer none]) fun t9 h3 f3 e3 o9 => ?_
 refine kG o9 (by show 0 < 1; omega) rfl fun h4 f4 z4 o9' => ?_
 have z1 := f1.size; have z2 := f2.size; have z3 := f3.size; have z4' := f4.size
 have lC := oC.lt; have l9 := o9.lt
 have F3 := (f1.trans f2).trans f3
 have F4 : Fr (fun _ => False) h0 h4 := F3.tr f4 fun x hx hh => by omega
 obtain ⟨_, p1, c1, m, mm, k1, k2⟩ := T0
 have T0 : wx N h0 s bs gs := ⟨hN, p1, c1, m, mm, k1, k2⟩
 have k1 := k1.fr0 F4
 obtain ⟨pk, ck, av, ek, kR, Gp⟩ := k2 kind
 refine aS (lM (k1.now.1.at (j := 1) rfl) ?_)
 refine wL Ee Tryz.underlying76 Fy k1.now.2.2.2 kind false ?_
 rw [if_neg (by decide)]
 refine ⟨_, _, _, ek, ?_⟩
 have oC4 := (oC.fr0 f3).fr f4 (by omega)
 have Klen : (gs.filter fun g => g.Kind = kind).length ≤ 40 := Nat.le_trans (List.length_filter_le _ _) hg
 have avl := Gp.len
 generalize hKK : (gs.filter fun g => decide (g.Kind = kind)) = K at *
 refine aJ.mk (fun st h' => ∃ (k : Nat) (o : Tag) (pa : List Addr), st = (qX (K.take k), (k : Int)) ∧ k ≤ K.length ∧ Fr (fun _ => False) h0 h' ∧ ly N (fun x => h0.size ≤ x) o h' s c t9 bs gs (K.take k) (av.take k) pa (fun _ => []) (sn0 []) ∧ ug o h' s c f dir pa [] 0 false [] )
  (fun st _ => K.length - st.2.toNat) ⟨0, fun x => if x = c.block then 1 else if x < N then 0 else if x < h0.size then 9 else 0, [], rfl, by omega, F4, ⟨fun x hx => by rw [if_neg (by omega), if_pos hx], fun x hx hn hne => ?_, T0.fr0 F4, sX o9' (by rw [if_neg (by omega), if_neg (by omega), if_neg (by omega)]), by simp, rfl, fun i h => absurd h (by simp)⟩, ⟨if_pos rfl, none, 0, none, 0, none, 0, oC4, Row.nil, fun x hx => (dJ hx).elim, Row.nil, fun x hx => (dJ hx).elim, Row.nil, fun x hx => (dJ hx).elim⟩⟩ ?_
 ·refine Classical.byContradiction fun hh => hne ?_
  have hh' : x < h0.size := Nat.lt_of_not_le hh
  rw [if_neg (by omega), if_neg (by omega), if_pos hh']
 rintro st hs ⟨k, o, pa, rfl, hkl, fs, R, C⟩
 dsimp only
 unfold lE
 refine ifD (fun hlt => ?_) (fun hge => ?_)
 ·have hi : k < K.length := by omega
  have hia : k < av.length := by omega
  have Rav := kR hs (fs.mono fun x hx => hx.elim)
  refine Rav.idx vj (by omega) k rfl hia fun ad cc => ?_
  rw [Int.toNat_natCast]
  refine aU (cc.at0 rfl) ?_
  have Gk0 := Gp.at_ k hia hi
  obtain ⟨au, sg, ws, Gk⟩ := GpX.of ((Gk0.fr (B' := fun x => x < N) fs (fun _ _ _ => id) fun _ _ => id)) R.set.1
  have gpl : K[k].Patterns.xs.length ≤ 512 := hpl _ (by
   have : K[k] ∈ gs.filter fun g => decide (g.Kind = kind) := by rw [hKK]; exact List.getElem_mem hi
   exact (List.mem_filter.1 this).1)
  refine bA (vs := [.pointer none]) fun t12 a1 g1 d1 q12 => ?_
  refine kG q12 (by show 0 < 1; omega) rfl fun a2 g2 d2 q12' => ?_
  have y1 := g1.size; have y2 := g2.size
  have l12 := q12.lt
  have Fa2 : Fr (fun _ => False) hs a2 := g1.tr g2 fun x hx hh => by omega
  refine aU (q12'.cells.at0 rfl) (aU (q12'.cells.at0 rfl) (aS ?_))
  have Ga := Gk.fr Fa2 fun _ _ h => h.elim
  have gc := r3 Ga.1.now.1
  refine aD (gc.at (j := 2) rfl) ?_
  have fin : ∀ (h' : aA) (t42 t13 : Addr) (q : Option Addr) (qc : Nat), Hk hs h' av[k] t42 t12 t13 q K[k].Patterns.xs.length qc → Fr (fun _ => False) hs h' →
    cW t9 (qX (K.take k)) t12 t13 pk av.length ck ((av.length : Nat) : Int) (k : Int) Q (fun s' h' => (∃ (k : Nat) (o : Tag) (pa : List Addr), s' = (qX (K.take k), (k : Int)) ∧ k ≤ K.length ∧ Fr (fun _ => False) h0 h' ∧ ly N (fun x => h0.size ≤ x) o h' s c t9 bs gs (K.take k) (av.take k) pa (fun _ => []) (sn0 []) ∧ ug o h' s c f dir pa [] 0 false [] ) ∧ K.length - s'.2.toNat < K.length - (k : Int).toNat) h' := by
   intro h' t42 t13 q qc Tn fh
   rw [← qu] at Tn
   refine Hz (N := N) (k := k) (g := K[k]) (ga := av[k]) hN R C fs (by simp; omega) (by omega) Tn fh Gk fun keep' pa' h'' o' ek fk Rk Ck => ?_
   have e1 : K.take (k + 1) = K.take k ++ [K[k]] := by rw [List.take_append_getElem]
   have e2 : av.take (k + 1) = av.take k ++ [av[k]] := by rw [List.take_append_getElem]
   refine ⟨⟨k + 1, o', pa', by rw [e1, D6, ek]; simp, by omega, fk, by rw [e1, e2]; exact Rk, Ck⟩, by dsimp only; omega⟩
  have T2 : ∀ {h' : aA}, Fr (fun _ => False) a2 h' → Own h' t12 [.pointer (some av[k])] fD := fun f => q12'.fr0 f
  have mk : ∀ (hx : aA) {K' : Value → aA → Prop}, (∀ a h', Fr (fun _ => False) hx h' → hx.size ≤ a.block → Row 1 bbV h' (some a) K[k].Patterns.xs.length (List.replicate K[k].Patterns.xs.length false) → K' (.slice (some a) K[k].Patterns.xs.length K[k].Patterns.xs.length) h') → yl Tryz.prog sE (.int .i64 ((K[k].Patterns.xs.length : Nat) : Int)) (.int .i64 ((K[k].Patterns.xs.length : Nat) : Int)) hx K' := by
   intro hx K' hK
   refine yK Fn K[k].Patterns.xs.length rfl (Nat.le_trans (Nat.mul_le_mul gpl (show Tryz.t4.bytes ≤ 8 by decide +kernel)) (by decide)) fun a h' f' ea oa => hK a h' f' (by omega) ?_
   have el : (List.replicate K[k].Patterns.xs.length (Value.bool false).cells.toList).flatten = (List.replicate K[k].Patterns.xs.length false).flatMap bbV := by
    rw [List.flatMap_def, List.map_replicate]; rfl
   rw [el] at oa
   have := Row.of_own yT oa
   rw [List.length_replicate] at this
   exact this
  have gcf : ∀ {h' : aA}, Fr (fun _ => False) a2 h' → bB h' av[k] K[k].vals := fun f => gc.fr0 f
  refine ⟨?_, ?_⟩
  ·refine mk a2 fun q b1 j1 nq Rq => ⟨_, _, _, rfl, aU ((T2 j1).cells.at0 rfl) rfl, ?_, ?_⟩
   ·refine bA (vs := [.pointer (some av[k]), .slice (some q) K[k].Patterns.xs.length K[k].Patterns.xs.length, yy, Ay]) fun t42 b2 j2 ej2 o42 => ?_
    refine bA (vs := [.pointer none]) fun t13 b3 j3 ej3 o13 => ?_
    have F3 := (j1.trans j2).trans j3
    refine ⟨aU ((T2 F3).cells.at0 rfl) rfl, aU ((T2 F3).cells.at0 rfl) rfl, aD ((gcf F3).at (j := 2) rfl) rfl, ?_⟩
    refine kG o13 (by show 0 < 1; omega) rfl fun b4 j4 w4 o13' => ?_
    have x1 := j1.size; have x2 := j2.size; have x3 := j3.size
    have l42 := o42.lt; have l13 := o13.lt
    have lq : q.block < b1.size := Rq.lt ⟨q, rfl, rfl⟩
    exact fin b4 t42 t13 (some q) _ ⟨(T2 F3).fr j4 (by omega), (o42.fr0 j3).fr j4 (by omega), o13', ((Rq.fr0 j2).fr0 j3).fr j4 (fun x hx hh => by obtain ⟨_, e, rfl⟩ := hx; cases e; omega), by omega, by omega, fun x hx => by obtain ⟨_, e, rfl⟩ := hx; cases e; omega⟩ ((Fa2.trans F3).tr j4 fun x hx hh => by omega)
   ·refine bA (vs := [.pointer none]) fun t13 b2 j2 ej2 o13 => ?_
    have F2 := j1.trans j2
    refine ⟨aU ((T2 F2).cells.at0 rfl) rfl, aU ((T2 F2).cells.at0 rfl) rfl, aD ((gcf F2).at (j := 2) rfl) rfl, ?_⟩
    refine bA (vs := [.pointer (some av[k]), .slice (some q) K[k].Patterns.xs.length K[k].Patterns.xs.length, yy, Ay]) fun t42 b3 j3 ej3 o42 => ?_
    have F3 := F2.trans j3
    have l13 := o13.lt
    have o13 := o13.fr0 j3
    refine kG o13 (by show 0 < 1; omega) rfl fun b4 j4 w4 o13' => ?_
    have x1 := j1.size; have x2 := j2.size; have x3 := j3.size
    have l42 := o42.lt
    have lq : q.block < b1.size := Rq.lt ⟨q, rfl, rfl⟩
    exact fin b4 t42 t13 (some q) _ ⟨(T2 F3).fr j4 (by omega), o42.fr j4 (by omega), o13', ((Rq.fr0 j2).fr0 j3).fr j4 (fun x hx hh => by obtain ⟨_, e, rfl⟩ := hx; cases e; omega), by omega, by omega, fun x hx => by obtain ⟨_, e, rfl⟩ := hx; cases e; omega⟩ ((Fa2.trans F3).tr j4 fun x hx hh => by omega)
  ·refine bA (vs := [.pointer none]) fun t13 b1 j1 ej1 o13 => ?_
   refine ⟨aU ((T2 j1).cells.at0 rfl) rfl, aU ((T2 j1).cells.at0 rfl) rfl, aD ((gcf j1).at (j := 2) rfl) rfl, ?_⟩
   refine mk b1 fun q b2 j2 nq Rq => ⟨_, _, _, rfl, aU ((T2 (j1.trans j2)).cells.at0 rfl) rfl, ?_⟩
   refine bA (vs := [.pointer (some av[k]), .slice (some q) K[k].Patterns.xs.length K[k].Patterns.xs.length, yy, Ay]) fun t42 b3 j3 ej3 o42 => ?_
   have F3 := (j1.trans j2).trans j3
   have l13 := o13.lt
   have o13 := (o13.fr0 j2).fr0 j3
   refine kG o13 (by show 0 < 1; omega) rfl fun b4 j4 w4 o13' => ?_
   have x1 := j1.size; have x2 := j2.size; have x3 := j3.size
   have l42 := o42.lt
   have lq : q.block < b2.size := Rq.lt ⟨q, rfl, rfl⟩
   exact fin b4 t42 t13 (some q) _ ⟨(T2 F3).fr j4 (by omega), o42.fr j4 (by omega), o13', (Rq.fr0 j3).fr j4 (fun x hx hh => by obtain ⟨_, e, rfl⟩ := hx; cases e; omega), by omega, by omega, fun x hx => by obtain ⟨_, e, rfl⟩ := hx; cases e; omega⟩ ((Fa2.trans F3).tr j4 fun x hx hh => by omega)
 ·have : k = K.length := by omega
  subst this
  rw [List.take_length] at R ⊢
  rw [show av.take K.length = av by rw [← avl, List.take_length]] at R
  exact H0 hN R C fs Klen fun h' f' S cg => hk c h' f' S cg
end Go.Proofs.YtjmfpeiidlpngaaGreatDoor
namespace Go.Proofs.YtjmfpeiidlpngaaGreatDoor
set_option linter.unusedSimpArgs false
set_option linter.unusedVariables false
set_option maxRecDepth 20000
open Go
open Go.IntKind (wrap)
section
variable {N : Nat} {F F' : Nat → Prop} {o o' : Tag} {h h' : aA} {s c t9 : Addr} {f : aT} {dir : Int} {bs : List Bd} {gs K : List Gr} {av pa L : List Addr} {tx tx' : Nat → Au.Nm} {sn sn' : Nat → Gr → List Bool} {S : Nat → Prop}
theorem ly.upd (R : ly N F o h s c t9 bs gs K av pa tx sn) (f : Fr S h h') (ho : Au.Old h o o') (k : Nat) (hs : ∀ x, x < h.size → S x → o x ≠ 0 ∧ (o x < 10 ∨ o x = 10 + 2 * k ∨ o x = 11 + 2 * k)) (hF : ∀ x, x < h'.size → N ≤ x → o' x ≠ 9 → F' x)
  (hx : ∀ i g, i ≠ k → tx' i = tx i ∧ sn' i g = sn i g) (hP : ∀ (h1 : k < K.length) (h2 : k < av.length) (h3 : k < pa.length), n8 N o' k h' t9 av[k] K[k] pa[k] (tx' k) (sn' k K[k])) : ly N F' o' h' s c t9 bs gs K av pa tx' sn' := by
 have hN := R.set.1
 refine ⟨fun x hx => by rw [ho x (by omega)]; exact R.low x hx, hF, R.set.fr f fun x hx hh => ?_, R.k9.tag f ho fun x hx hh => (hs x hx hh).1, R.la, R.lp, fun i h1 h2 h3 => ?_⟩
 ·rcases Nat.lt_or_ge x N with hl | hl
  ·exact absurd (R.low x hl) (hs x hx hh).1
  ·exact hl
 ·by_cases hi : i = k
  ·subst hi; exact hP h1 h2 h3
  ·have P := R.part i h1 h2 h3
   rw [(hx i K[i] hi).1, (hx i K[i] hi).2]
   exact P.fr P.lt R.low f ho fun x hx hh => by have := hs x hx hh; omega
theorem ly.ext (R : ly N F o h s c t9 bs gs K av pa tx sn) (hx : ∀ i (h1 : i < K.length), tx' i = tx i ∧ sn' i K[i] = sn i K[i]) : ly N F o h s c t9 bs gs K av pa tx' sn' := by
 refine ⟨R.low, R.fp, R.set, R.k9, R.la, R.lp, fun i h1 h2 h3 => ?_⟩
 rw [(hx i h1).1, (hx i h1).2]; exact R.part i h1 h2 h3
theorem n8.fd {N i : Nat} {o : Tag} {h : aA} {t9 ga : Addr} {g : Gr} {pa : Addr} {w : Au.Nm} {seen : List Bool} (P : n8 N o i h t9 ga g pa w seen) : ∃ fd, hcell h (pa.add 2) = some fd := by
 obtain ⟨tg, ln, q, qc, fd, en, au, sg, ws, k, _⟩ := P
 exact ⟨fd, k.now.at (j := 2) rfl⟩
theorem n8.en {N i : Nat} {o : Tag} {h : aA} {t9 ga : Addr} {g : Gr} {pa : Addr} {w : Au.Nm} {seen : List Bool} (P : n8 N o i h t9 ga g pa w seen) : ∃ en, hcell h (pa.add 3) = some en := by
 obtain ⟨tg, ln, q, qc, fd, en, au, sg, ws, k, _⟩ := P
 exact ⟨en, k.now.at (j := 3) rfl⟩
end
theorem Hu [Gh] {h : aA} {p : Option Addr} {cap : Nat} {L : Au.Nm} (R : Row 1 Au.bV h p cap L) (t : Au.Nm) (hl : L.length + t.length ≤ 2 ^ 30) {K : Value → aA → Prop}
  (hk : ∀ p' cap' h', Row 1 Au.bV h' p' cap' (L ++ t) → Fr (InA p) h h' → (∀ b, InA p' b → InA p b ∨ h.size ≤ b) → K (.slice p' (L ++ t).length cap') h') :
  dU Tryz.prog .append #[aV, dX] aV #[false, false] #[.slice p L.length cap, .string (bs t)] h K := by
 have s : Src h 1 (.string (bs t)) t.length (t.flatMap Au.bV) := by
  have := Src.str (h := h) (sz := 1) (bs t) rfl
  rw [wD, bN] at this
  rw [Au.vk]; exact this
 exact R.appL Au.DL Tryz.underlying9 (by intro k e; cases e) (by kernel_rfl) (by decide +kernel) Au.xS (fun _ => rfl) s hl hk
theorem vu (K : List Gr) (k : Nat) (h : K.length ≤ k) : K.take k = K := List.take_of_length_le h
def nD (K : List Gr) : Nat := (K.filter ke).length
theorem Jo (K : List Gr) (g : Gr) : nD (K ++ [g]) = nD K + if ke g = true then 1 else 0 := by
 unfold nD; rw [List.filter_append, List.length_append]
 by_cases h : ke g = true
 ·rw [List.filter_cons_of_pos h, if_pos h]; rfl
 ·rw [List.filter_cons_of_neg h, if_neg h]; rfl
theorem HE (K : List Gr) : nD K ≤ K.length := List.length_filter_le _ _
def mid (w x : Au.Nm) (k i : Nat) : Au.Nm := if i < k then w ++ x else w
set_option maxHeartbeats 1000000 in
theorem EP [Gh] {N : Nat} {F : Nat → Prop} {h : aA} {s c : Addr} {f : aT} {dir : Int} {bs : List Bd} {gs K : List Gr} {w : Au.Nm} {work : Int} (S : uO N F h s c f dir bs gs K w work false []) (x : Au.Nm) (hx : w.length + x.length ≤ 2 ^ 16) (hK : K.length ≤ 40) (hw : 0 ≤ work ∧ work ≤ 2 ^ 30)
  {Q : Value → aA → Prop} (hk : ∀ h', Fr F h h' → uO N (fun y => F y ∨ h.size ≤ y) h' s c f dir bs gs K (w ++ x) (work + (nD K * x.length : Nat)) false [] → Q (.tuple #[]) h') :
  aE Tryz.prog gO #[.pointer (some c), .string (Go.Proofs.YtjmfpeiidlpngaaGreatDoor.bs x)] h Q := by
 apply vD
 unfold pW
 obtain ⟨o, t9, av, pa, kp, R, C, KP, hkp⟩ := S
 have C0 := C
 obtain ⟨tg, pp, pc, bp, bc, op, oc, ow, R1, t1, _⟩ := C
 refine Ax (aS (aG (ow.cells.at (j := 14) rfl) ?_))
 rw [if_neg (by decide)]
 refine aS (aD (ow.cells.at (j := 11) rfl) ?_)
 have lp := R.lp
 have la := R.la
 have hkl : kp.toList.length ≤ 1 := by cases kp <;> simp
 have hLl : (pa ++ kp.toList).length ≤ 41 := by rw [List.length_append]; omega
 have hLk : (pa ++ kp.toList).length = K.length + kp.toList.length := by rw [List.length_append]; omega
 have lpp : ∀ y, InA pp y → y < h.size := fun y hy => R1.lt hy
 refine aJ.mk (fun st h' => ∃ (k : Nat) (o : Tag), st = (k : Int) ∧ k ≤ (pa ++ kp.toList).length ∧ Fr F h h' ∧ ly N (fun y => F y ∨ h.size ≤ y) o h' s c t9 bs gs K av pa (mid w x k) (fun i g => iG g (mid w x k i)) ∧ ug o h' s c f dir (pa ++ kp.toList) (if qX K = true then (if K.length < k then w ++ x else w) else []) (work + (nD (K.take k) * x.length : Nat)) false [] ∧ BL o h' t9 kp ∧ Row 1 adV h' pp pc (pa ++ kp.toList) ∧ ∀ y, InA pp y → o y = 4)
  (fun st _ => (pa ++ kp.toList).length - st.toNat) ⟨0, o, rfl, by omega, Fr.refl _ _, ?_, ?_, KP, R1, t1⟩ ?_
 ·refine ⟨R.low, fun y hy hn hne => .inl (R.fp y hy hn hne), R.set, R.k9, R.la, R.lp, fun i h1 h2 h3 => ?_⟩
  have := R.part i h1 h2 h3
  unfold mid; rw [if_neg (by omega)]; exact this
 ·have e : work + ((nD (K.take 0) * x.length : Nat) : Int) = work := by simp [nD]
  rw [e, if_neg (show ¬ K.length < 0 by omega)]; exact C0
 rintro st h1 ⟨k, o, rfl, hkl, fF, R, C, KP, Rp, tp⟩
 unfold lD
 have C1 := C
 obtain ⟨tg, pp1, pc1, bp, bc, op, oc, ow, R1, t1, R2, t2, R3, t3⟩ := C
 have zF := fF.size
 have hnd : ∀ m, (nD (K.take m) * x.length : Nat) ≤ 40 * 2 ^ 16 := fun m => Nat.mul_le_mul (Nat.le_trans (HE _) (by rw [List.length_take]; omega)) (by omega)
 have hFo : ∀ y, y < h1.size → o y ≠ 0 → o y ≠ 9 → y < h.size → F y := fun y hy h0 h9 hyh => by
  rcases R.fp y hy (by
   rcases Nat.lt_or_ge y N with hl | hl
   ·exact absurd (R.low y hl) h0
   ·exact hl) h9 with hh | hh
  ·exact hh
  ·omega
 refine ifD (fun hlt => ?_) (fun hge => ?_)
 ·have hi : k < (pa ++ kp.toList).length := by omega
  refine Rp.idx vj (by omega) k rfl hi fun ad cc => ?_
  rw [Int.toNat_natCast]
  refine aU (cc.at0 rfl) (aS ?_)
  by_cases hkK : k < K.length
  ·have e1 : (pa ++ kp.toList)[k] = pa[k]'(by omega) := List.getElem_append_left (by omega)
   rw [e1]
   have P := R.part k hkK (by omega) (by omega)
   obtain ⟨fd, hfd⟩ := P.fd
   refine BX hfd ?_
   have em : mid w x k k = w := by unfold mid; rw [if_neg (by omega)]
   have P' : n8 N o k h1 t9 (av[k]'(by omega)) K[k] (pa[k]'(by omega)) w (iG K[k] w) := by have := P; rw [em] at this; exact this
   refine P'.feed P'.lt R.low ow tg R.k9 x hx (by have := hnd k; omega) (K := fun h' => _) hfd (fun h' hh => ⟨rfl, hh⟩) fun h' o' ho f' ow' Pn => ?_
   have z' := f'.size
   have eT : K.take (k + 1) = K.take k ++ [K[k]] := by rw [List.take_append_getElem]
   rw [wr (by omega) (by omega)]
   have hsT : ∀ y, y < h1.size → (o y = 1 ∨ o y = 10 + 2 * k ∨ o y = 11 + 2 * k) → o y ≠ 0 ∧ (o y < 10 ∨ o y = 10 + 2 * k ∨ o y = 11 + 2 * k) := fun y hy hh => by omega
   refine ⟨⟨k + 1, o', by omega, by omega, fF.tr f' fun y hy hh => hFo y (by omega) (by omega) (by omega) hy, R.upd f' ho k hsT (fun y hy hn hne => ?_) (fun i g hik => ?_) (fun h1 h2 h3 => ?_), ?_, KP.fr f' ho fun y hy hh => by omega, Rp.fr f' fun y hy hh => by have := tp y hy; omega, fun y hy => by rw [ho y (Rp.lt hy)]; exact tp y hy⟩, by omega⟩
   ·rcases Nat.lt_or_ge y h1.size with hl | hl
    ·exact R.fp y hl hn (by rw [← ho y hl]; exact hne)
    ·exact .inr (by omega)
   ·have : mid w x (k + 1) i = mid w x k i := by
     unfold mid
     by_cases hik2 : i < k
     ·rw [if_pos hik2, if_pos (by omega)]
     ·rw [if_neg hik2, if_neg (by omega)]
    exact ⟨this, by show iG g (mid w x (k + 1) i) = _; rw [this]⟩
   ·have e3 : mid w x (k + 1) k = w ++ x := by unfold mid; rw [if_pos (by omega)]
    rw [e3]; exact Pn
   ·have ew : work + ((nD (K.take k) * x.length : Nat) : Int) + (if ke K[k] = true then (x.length : Int) else 0) = work + ((nD (K.take (k + 1)) * x.length : Nat) : Int) := by
     rw [eT, Jo]
     by_cases hd : ke K[k] = true
     ·rw [if_pos hd, if_pos hd, Nat.succ_mul]; omega
     ·rw [if_neg hd, if_neg hd, Nat.add_zero]; omega
    rw [ew] at ow'
    rw [if_neg (show ¬ K.length < k by omega)] at R2
    rw [if_neg (show ¬ K.length < k by omega)] at ow'
    rw [if_neg (show ¬ K.length < k + 1 by omega)]
    refine ⟨by rw [ho _ ow.lt]; exact tg, pp1, pc1, bp, bc, op, oc, ow', R1.fr f' (fun y hy hh => by have := t1 y hy; omega), fun y hy => by rw [ho _ (R1.lt hy)]; exact t1 y hy,
     R2.fr f' (fun y hy hh => by have := t2 y hy; omega), fun y hy => by rw [ho _ (R2.lt hy)]; exact t2 y hy, R3.fr f' (fun y hy hh => by have := t3 y hy; omega), fun y hy => by rw [ho _ (R3.lt hy)]; exact t3 y hy⟩
  ·obtain ⟨a, rfl⟩ : ∃ a, kp = some a := by
    cases kp with
    | none => simp at hi; omega
    | some a => exact ⟨a, rfl⟩
   have hkg : qX K = true := by rw [← hkp]; rfl
   have hl1 : (pa ++ (some a : Option Addr).toList).length = pa.length + 1 := by simp
   have hk0 : k = K.length := by omega
   have e1 : (pa ++ (some a : Option Addr).toList)[k] = a := by
    rw [List.getElem_append_right (by omega)]; simp
   rw [e1]
   obtain ⟨t90, kk⟩ := KP a rfl
   refine BX (kk.now.1.at (j := 2) rfl) ?_
   unfold HT
   rw [cK]
   apply uE
   unfold om
   rw [if_pos hkg, if_neg (show ¬ K.length < k by omega)] at R2 ow
   have k9 := R.k9
   refine aU (k9.now.at0 rfl) (aU (k9.now.at0 rfl) (aS (aD (ow.cells.at (j := 12) rfl) ?_)))
   refine Hu R2 x (by omega) fun bp' bc' h2 R2' f2 hn2 => ⟨_, _, _, rfl, ?_⟩
   have z2 := f2.size
   have k92 := k9.fr (B' := fun y => o y = 0) f2 (fun y hy h1 hh => by have := t2 y hh; omega) fun _ _ => id
   refine ⟨aU (k92.now.at0 rfl) rfl, aS ?_⟩
   have ow2 := ow.fr f2 fun hh => by have := t2 _ hh; omega
   have lc := ow.lt
   refine cH ow2 12 (by show 12 < 16; omega) rfl fun h3 f3 z3 ow3 => ⟨rfl, ?_⟩
   have z3' := f3.size
   have Ft : Fr (fun y => InA bp y ∨ y = c.block) h1 h3 := (f2.mono fun _ => .inl).trans (f3.mono fun _ => .inr)
   have up : ∀ y, y < h1.size → Au.upT o h1.size 2 y = o y := fun y hy => Au.dY hy
   have tS : ∀ y, (InA bp y ∨ y = c.block) → o y = 2 ∨ o y = 1 := fun y hh => by
    rcases hh with hh | hh
    ·exact .inl (t2 y hh)
    ·exact .inr (by rw [hh]; exact tg)
   rw [wr (by omega) (by omega)]
   have eT : K.take (k + 1) = K.take k := by rw [vu _ _ (by omega), vu _ _ (by omega)]
   refine ⟨⟨k + 1, Au.upT o h1.size 2, by omega, by omega, fF.tr Ft fun y hy hh => hFo y (by omega) (by have := tS y hh; omega) (by have := tS y hh; omega) hy, ly.ext (R.fr (F' := fun y => F y ∨ h.size ≤ y) Ft (Au.Old.up (Nat.le_refl _)) (fun y hy hh => by have := tS y hh; omega) (fun y hy hn hne => ?_) Ft.size) fun i hi => ?_, ?_, KP.fr Ft (Au.Old.up (Nat.le_refl _)) (fun y hy hh => by have := tS y hh; omega), Rp.fr Ft (fun y hy hh => by have := tp y hy; have := tS y hh; omega), fun y hy => by rw [up y (Rp.lt hy)]; exact tp y hy⟩, by omega⟩
   ·rcases Nat.lt_or_ge y h1.size with hl | hl
    ·exact R.fp y hl hn (by rw [← up y hl]; exact hne)
    ·exact .inr (by omega)
   ·have : mid w x (k + 1) i = mid w x k i := by unfold mid; rw [if_pos (by omega), if_pos (by omega)]
    exact ⟨this, by show iG _ (mid w x (k + 1) i) = _; rw [this]⟩
   ·rw [if_pos hkg, if_pos (show K.length < k + 1 by omega), eT]
    refine ⟨by rw [up _ lc]; exact tg, pp1, pc1, bp', bc', op, oc, ow3, R1.fr Ft (fun y hy hh => by have := t1 y hy; have := tS y hh; omega), fun y hy => by rw [up y (R1.lt hy)]; exact t1 y hy,
     R2'.fr f3 (fun y hy hh => ?_), fun y hy => ?_, R3.fr Ft (fun y hy hh => by have := t3 y hy; have := tS y hh; omega), fun y hy => by rw [up y (R3.lt hy)]; exact t3 y hy⟩
    ·rcases hn2 y hy with h5 | h5
     ·have := t2 y h5; rw [hh, tg] at this; omega
     ·omega
    ·rcases hn2 y hy with h5 | h5
     ·rw [up y (R2.lt h5)]; exact t2 y h5
     ·exact Au.ka h5
 ·have hke : k = (pa ++ kp.toList).length := by omega
  have eT : K.take k = K := vu _ _ (by omega)
  refine hk h1 fF ⟨o, t9, av, pa, kp, R.ext fun i hi => ?_, ?_, KP, hkp⟩
  ·have : mid w x k i = w ++ x := by unfold mid; rw [if_pos (by omega)]
   exact ⟨this.symm, by show iG _ _ = iG _ (mid w x k i); rw [this]⟩
  ·rw [eT] at C1
   cases hkg : qX K with
   | false => rw [hkg] at C1; exact C1
   | true =>
    rw [hkg] at C1 hkp
    have : K.length < k := by
     cases kp with
     | none => cases hkp
     | some a => simp at hke; omega
    rw [if_pos rfl, if_pos this] at C1
    exact C1
end Go.Proofs.YtjmfpeiidlpngaaGreatDoor
namespace Go.Proofs.YtjmfpeiidlpngaaGreatDoor
set_option linter.unusedSimpArgs false
set_option linter.unusedVariables false
set_option maxRecDepth 20000
open Go
open Go.IntKind (wrap)
def ij (g : Gr) (w : Au.Nm) : List Bool := uY (hZ g) (Au.jO g.Transforms.xs w)
theorem sO (g : Gr) (w : Au.Nm) : (ij g w).length = (hZ g).length := by unfold ij uY; rw [List.length_map]
theorem GP (w : Au.Nm) : Au.jO [] w = w := rfl
def trans (g : Gr) : Bool := decide (g.Patterns.xs ≠ []) && decide (g.Transforms.xs ≠ [])
theorem FU (K : List Gr) : qX K = K.any trans := rfl
theorem Ek {g : Gr} {w : Au.Nm} (h : trans g = false) : ij g w = iG g w := by
 unfold trans at h
 unfold ij iG
 by_cases e : g.Transforms.xs = []
 ·rw [if_pos e, e, GP]
 ·rw [if_neg e]
  have : g.Patterns.xs = [] := by
   by_cases e2 : g.Patterns.xs = []
   ·exact e2
   ·simp [e, e2] at h
  have e0 : hZ g = [] := by unfold hZ ptS; rw [this]; rfl
  rw [e0]; rfl
theorem Gi [Gh] {h : aA} {p : Option Addr} {c : Nat} {l : Au.Nm} (R : Row 1 Au.bV h p c l) {K : Value → aA → Prop} (hk : K (.string (bs l)) h) : px Tryz.prog aV dX (.slice p l.length c) h K := by
 have o := R.own
 rw [Au.vk] at o
 exact sY Tryz.underlying98 Tryz.underlying9 Tryz.underlying5 (l := l) rfl (fun ad hd => by subst hd; exact o.cells) (fun hd => by subst hd; have := o.1; simpa [eJ] using this) hk
set_option maxHeartbeats 1000000 in
theorem n8.fin [Gh] {N i : Nat} {o : Tag} {h : aA} {t9 ga : Addr} {g : Gr} {pa : Addr} {w : Au.Nm} (P : n8 N o i h t9 ga g pa w (iG g w)) (low : ∀ x, x < N → o x = 0)
  {c s : Addr} {f : aT} {dir : Int} {pp : Option Addr} {pn pc : Nat} {bp : Option Addr} {bc : Nat} {buf : Au.Nm} {work : Int} {done : Bool} {op : Option Addr} {on oc : Nat} (oc9 : Own h c (yX s f dir pp pn pc bp buf.length bc work done op on oc) iW) (tc : o c.block = 1) (k9 : Kp (fun x => o x = 0) h fun h' => bB h' t9 [.pointer (some c)])
  (Rb : Row 1 Au.bV h bp bc buf) (tb : ∀ x, InA bp x → o x = 2) (hb : trans g = true → buf = w) (hx : w.length ≤ 2 ^ 15) (hw : 0 ≤ work ∧ work ≤ 2 ^ 40) {Q : Value → aA → Prop} {K : aA → Prop} {en : Value} (hen : hcell h (pa.add 3) = some en) (hQ : ∀ h', K h' → Q (.tuple #[]) h')
  (hk : ∀ h', Fr (fun x => o x = 1 ∨ o x = 10 + 2 * i) h h' → Own h' c (yX s f dir pp pn pc bp buf.length bc (work + if trans g = true then ((Au.jO g.Transforms.xs w).length : Int) else 0) done op on oc) iW → n8 N o i h' t9 ga g pa w (ij g w) → K h') :
  mw Tryz.prog en #[] h Q := by
 have P0 := P
 obtain ⟨tg, ln, q, qc, fd, en', au, sg, ws, k, R, hq, G, M⟩ := P
 have e := hen.symm.trans (k.now.at (j := 3) rfl)
 simp only [Option.some.injEq] at e
 subst e
 have no : trans g = false → en = Ay → mw Tryz.prog en #[] h Q := fun ht e => by
  subst e
  unfold Ay
  rw [cK]
  apply uC
  unfold oh
  refine hQ _ (hk h (Fr.refl _ _) ?_ ?_)
  ·rw [ht]; simpa using oc9
  ·rw [Ek ht]; exact P0
 rcases M with ⟨m1, m2, m3⟩ | ⟨m1, m2, m3, _⟩ | ⟨m1, m2, m3, t12, t13, m4, kc⟩
 ·exact no (by unfold trans; simp [m1]) m3
 ·exact no (by unfold trans; simp [m2]) m3
 ·have ht : trans g = true := by unfold trans; simp [m1, m2]
  have ebuf := hb ht
  subst ebuf
  subst m4
  unfold JQ
  rw [cK]
  apply ux
  unfold oj
  have gc := r3 G.1.now.1
  refine aU (kc.now.1.at0 rfl) (aS (aD (gc.at (j := 1) rfl) (aU (k9.now.at0 rfl) (aS (aD (oc9.cells.at (j := 12) rfl) ?_)))))
  refine Gi Rb ⟨_, rfl, aU (kc.now.1.at0 rfl) rfl, aD (gc.at (j := 1) rfl) rfl, ?_⟩
  refine Au.Kd g.Transforms buf (by omega) G.1.now.2.k1 fun h1 f1 => ⟨_, rfl, ?_⟩
  have k91 := k9.fr0 f1
  have oc1 := oc9.fr0 f1
  have hl := Au.AX g.Transforms.xs buf
  refine aU (k91.now.at0 rfl) (aS (aB (oc1.cells.at (j := 13) rfl) (aS ?_)))
  rw [bN, wr (by omega) (by omega)]
  refine cH oc1 13 (by show 13 < 16; omega) rfl fun h2 f2 z2 oc2 => ?_
  have lc := oc9.lt
  have z1 := f1.size
  have z2' := f2.size
  have F2 : Fr (fun x => x = c.block) h h2 := (f1.mono fun _ => False.elim).trans f2
  have G2 := G.fr F2 fun x hx hh => by
   rcases Nat.lt_or_ge x N with hl | hl
   ·have := low x hl; rw [hh, tc] at this; omega
   ·exact hl
  have kc2 := kc.fr (B' := fun x => o x = 0) F2 (fun x hx h0 hh => by rw [hh] at h0; omega) fun _ _ => id
  refine aU (kc2.now.2.at0 rfl) (aU (kc2.now.1.at0 rfl) (aS (aU (G2.1.now.1.at (j := 5) rfl) ?_)))
  refine Au.Lp G2.2 (Au.jO g.Transforms.xs buf) (by omega) fun h3 r rc f3 Rr hr => ⟨_, _, _, rfl, ?_⟩
  have z3 := f3.size
  have kc3 := kc2.fr0 f3
  refine ⟨aU (kc3.now.2.at0 rfl) rfl, ?_⟩
  have lq : ∀ y, InA q y → y < h.size := fun y hy => R.lt hy
  have R3 := (R.fr F2 fun y hy hh => by have := hq y hy; rw [hh, tc] at this; omega).fr0 f3
  have k3 := (k.fr (B' := fun x => o x = 0) F2 (fun x hx h0 hh => by rw [hh] at h0; omega) fun _ _ => id).fr0 f3
  have eW : iG g buf = List.replicate (hZ g).length false := by unfold iG; rw [if_neg m2]
  refine HK k3.now R3 (fun hh => by have := hq _ hh; omega) Rr (fun y hy hh => by have := hr y hy; have := lq y hh; omega) (fun y hy => ?_) ?_ fun h4 f4 R4 => ⟨rfl, ?_⟩
  ·rw [mW]
   exact (w9.1 (show (y.1, y.2) ∈ _ from hy)).2.2.1
  ·have := Au.wS (hZ g) (Au.jO g.Transforms.xs buf) 0 (Au.jO g.Transforms.xs buf).length
   have hm := G.2.m
   have : (Au.jO g.Transforms.xs buf).length * (hZ g).length ≤ 2 ^ 16 * 512 := Nat.mul_le_mul (by omega) hm
   have : (Au.pT (hZ g) (Au.jO g.Transforms.xs buf) 0 (Au.jO g.Transforms.xs buf).length).length ≤ 2 ^ 40 := by omega
   exact this
  ·have e4 : uh (iG g buf) (Au.pT (hZ g) (Au.jO g.Transforms.xs buf) 0 (Au.jO g.Transforms.xs buf).length) = ij g buf := by rw [eW]; exact Hw _ _
   have R4' : Row 1 bbV h4 q qc (ij g buf) := by rw [← e4]; exact R4
   have Ft : Fr (fun x => x = c.block ∨ InA q x) h h4 := ((F2.mono fun _ => .inl).trans (f3.mono fun _ => False.elim)).trans (f4.mono fun _ => .inr)
   have tS : ∀ y, (y = c.block ∨ InA q y) → o y = 1 ∨ o y = 10 + 2 * i := fun y hh => by
    rcases hh with hh | hh
    ·exact .inl (by rw [hh]; exact tc)
    ·exact .inr (hq y hh)
   have kt : ∀ {P : aA → Prop}, Kp (fun x => o x = 0) h P → Kp (fun x => o x = 0) h4 P := fun kk => kk.fr Ft (fun y hy h0 hh => by have := tS y hh; omega) fun _ _ => id
   refine hQ _ (hk h4 (Ft.mono tS) ?_ ⟨tg, sO _ _, q, qc, fd, JQ t12 t9 t13, au, sg, ws, ?_, R4', hq, ?_, .inr (.inr ⟨m1, m2, m3, t12, t13, rfl, kt kc⟩)⟩)
   ·rw [ht, if_pos rfl]
    exact (oc2.fr0 f3).fr f4 fun hh => by have := hq _ hh; omega
   ·have := kt k
    rw [mW] at this
    rw [sO]
    exact this
   ·exact G.fr Ft fun y hy hh => by
     rcases Nat.lt_or_ge y N with hl | hl
     ·have := low y hl; have := tS y hh; omega
     ·exact hl
end Go.Proofs.YtjmfpeiidlpngaaGreatDoor
namespace Go.Proofs.YtjmfpeiidlpngaaGreatDoor
set_option linter.unusedSimpArgs false
set_option linter.unusedVariables false
set_option maxRecDepth 20000
open Go
open Go.IntKind (wrap)
theorem rJ.front {h : aA} {p : Option Addr} {cap sz : Nat} {A B : List Value} (o : rJ h p cap sz (A ++ B)) : rJ h p cap sz A := by
 cases p with
 | none => exact ⟨(List.append_eq_nil_iff.1 o.1).1, o.2⟩
 | some ad =>
  obtain ⟨h1, h2, ds, t, fr, hfr, hg, hc1, hc2, hc3⟩ := o
  refine ⟨h1, h2, ds, t, fr, hfr, hg, hc1, by rw [List.length_append] at hc2; omega, fun i hi => ?_⟩
  rw [hc3 i (by rw [List.length_append]; omega), List.getElem_append_left hi]
theorem Row.front {α : Type} {sz : Nat} {vals : α → List Value} {h : aA} {p : Option Addr} {cap : Nat} {A B : List α} (R : Row sz vals h p cap (A ++ B)) : Row sz vals h p cap A :=
 ⟨by have := R.own; rw [List.flatMap_append] at this; exact this.front, by have := R.le; rw [List.length_append] at this; omega⟩
theorem Cf (l : List Int) : l.flatMap Au.na = l.map fun n => Value.int .i64 n := by induction l <;> simp_all [Au.na]
theorem CQ {h : aA} {p : Option Addr} {cap : Nat} {A B : List Int} (R : Row 1 Au.na h p cap (A ++ B)) {ty : TypeId} {cs : Array Bool} {K : Value → aA → Prop}
  (hk : ∀ h', Fr (InA p) h h' → Row 1 Au.na h' p cap A → K (.tuple #[]) h') :
  dU Tryz.prog .clear #[bL] ty cs #[.slice (if cap = A.length then p else p.map (·.add (A.length * 1))) B.length (cap - A.length)] h K := by
 have hle := R.le
 rw [List.length_append] at hle
 refine wA (s := Builtin.clear_ #[bL] ty #[.slice (if cap = A.length then p else p.map (·.add (A.length * 1))) B.length (cap - A.length)]) rfl ?_
 unfold Builtin.clear_
 simp only [List.getElem?_toArray, List.getElem?_cons_zero, bind]
 rw [aQ]
 refine bT Tryz.underlying46 ?_
 cases hB : B with
 | nil =>
  rw [hB, List.append_nil] at R
  generalize (if cap = A.length then p else p.map (·.add (A.length * 1))) = q
  cases q <;> exact hk h (Fr.refl _ _) R
 | cons b B' =>
  rw [hB] at hle
  simp only [List.length_cons] at hle
  cases p with
  | none => have := R.own.2; omega
  | some ad =>
   have hf := R.front
   obtain ⟨⟨h1, h2, ds, t, fr, hfr, hg, hc1, hc2, hc3⟩, hle2⟩ := R
   obtain ⟨bk, o, sp⟩ := ad
   simp only at h1 h2 hg
   subst h1 h2
   rw [if_neg (by omega)]
   simp only [Option.map_some, List.length_cons]
   rw [aQ]
   refine B7 (i := Tryz.t3) (z := .int .i64 0) (by kernel_rfl) (by kernel_rfl) ?_
   rw [aQ]
   have hadd : ∀ j, (Addr.add (Addr.add ⟨bk, 0, none⟩ (A.length * 1)) j) = ⟨bk, A.length + j, none⟩ := fun j => by rw [gT, gT, Nat.zero_add, Nat.mul_one]
   rw [Cf, List.length_map, List.length_append, hB] at hc2
   simp only [List.length_cons] at hc2
   have hz : (Builtin.zeroCells (Value.int .i64 0).cells (B'.length + 1)).toList.length = B'.length + 1 := by
    rw [Array.length_toList, qS]; show (B'.length + 1) * 1 = _; omega
   refine sB hadd _ 0 ds h hg hfr (fun v hv => ?_) (by rw [hz]; omega) ?_
   ·rw [Array.mem_toList_iff] at hv
    unfold Builtin.zeroCells at hv
    obtain ⟨i, _, e⟩ := Array.mem_map.1 hv
    have hm : i % (Value.int .i64 0).cells.size = 0 := Nat.mod_one i
    rw [hm] at e
    rw [← e]; rfl
   ·refine hk _ (Fr.set _ _ ⟨_, rfl, rfl⟩) ⟨⟨rfl, rfl, _, t, fr, by rw [iI]; exact hfr, lU hg, by rw [iI]; exact hc1, by rw [iI, Cf, List.length_map]; omega, fun i hi => ?_⟩, by omega⟩
    have hi' := hi
    rw [Cf, List.length_map] at hi
    rw [qD _ _ _ (by rw [hz]; omega), if_neg (by omega)]
    obtain ⟨_, _, ds', t', fr', _, hg', _, _, hc3'⟩ := hf.own
    simp only at hg'
    rw [hg] at hg'
    simp only [Option.some.injEq, Obj.cells.injEq] at hg'
    obtain ⟨rfl, _⟩ := hg'
    exact hc3' i hi'
theorem Iu {p : Option Addr} {n c k : Nat} (hk : k ≤ n) (hc : n ≤ c) {K : Option Addr → Nat → Nat → Prop} (h : K (if c = k then p else p.map (·.add (k * 1))) (n - k) (c - k)) : gL 1 p n c (some (k : Int)) none none K := by
 refine ⟨by omega, by omega, ?_⟩
 rw [Int.toNat_natCast]; exact h
theorem HV {p : Option Addr} {n c k : Nat} (hc : k ≤ c) {K : Option Addr → Nat → Nat → Prop} (h : K p k c) : gL 1 p n c none (some (k : Int)) none K := by
 refine ⟨by omega, by omega, ?_⟩
 rw [Int.toNat_natCast]; exact h
def KS [Gh] (del : Value) (p : Option Addr) (h : aA) (xs : List Int) (q : Int → Bool) : Prop :=
 ∀ h', Fr (InA p) h h' → ∀ x ∈ xs, ∀ Q : Value → aA → Prop, (∀ h'', Fr (fun _ => False) h' h'' → Q (.bool (q x)) h'') → mw Tryz.prog del #[.int .i64 x] h' Q
theorem Dh [Gh] {del : Value} {h : aA} {p : Option Addr} {cap : Nat} {xs : List Int} {q : Int → Bool} (R : Row 1 Au.na h p cap xs) (D : KS del p h xs q) (hl : xs.length ≤ 2 ^ 40) {Q : Value → aA → Prop}
  (hno : ∀ h', Fr (fun _ => False) h h' → (∀ x ∈ xs, q x = false) → Q (.int .i64 (-1)) h')
  (hk : ∀ (i : Nat) (hi : i < xs.length) h', Fr (fun _ => False) h h' → (∀ x ∈ xs.take i, q x = false) → q xs[i] = true → Q (.int .i64 i) h') :
  aE Tryz.prog iD #[.slice p xs.length cap, del] h Q := by
 apply qy
 unfold lw
 refine aJ.mk (fun st h' => ∃ i : Nat, st = (i : Int) ∧ i ≤ xs.length ∧ Fr (fun _ => False) h h' ∧ ∀ x ∈ xs.take i, q x = false) (fun st _ => xs.length - st.toNat) ⟨0, rfl, by omega, Fr.refl _ _, fun x hx => by simp at hx⟩ ?_
 rintro st h1 ⟨i, rfl, hi, f1, hq⟩
 unfold iw
 refine ifD (fun hlt => ?_) (fun hge => ?_)
 ·have hi' : i < xs.length := by omega
  refine (R.fr0 f1).idx kw (by omega) i rfl hi' fun ad cc => ?_
  rw [Int.toNat_natCast]
  refine aB (cc.at0 rfl) ?_
  refine D h1 (f1.mono fun _ => False.elim) xs[i] (List.getElem_mem hi') _ fun h2 f2 => ⟨_, rfl, ?_⟩
  refine ifB (fun e => hk i hi' h2 (f1.trans f2) hq e) fun e => ?_
  rw [wr (by omega) (by omega)]
  refine ⟨⟨i + 1, by omega, by omega, f1.trans f2, fun x hx => ?_⟩, by omega⟩
  rw [show xs.take (i + 1) = xs.take i ++ [xs[i]] by rw [List.take_append_getElem], List.mem_append] at hx
  rcases hx with hx | hx
  ·exact hq x hx
  ·rw [List.mem_singleton.1 hx]; exact e
 ·have : i = xs.length := by omega
  subst this
  rw [List.take_length] at hq
  exact hno h1 f1 hq
def dW (q : Int → Bool) (xs : List Int) : List Int := xs.filter fun x => !q x
theorem xX (q : Int → Bool) (a b : List Int) : dW q (a ++ b) = dW q a ++ dW q b := List.filter_append ..
theorem Bx (q : Int → Bool) (a : List Int) : (dW q a).length ≤ a.length := List.length_filter_le _ _
theorem BH {q : Int → Bool} {xs : List Int} (h : ∀ x ∈ xs, q x = false) : dW q xs = xs := by
 unfold dW; rw [List.filter_eq_self]; intro x hx; rw [h x hx]; rfl
theorem Fc (A B : List Int) (b x : Int) : (A ++ b :: B).set A.length x = (A ++ [x]) ++ B := by
 rw [List.set_append_right _ _ (Nat.le_refl _), Nat.sub_self, List.set_cons_zero, List.append_assoc]; rfl
theorem CA [Gh] {del : Value} {h : aA} {p : Option Addr} {cap : Nat} {xs : List Int} {q : Int → Bool} (R : Row 1 Au.na h p cap xs) (D : KS del p h xs q) (hl : xs.length ≤ 2 ^ 40) {Q : Value → aA → Prop}
  (hk : ∀ h', Fr (InA p) h h' → Row 1 Au.na h' p cap (dW q xs) → Q (.slice p (dW q xs).length cap) h') :
  aE Tryz.prog gZ #[.slice p xs.length cap, del] h Q := by
 apply qg
 unfold lh
 refine Dh R D hl (fun h1 f1 hq => ⟨_, rfl, ?_⟩) fun i0 hi0 h1 f1 hq he => ⟨_, rfl, ?_⟩
 ·rw [if_pos (by decide)]
  have e := BH hq
  have := hk h1 (f1.mono fun _ => False.elim) (by rw [e]; exact R.fr0 f1)
  rw [e] at this; exact this
 rw [if_neg (by simp only [beq_iff_eq]; omega)]
 have e0 : dW q (xs.take (i0 + 1)) = xs.take i0 := by
  rw [show xs.take (i0 + 1) = xs.take i0 ++ [xs[i0]] by rw [List.take_append_getElem], xX, BH hq]
  unfold dW; rw [List.filter_cons_of_neg (by rw [he]; simp)]; simp
 refine aJ.mk (fun st h' => ∃ j : Nat, st = (((dW q (xs.take j)).length : Int), (j : Int)) ∧ j ≤ xs.length ∧ (dW q (xs.take j)).length < j ∧ Fr (InA p) h h' ∧ Row 1 Au.na h' p cap (dW q (xs.take j) ++ xs.drop (dW q (xs.take j)).length))
  (fun st _ => xs.length - st.2.toNat) ⟨i0 + 1, ?_, by omega, ?_, f1.mono fun _ => False.elim, ?_⟩ ?_
 ·rw [e0, wr (by omega) (by omega), List.length_take, Nat.min_eq_left (by omega)]; rfl
 ·rw [e0, List.length_take]; omega
 ·rw [e0, List.length_take, Nat.min_eq_left (by omega), List.take_append_drop]; exact R.fr0 f1
 rintro st h2 ⟨j, rfl, hj, hlt, f2, R2⟩
 dsimp only
 unfold hY
 have hkl := Bx q (xs.take j)
 rw [List.length_take] at hkl
 have L2 : (dW q (xs.take j) ++ xs.drop (dW q (xs.take j)).length).length = xs.length := by rw [List.length_append, List.length_drop]; omega
 have R2l := R2.le
 rw [L2] at R2l
 refine ifD (fun hlt2 => ?_) (fun hge => ?_)
 ·have hj' : j < xs.length := by omega
  have ej : (dW q (xs.take j) ++ xs.drop (dW q (xs.take j)).length)[j]'(by omega) = xs[j] := by
   rw [List.getElem_append_right (by omega), List.getElem_drop]
   congr 1; omega
  have et : xs.take (j + 1) = xs.take j ++ [xs[j]] := by rw [List.take_append_getElem]
  obtain ⟨ad, rfl, cc⟩ := R2.cellsAt kw (by omega) j (by omega)
  rw [ej] at cc
  refine bS j rfl hj' (aS ?_)
  rw [Int.toNat_natCast]
  refine aB (cc.at0 rfl) ?_
  refine D h2 f2 xs[j] (List.getElem_mem hj') _ fun h3 f3 => ⟨_, rfl, ?_⟩
  have R3 := R2.fr0 f3
  refine ifN (fun e => ?_) fun e => ?_
  ·have ek : dW q (xs.take (j + 1)) = dW q (xs.take j) ++ [xs[j]] := by
    rw [et, xX]; unfold dW; rw [List.filter_cons_of_pos (by rw [e]; rfl)]; rfl
   refine bS (dW q (xs.take j)).length rfl (by omega) (aS ?_)
   rw [Int.toNat_natCast, ← kM (ad.add ((dW q (xs.take j)).length * 1))]
   refine R3.set1 kw (dW q (xs.take j)).length (by omega) rfl (j := 0) (by omega) (v := .int .i64 xs[j]) rfl (e' := xs[j]) rfl fun h4 f4 R4 => ?_
   rw [wr (by omega) (by omega), wr (by omega) (by omega)]
   have ed : xs.drop (dW q (xs.take j)).length = xs[(dW q (xs.take j)).length]'(by omega) :: xs.drop ((dW q (xs.take j)).length + 1) := List.drop_eq_getElem_cons (by omega)
   refine ⟨⟨j + 1, by rw [ek, List.length_append]; rfl, by omega, by rw [ek, List.length_append, List.length_singleton]; omega, (f2.trans (f3.mono fun _ => False.elim)).trans f4, ?_⟩, by dsimp only; omega⟩
   rw [ed, Fc] at R4
   rw [ek, List.length_append, List.length_singleton]; exact R4
  ·have ek : dW q (xs.take (j + 1)) = dW q (xs.take j) := by
    rw [et, xX]; unfold dW; rw [List.filter_cons_of_neg (by rw [e]; decide)]; simp
   rw [wr (by omega) (by omega)]
   refine ⟨⟨j + 1, by rw [ek]; rfl, by omega, by rw [ek]; omega, f2.trans (f3.mono fun _ => False.elim), by rw [ek]; exact R3⟩, by dsimp only; omega⟩
 ·have : j = xs.length := by omega
  subst this
  rw [List.take_length] at *
  unfold hU
  refine Iu (by omega) (by omega) ?_
  have e : xs.length - (dW q xs).length = (xs.drop (dW q xs).length).length := by rw [List.length_drop]
  rw [e]
  refine CQ R2 fun h3 f3 R3 => ⟨rfl, ?_⟩
  exact HV (by omega) (hk h3 (f2.trans f3) R3)
def ir (xs : List Int) (i n : Nat) : List Int := (List.range n).filterMap fun k => if xs.getD (i + k) 0 = xs.getD (i + k - 1) 0 then none else some (xs.getD (i + k) 0)
theorem oN (xs : List Int) (i n : Nat) : ir xs i (n + 1) = ir xs i n ++ if xs.getD (i + n) 0 = xs.getD (i + n - 1) 0 then [] else [xs.getD (i + n) 0] := by
 unfold ir
 rw [List.range_succ, List.filterMap_append]
 by_cases h : xs.getD (i + n) 0 = xs.getD (i + n - 1) 0
 ·simp only [List.filterMap_cons, List.filterMap_nil, if_pos h]
 ·simp only [List.filterMap_cons, List.filterMap_nil, if_neg h]
theorem CO (xs : List Int) (i n : Nat) : (ir xs i n).length ≤ n := by
 unfold ir
 exact Nat.le_trans (List.length_filterMap_le _ _) (by simp)
theorem sU (xs : List Int) (i : Nat) (h : i < xs.length) : xs.getD i 0 = xs[i] := by rw [List.getD_eq_getElem?_getD, List.getElem?_eq_getElem h]; rfl
def mj (xs : List Int) : List Int := xs.take 1 ++ ir xs 1 (xs.length - 1)
theorem DQ {xs : List Int} {n : Nat} (h : ∀ k, k < n → xs.getD (1 + k) 0 ≠ xs.getD (1 + k - 1) 0) (hn : n + 1 ≤ xs.length) : xs.take 1 ++ ir xs 1 n = xs.take (n + 1) := by
 induction n with
 | zero => simp [ir]
 | succ n ih =>
  rw [oN, if_neg (h n (by omega)), ← List.append_assoc, ih (fun k hk => h k (by omega)) (by omega), sU xs _ (by omega)]
  rw [show xs.take (n + 1 + 1) = xs.take (n + 1) ++ [xs[n + 1]] by rw [List.take_append_getElem]]
  have : 1 + n = n + 1 := by omega
  simp only [this]
theorem GA [Gh] {h : aA} {p : Option Addr} {cap : Nat} {xs : List Int} (R : Row 1 Au.na h p cap xs) (hl : xs.length ≤ 2 ^ 40) {Q : Value → aA → Prop}
  (hk : ∀ h', Fr (InA p) h h' → Row 1 Au.na h' p cap (mj xs) → Q (.slice p (mj xs).length cap) h') :
  aE Tryz.prog jf #[.slice p xs.length cap] h Q := by
 apply rE
 unfold mq
 have Rl := R.le
 have same : ∀ xs' : List Int, mj xs = xs' → xs' = xs → Q (.slice p xs.length cap) h := fun xs' e1 e2 => by
  have e := e1.trans e2
  have := hk h (Fr.refl _ _) (by rw [e]; exact R)
  rw [e] at this; exact this
 refine ifD (fun h2 => ?_) (fun h2 => ?_)
 ·refine same xs ?_ rfl
  unfold mj
  have : xs.length - 1 = 0 := by omega
  rw [this, List.take_of_length_le (by omega)]; simp [ir]
 refine aJ.mk (fun st h' => ∃ k : Nat, st = ((k + 1 : Nat) : Int) ∧ k + 1 ≤ xs.length ∧ h = h' ∧ ∀ i, i < k → xs.getD (1 + i) 0 ≠ xs.getD (1 + i - 1) 0) (fun st _ => xs.length - st.toNat) ⟨0, rfl, by omega, rfl, fun i hi => absurd hi (Nat.not_lt_zero _)⟩ ?_
 rintro st h' ⟨k, rfl, hkl, eh, hn⟩
 subst eh
 unfold jh
 refine ifD (fun hlt => ?_) (fun hge => ?_)
 ·have hk1 : k + 1 < xs.length := by omega
  obtain ⟨ad, rfl, c1⟩ := R.cellsAt kw (by omega) (k + 1) hk1
  obtain ⟨ad', e', c0⟩ := R.cellsAt kw (by omega) k (by omega)
  cases e'
  have ew : wrap .i64 (((k + 1 : Nat) : Int) - 1) = (k : Int) := by rw [wr (by omega) (by omega)]; omega
  rw [ew]
  refine bS (k + 1) rfl hk1 (aS ?_)
  rw [Int.toNat_natCast]
  refine aB (c1.at0 rfl) ?_
  refine bS k rfl (by omega) (aS ?_)
  rw [Int.toNat_natCast]
  refine aB (c0.at0 rfl) ?_
  have hg : ∀ i (hi : i < xs.length), xs.getD i 0 = xs[i] := fun i hi => sU xs i hi
  refine ifE (fun e => ?_) fun e => ?_
  ·refine Iu (by omega) (by omega) ?_
   rw [if_neg (by omega)]
   refine aJ.mk (fun st h' => ∃ m : Nat, st = (((k + 1 + (ir xs (k + 2) m).length : Nat) : Int), ((m + 1 : Nat) : Int)) ∧ k + 2 + m ≤ xs.length ∧ Fr (InA (some ad)) h h' ∧ Row 1 Au.na h' (some ad) cap (xs.take (k + 1) ++ ir xs (k + 2) m ++ xs.drop (k + 1 + (ir xs (k + 2) m).length)))
    (fun st _ => xs.length - st.2.toNat) ⟨0, by simp [ir], by omega, Fr.refl _ _, by simp [ir]; exact R⟩ ?_
   rintro st h1 ⟨m, rfl, hm, f1, R1⟩
   dsimp only
   unfold ji
   have hnl := CO xs (k + 2) m
   have tl : (xs.take (k + 1)).length = k + 1 := by rw [List.length_take]; omega
   have hA : (xs.take (k + 1) ++ ir xs (k + 2) m).length = k + 1 + (ir xs (k + 2) m).length := by rw [List.length_append, tl]
   have L1 : (xs.take (k + 1) ++ ir xs (k + 2) m ++ xs.drop (k + 1 + (ir xs (k + 2) m).length)).length = xs.length := by rw [List.length_append, hA, List.length_drop]; omega
   have atj : ∀ j (hj : j < xs.length), k + 1 + (ir xs (k + 2) m).length ≤ j → bB h1 (ad.add (j * 1)) (Au.na xs[j]) := fun j hj hge => by
    obtain ⟨ad2, e2, c⟩ := R1.cellsAt kw (by omega) j (by omega)
    cases e2
    have : (xs.take (k + 1) ++ ir xs (k + 2) m ++ xs.drop (k + 1 + (ir xs (k + 2) m).length))[j]'(by omega) = xs[j] := by
     rw [List.getElem_append_right (by omega), List.getElem_drop]
     congr 1; omega
    rw [this] at c; exact c
   refine ifD (fun hlt2 => ?_) (fun hge2 => ?_)
   ·have hj : k + 2 + m < xs.length := by omega
    have ew2 : wrap .i64 (((m + 1 : Nat) : Int) - 1) = (m : Int) := by rw [wr (by omega) (by omega)]; omega
    rw [ew2]
    have ea : ∀ n : Nat, Addr.add (Addr.add ad ((k + 1) * 1)) (n * 1) = ad.add ((k + 1 + n) * 1) := fun n => by rw [lY]; congr 1; omega
    have a1 := atj (k + 1 + (m + 1)) (by omega) (by omega)
    have a0 := atj (k + 1 + m) (by omega) (by omega)
    rw [← ea] at a1 a0
    refine bS (m + 1) rfl (by omega) (aS ?_)
    rw [Int.toNat_natCast]
    refine aB (a1.at0 rfl) ?_
    refine bS m rfl (by omega) (aS ?_)
    rw [Int.toNat_natCast]
    refine aB (a0.at0 rfl) ?_
    have g1 : xs.getD (k + 2 + m) 0 = xs[k + 1 + (m + 1)]'(by omega) := by rw [hg _ (by omega)]; congr 1; omega
    have g0 : xs.getD (k + 2 + m - 1) 0 = xs[k + 1 + m]'(by omega) := by rw [hg _ (by omega)]; congr 1; omega
    refine oS (fun ne => ?_) fun eq => ?_
    ·have en : ir xs (k + 2) (m + 1) = ir xs (k + 2) m ++ [xs[k + 1 + (m + 1)]'(by omega)] := by
      rw [oN, g1, g0, if_neg ne]
     refine bS (m + 1) rfl (by omega) (aS ?_)
     rw [Int.toNat_natCast]
     refine aB (a1.at0 rfl) ?_
     refine bS (k + 1 + (ir xs (k + 2) m).length) rfl (by omega) (aS ?_)
     rw [← kM (ad.add ((k + 1 + (ir xs (k + 2) m).length) * 1))]
     refine R1.set1 kw (k + 1 + (ir xs (k + 2) m).length) (by omega) rfl (j := 0) (by omega) (v := .int .i64 (xs[k + 1 + (m + 1)]'(by omega))) rfl (e' := xs[k + 1 + (m + 1)]'(by omega)) rfl fun h3 f3 R3 => ?_
     rw [wr (by omega) (by omega), wr (by omega) (by omega)]
     have ed : xs.drop (k + 1 + (ir xs (k + 2) m).length) = xs[k + 1 + (ir xs (k + 2) m).length]'(by omega) :: xs.drop (k + 1 + (ir xs (k + 2) m).length + 1) := List.drop_eq_getElem_cons (by omega)
     refine ⟨⟨m + 1, by rw [en, List.length_append, List.length_singleton]; rfl, by omega, f1.trans f3, ?_⟩, by dsimp only; omega⟩
     rw [ed] at R3
     have es := Fc (xs.take (k + 1) ++ ir xs (k + 2) m) (xs.drop (k + 1 + (ir xs (k + 2) m).length + 1)) (xs[k + 1 + (ir xs (k + 2) m).length]'(by omega)) (xs[k + 1 + (m + 1)]'(by omega))
     rw [hA] at es
     rw [es] at R3
     rw [en, List.length_append, List.length_singleton, ← List.append_assoc]; exact R3
    ·have en : ir xs (k + 2) (m + 1) = ir xs (k + 2) m := by
      rw [oN, g1, g0, if_pos eq, List.append_nil]
     rw [wr (by omega) (by omega)]
     refine ⟨⟨m + 1, by rw [en]; rfl, by omega, f1, by rw [en]; exact R1⟩, by dsimp only; omega⟩
   ·unfold jg
    have hmm : m = xs.length - (k + 2) := by omega
    have R1l := R1.le
    rw [L1] at R1l
    refine Iu (by omega) (by omega) ?_
    have e3 : xs.length - (k + 1 + (ir xs (k + 2) m).length) = (xs.drop (k + 1 + (ir xs (k + 2) m).length)).length := by rw [List.length_drop]
    have hcl := fun K hK => CQ (ty := T_t) (cs := #[false]) (K := K) R1 hK
    rw [hA, ← e3] at hcl
    refine hcl _ fun h3 f3 R3 => ⟨rfl, ?_⟩
    have ec : mj xs = xs.take (k + 1) ++ ir xs (k + 2) m := by
     have h1 : xs.length - 1 = k + 1 + m := by omega
     unfold mj
     rw [h1]
     have h2 : ir xs 1 (k + 1) = ir xs 1 k := by
      rw [oN, hg _ (by omega), hg _ (by omega), if_pos, List.append_nil]
      have a : 1 + k = k + 1 := by omega
      have b : 1 + k - 1 = k := by omega
      simp only [a, b]
      exact e
     have h3 : ∀ m, ir xs 1 (k + 1 + m) = ir xs 1 k ++ ir xs (k + 2) m := fun m => by
      induction m with
      | zero => rw [Nat.add_zero, h2]; simp [ir]
      | succ m ih =>
       rw [← Nat.add_assoc, oN, ih, oN xs (k + 2) m, List.append_assoc]
       have a : 1 + (k + 1 + m) = k + 2 + m := by omega
       rw [a]
     rw [h3, ← List.append_assoc, DQ hn (by omega)]
    refine HV (by omega) ?_
    have := hk h3 (f1.trans f3) (by rw [ec]; exact R3)
    rw [ec, hA] at this; exact this
  ·rw [wr (by omega) (by omega)]
   refine ⟨⟨k + 1, by omega, by omega, rfl, fun i hi => ?_⟩, by omega⟩
   rcases Nat.lt_or_ge i k with h | h
   ·exact hn i h
   ·have : i = k := by omega
    subst this
    rw [hg _ (by omega), hg _ (by omega)]
    have a : 1 + i = i + 1 := by omega
    have b : 1 + i - 1 = i := by omega
    simp only [a, b]
    exact e
 ·have hkk : k + 1 = xs.length := by omega
  refine same (xs.take (k + 1)) ?_ (by rw [hkk, List.take_length])
  unfold mj
  rw [show xs.length - 1 = k by omega]
  exact DQ hn (by omega)
end Go.Proofs.YtjmfpeiidlpngaaGreatDoor
namespace Go.Proofs.YtjmfpeiidlpngaaGreatDoor.Au
set_option linter.unusedSimpArgs false
set_option linter.unusedVariables false
set_option maxRecDepth 20000
open Go
theorem xU (c : UInt8) (r : Nm) : mA (c :: r) = if c = 63 then 0 else mA r + 1 := by
 unfold mA Cg
 rw [List.findIdx?_cons]
 by_cases h : c = 63
 ·subst h; simp
 ·rw [if_neg h]
  have : (c == 63) = false := by simpa using h
  rw [this]
  cases List.findIdx? (fun x => x == 63) r <;> simp
theorem Fl : ∀ (l : Nm) (b : UInt8), b ∈ l.take (mA l) → b ≠ 63
 | [], b, h => by simp at h
 | c :: r, b, h => by
  rw [xU] at h
  by_cases e : c = 63
  ·rw [if_pos e] at h; simp at h
  ·rw [if_neg e, List.take_succ_cons] at h
   rcases List.mem_cons.1 h with rfl | h
   ·exact e
   ·exact Fl r b h
def emp : Nm → Nat
 | [] => 1
 | c :: _ => if c = 63 then 1 else 0
theorem nB (c : UInt8) (r : Nm) : emp (c :: r) = if c = 63 then 1 else 0 := rfl
theorem HW (l : Nm) : emp l ≤ 1 := by unfold emp; repeat (first | split | omega)
theorem JY {l : Nm} (h : mA l ≠ 0) : emp l = 0 := by
 cases l with
 | nil => exact absurd rfl h
 | cons c r =>
  rw [xU] at h
  rw [nB]
  by_cases e : c = 63
  ·rw [if_pos e] at h; exact absurd rfl h
  ·rw [if_neg e]
theorem IA {l : Nm} (h : mA l = 0) : emp l = 1 := by
 cases l with
 | nil => rfl
 | cons c r =>
  rw [xU] at h
  rw [nB]
  by_cases e : c = 63
  ·rw [if_pos e]
  ·rw [if_neg e] at h; omega
def phi (l : Nm) : Nat := l.length + emp l
theorem m7 {l m : Nm} (h : m.length + 1 ≤ l.length) : phi m ≤ phi l := by have := HW m; unfold phi; omega
theorem FC (l : Nm) : phi (cI l) ≤ phi l := by
 cases l with
 | nil => exact Nat.le_refl _
 | cons c r =>
  unfold phi
  rw [jq]
  have : emp (cI (c :: r)) ≤ emp (c :: r) := by
   unfold cI
   rw [List.map_cons, nB, nB]
   by_cases h : c = 63
   ·subst h; rw [if_pos rfl]; split <;> omega
   ·rw [if_neg h]
    have : iC c ≠ 63 := fun e => h (by
     unfold iC at e
     split at e
     ·rename_i hc
      have h1 := congrArg UInt8.toNat e
      have h2 : 65 ≤ c.toNat := UInt8.le_iff_toNat_le.1 hc.1
      have h3 : c.toNat ≤ 90 := UInt8.le_iff_toNat_le.1 hc.2
      rw [UInt8.toNat_add] at h1
      have h4 : (c.toNat + (32 : UInt8).toNat) % 256 = c.toNat + 32 := by show (c.toNat + 32) % 256 = _; omega
      have h5 : (63 : UInt8).toNat = 63 := rfl
      omega
     ·exact e)
    rw [if_neg this]; omega
  omega
theorem GK (l : Nm) : phi (oU l) ≤ phi l := by
 cases l with
 | nil => exact Nat.le_refl _
 | cons c r =>
  unfold oU
  rw [List.filter_cons]
  have := List.length_filter_le rM r
  split
  ·unfold phi; rw [nB, nB]; simp only [List.length_cons]; omega
  ·exact m7 (by simp only [List.length_cons]; omega)
theorem Jg (l : Nm) : phi (sD l) ≤ phi l := by
 match l with
 | [] => exact Nat.le_refl _
 | [a] => exact Nat.le_refl _
 | [a, b] => exact Nat.le_refl _
 | c :: a :: b :: r =>
  rw [sD]
  split
  ·exact m7 (by have := xh r; simp only [List.length_cons]; omega)
  ·have := xh (a :: b :: r)
   unfold phi
   rw [nB, nB]
   simp only [List.length_cons] at this ⊢
   omega
theorem JK (l : Nm) : phi (sq (-1) l) ≤ phi l := by
 cases l with
 | nil => exact Nat.le_refl _
 | cons c r =>
  rw [sq]
  split
  ·exact m7 (by have := vm r (-1); simp only [List.length_cons]; omega)
  ·rw [if_pos (by omega)]
   exact m7 (by have := vm r (pR (bP c)); simp only [List.length_cons]; omega)
theorem GY (l : Nm) : phi (r7 0 0 l) ≤ phi l := by
 cases l with
 | nil => exact Nat.le_refl _
 | cons c r =>
  rw [r7]
  split
  ·exact m7 (by simp)
  ·split
   ·exact m7 (by have := vh r 0 0; simp only [List.length_cons]; omega)
   ·rw [if_neg (by omega)]
    exact m7 (by have := vh r (0 * 64 + (wG c).toNat) (0 + 6); simp only [List.length_cons]; omega)
theorem Hl (k : List Nm) (s : Nm) (h : mE s = true) : cN (od k s) ≤ cN k := by
 unfold mE at h
 unfold od
 split
 ·exact Nat.le_refl _
 ·rename_i hn
  split
  ·exact yn k
  ·rename_i h2
   simp only [Bool.or_eq_true, decide_eq_true_eq] at h
   rcases h with (h | h) | h
   ·exact absurd (.inl h) hn
   ·exact absurd (.inr h) hn
   ·exact absurd h h2
theorem Bh (t : List Nm) (ht : t ≠ []) : cN (cP t) + (if mE (t.getLast ht) = true then 1 else 0) ≤ cN t := by
 rcases List.eq_nil_or_concat t with h | ⟨t', s, h⟩
 ·exact absurd h ht
 ·rw [List.concat_eq_append] at h
  subst h
  rw [List.getLast_concat]
  unfold cP
  rw [List.foldl_append, List.foldl_cons, List.foldl_nil, u3]
  have h1 := uW t' []
  have h0 : cN ([] : List Nm) = 0 := rfl
  split
  ·rename_i he
   have := Hl (t'.foldl od []) s he
   omega
  ·have := BM (t'.foldl od []) s
   omega
theorem FG {ts : List Nm} (h : ts ≠ []) : (Lib.join ts [47]).length + 1 ≤ cN ts := by
 cases ts with
 | nil => exact absurd rfl h
 | cons a r =>
  rw [Lib.join_cons]
  unfold Lib.joinTail cN
  rw [List.length_append, List.length_flatten, List.map_map, List.map_cons, List.sum_cons]
  have : (r.map (List.length ∘ fun x => [47] ++ x)).sum = (r.map fun t => t.length + 1).sum := by
   have hf : (List.length ∘ fun x : Nm => [47] ++ x) = fun t => t.length + 1 := by funext x; show ([47] ++ x : Nm).length = _; simp
   rw [hf]
  rw [this]; omega
theorem Ea (p : Nm) : (uq p).length ≤ p.length ∨ (uq p = [47]) := by
 unfold uq
 split
 ·exact .inr rfl
 rename_i hk
 refine .inl ?_
 have hj := FG hk
 have hs := vv p
 rw [List.length_append, List.length_append]
 have a2 : (if mE ((aR p).getLast (jk p)) = true then ([47] : Nm) else []).length = if mE ((aR p).getLast (jk p)) = true then 1 else 0 := by split <;> rfl
 rw [a2]
 by_cases h1 : p.take 1 = [47]
 ·rw [if_pos h1]
  cases p with
  | nil => cases h1
  | cons c q =>
   simp only [List.take_succ_cons, List.take_zero, List.cons.injEq, and_true] at h1
   subst h1
   have e : aR (47 :: q) = [] :: aR q := by rw [aR, if_pos rfl]
   have ek : cP (aR (47 :: q)) = cP (aR q) := by rw [e]; rfl
   have el : (aR (47 :: q)).getLast (jk _) = (aR q).getLast (jk q) := by
    have : ∀ (t : List Nm) (h : t ≠ []) (hq : aR q ≠ []), t = [] :: aR q → t.getLast h = (aR q).getLast hq := fun t h hq ht => by
     subst ht; exact List.getLast_cons hq
    exact this _ _ _ e
   have h3 := Bh (aR q) (jk q)
   have h4 : cN (aR (47 :: q)) = 1 + cN (aR q) := by rw [e]; unfold cN; simp
   rw [ek] at hj ⊢
   rw [el]
   simp only [List.length_cons, List.length_nil] at *
   omega
 ·rw [if_neg h1]
  have h3 := Bh (aR p) (jk p)
  simp only [List.length_nil]
  omega
theorem Ir {ts : List Nm} {b : UInt8} (h : b ∈ Lib.join ts [47]) : b = 47 ∨ ∃ t ∈ ts, b ∈ t := by
 cases ts with
 | nil => rw [Lib.join_nil] at h; cases h
 | cons a r =>
  rw [Lib.join_cons] at h
  rcases List.mem_append.1 h with h | h
  ·exact .inr ⟨a, by simp, h⟩
  ·unfold Lib.joinTail at h
   obtain ⟨x, hx, hb⟩ := List.mem_flatten.1 h
   obtain ⟨t, ht, rfl⟩ := List.mem_map.1 hx
   rcases List.mem_append.1 hb with hb | hb
   ·exact .inl (by simpa using hb)
   ·exact .inr ⟨t, List.mem_cons_of_mem _ ht, hb⟩
theorem C5 : ∀ (ss k : List Nm) (t : Nm), t ∈ ss.foldl od k → t ∈ k ∨ t ∈ ss
 | [], k, t, h => .inl h
 | s :: ss, k, t, h => by
  rw [List.foldl_cons] at h
  rcases C5 ss _ t h with h | h
  ·unfold od at h
   split at h
   ·exact .inl h
   ·split at h
    ·exact .inl ((List.dropLast_sublist _).subset h)
    ·rcases List.mem_append.1 h with h | h
     ·exact .inl h
     ·exact .inr (by rw [List.mem_singleton.1 h]; simp)
  ·exact .inr (List.mem_cons_of_mem _ h)
theorem vi : ∀ (l : Nm) (t : Nm) (b : UInt8), t ∈ aR l → b ∈ t → b ∈ l
 | [], t, b, h, hb => by
  unfold aR at h
  rw [List.mem_singleton.1 h] at hb; cases hb
 | c :: l, t, b, h, hb => by
  unfold aR at h
  split at h
  ·rcases List.mem_cons.1 h with rfl | h
   ·cases hb
   ·exact List.mem_cons_of_mem _ (vi l t b h hb)
  ·cases hs : aR l with
   | nil => exact absurd hs (jk l)
   | cons x xs =>
    rw [hs] at h
    rcases List.mem_cons.1 h with rfl | h
    ·rcases List.mem_cons.1 hb with rfl | hb
     ·simp
     ·exact List.mem_cons_of_mem _ (vi l x b (by rw [hs]; simp) hb)
    ·exact List.mem_cons_of_mem _ (vi l t b (by rw [hs]; simp [h]) hb)
theorem Ge {p : Nm} {b : UInt8} (h : b ∈ uq p) : b = 47 ∨ b ∈ p := by
 unfold uq at h
 split at h
 ·exact .inl (by simpa using h)
 ·rcases List.mem_append.1 h with h | h
  ·rcases List.mem_append.1 h with h | h
   ·split at h
    ·exact .inl (by simpa using h)
    ·cases h
   ·rcases Ir h with h | ⟨t, ht, hb⟩
    ·exact .inl h
    ·rcases C5 _ _ t ht with h | h
     ·cases h
     ·exact .inr (vi p t b h hb)
  ·split at h
   ·exact .inl (by simpa using h)
   ·cases h
theorem IM (l : Nm) : phi (Bg l) ≤ phi l := by
 unfold Bg
 have hc := Eg l
 have htl : (l.take (mA l)).length = mA l := by rw [List.length_take]; omega
 by_cases h0 : mA l = 0
 ·have e1 : uq (l.take (mA l)) = [47] := by rw [h0, List.take_zero]; rfl
  rw [e1, h0, List.drop_zero]
  have := IA h0
  unfold phi
  rw [this]
  show (47 :: l : Nm).length + (if (47 : UInt8) = 63 then 1 else 0) ≤ _
  rw [if_neg (by decide)]
  simp
 ·have he := JY h0
  cases hp : uq (l.take (mA l)) with
  | nil => exact m7 (by rw [List.nil_append, List.length_drop]; omega)
  | cons c q =>
   have hn : c ≠ 63 := by
    rcases Ge (p := l.take (mA l)) (b := c) (by rw [hp]; simp) with h | h
    ·rw [h]; decide
    ·exact Fl l c h
   unfold phi
   rw [List.cons_append]
   have e0 : emp (c :: (q ++ l.drop (mA l))) = 0 := by rw [nB, if_neg hn]
   rw [e0, he, ← List.cons_append, ← hp, List.length_append, List.length_drop]
   rcases Ea (l.take (mA l)) with h | h
   ·omega
   ·rw [h]; simp only [List.length_cons, List.length_nil]; omega
theorem Lc (k : Int) (l : Nm) : phi (trL k l) ≤ phi l := by
 unfold trL
 split
 ·exact FC l
 split
 ·exact GK l
 split
 ·exact Jg l
 split
 ·exact GY l
 split
 ·exact IM l
 split
 ·exact JK l
 ·exact Nat.le_refl _
theorem Dz : ∀ (ks : List Int) (l : Nm), phi (ks.foldl (fun s k => trL k s) l) ≤ phi l
 | [], l => Nat.le_refl _
 | k :: ks, l => by rw [List.foldl_cons]; exact Nat.le_trans (Dz ks _) (Lc k l)
theorem D7 (ks : List Int) (l : Nm) : (jO ks l).length ≤ l.length + 1 := by
 have h1 : phi (jO ks l) ≤ phi l := Dz _ l
 have h2 := HW l
 unfold phi at h1
 omega
end Go.Proofs.YtjmfpeiidlpngaaGreatDoor.Au
namespace Go.Proofs.YtjmfpeiidlpngaaGreatDoor
set_option linter.unusedSimpArgs false
set_option linter.unusedVariables false
set_option maxRecDepth 20000
open Go
open Go.IntKind (wrap)
def qT (rs : List (List Int)) (sn : List Bool) (k : Nat) : List Int := (List.range k).flatMap fun i => if sn.getD i false = true then rs.getD i [] else []
theorem wu (rs : List (List Int)) (sn : List Bool) (k : Nat) : qT rs sn (k + 1) = qT rs sn k ++ if sn.getD k false = true then rs.getD k [] else [] := by
 unfold qT
 rw [List.range_succ, List.flatMap_append, List.flatMap_cons, List.flatMap_nil, List.append_nil]
theorem FT {rs : List (List Int)} {sn : List Bool} {m : Nat} (h : ∀ r ∈ rs, r.length ≤ m) (k : Nat) : (qT rs sn k).length ≤ k * m := by
 induction k with
 | zero => simp [qT]
 | succ k ih =>
  rw [wu, List.length_append, Nat.succ_mul]
  have : (if sn.getD k false = true then rs.getD k [] else []).length ≤ m := by
   split
   ·rw [List.getD_eq_getElem?_getD]
    cases hk : rs[k]? with
    | none => simp
    | some r => exact h r (List.mem_of_getElem? hk)
   ·simp
  omega
def DD (g : Gr) (w : Au.Nm) : List Int := g.Always.xs ++ qT (g.Rules.xs.map (·.xs)) (ij g w) (ij g w).length
def pM (K : List Gr) (w : Au.Nm) : List Int := K.flatMap fun g => DD g w
structure GSz (g : Gr) : Prop where
 rl : g.Rules.xs.length = g.Patterns.xs.length
 pl : g.Patterns.xs.length ≤ 40
 al : g.Always.xs.length ≤ 40
 ru : ∀ r ∈ g.Rules.xs, r.xs.length ≤ 40
theorem GSz.pick {g : Gr} (z : GSz g) (sn : List Bool) {k : Nat} (hk : k ≤ 40) : (qT (g.Rules.xs.map (·.xs)) sn k).length ≤ 1600 := by
 have := FT (rs := g.Rules.xs.map (·.xs)) (sn := sn) (m := 40) (fun r hr => by obtain ⟨s, hs, rfl⟩ := List.mem_map.1 hr; exact z.ru s hs) k
 omega
theorem GSz.sl {g : Gr} (z : GSz g) (w : Au.Nm) : (ij g w).length ≤ 40 := by rw [sO, qu]; exact z.pl
theorem HU {g : Gr} (z : GSz g) (w : Au.Nm) : (DD g w).length ≤ 2000 := by
 unfold DD
 rw [List.length_append]
 have := z.pick (ij g w) (z.sl w)
 have := z.al
 omega
theorem FM (K : List Gr) (g : Gr) (w : Au.Nm) : pM (K ++ [g]) w = pM K w ++ DD g w := by unfold pM; rw [List.flatMap_append]; simp
theorem CU {w : Au.Nm} : ∀ {K : List Gr}, (∀ g ∈ K, GSz g) → (pM K w).length ≤ K.length * 2000
 | [], _ => by simp [pM]
 | g :: K, h => by
  unfold pM
  rw [List.flatMap_cons, List.length_append, List.length_cons, Nat.succ_mul]
  have h1 := HU (h g (by simp)) w
  have h2 : (pM K w).length ≤ K.length * 2000 := CU fun x hx => h x (List.mem_cons_of_mem _ hx)
  unfold pM at h2
  omega
def trW (K : List Gr) (w : Au.Nm) : Nat := (K.map fun g => if trans g = true then (Au.jO g.Transforms.xs w).length else 0).sum
theorem HR (K : List Gr) (g : Gr) (w : Au.Nm) : trW (K ++ [g]) w = trW K w + if trans g = true then (Au.jO g.Transforms.xs w).length else 0 := by
 unfold trW; rw [List.map_append, List.sum_append]; simp
theorem K0 (K : List Gr) (w : Au.Nm) : trW K w ≤ K.length * (w.length + 1) := by
 unfold trW
 induction K with
 | nil => simp
 | cons g K ih =>
  rw [List.map_cons, List.sum_cons, List.length_cons, Nat.succ_mul]
  have := Au.D7 g.Transforms.xs w
  split <;> omega
structure xp (N : Nat) (F : Nat → Prop) (h0 : aA) (t1 s c t9 : Addr) (f : aT) (dir : Int) (bs : List Bd) (gs K : List Gr) (av pa : List Addr) (kp : Option Addr) (w : Au.Nm) (pp : Option Addr) (pc : Nat) (o : Tag) (h : aA) (sn : Nat → Gr → List Bool) (work : Int) (out : List Int) : Prop where
 fr : Fr F h0 h
 k1 : Kp (fun x => o x = 0) h fun h' => bB h' t1 [.pointer (some c)]
 R : ly N (fun y => F y ∨ h0.size ≤ y) o h s c t9 bs gs K av pa (fun _ => w) sn
 C : ug o h s c f dir (pa ++ kp.toList) (if qX K = true then w else []) work true out
 KP : BL o h t9 kp
 Rp : Row 1 adV h pp pc (pa ++ kp.toList)
 tp : ∀ y, InA pp y → o y = 4
section
variable {N : Nat} {F : Nat → Prop} {h0 : aA} {t1 s c t9 : Addr} {f : aT} {dir : Int} {bs : List Bd} {gs K : List Gr} {av pa : List Addr} {kp : Option Addr} {w : Au.Nm} {pp : Option Addr} {pc : Nat} {o : Tag} {h : aA} {sn : Nat → Gr → List Bool} {work : Int} {out : List Int}
theorem xp.own (I : xp N F h0 t1 s c t9 f dir bs gs K av pa kp w pp pc o h sn work out) : ∀ y, y < h.size → o y ≠ 0 → o y ≠ 9 → y < h0.size → F y := fun y hy h0' h9 hyh => by
 rcases I.R.fp y hy (by
  rcases Nat.lt_or_ge y N with hl | hl
  ·exact absurd (I.R.low y hl) h0'
  ·exact hl) h9 with hh | hh
 ·exact hh
 ·omega
theorem xp.outCell (I : xp N F h0 t1 s c t9 f dir bs gs K av pa kp w pp pc o h sn work out) : ∃ op oc, hcell h (c.add 15) = some (.slice op out.length oc) := by
 obtain ⟨tg, pp1, pc1, bp, bc, op, oc, ow, _⟩ := I.C
 exact ⟨op, oc, ow.cells.at (j := 15) rfl⟩
theorem xp.push [Gh] (I : xp N F h0 t1 s c t9 f dir bs gs K av pa kp w pp pc o h sn work out) {xs : List Int} {v : Value} (src : Src h 1 v xs.length (xs.flatMap Au.na)) (hl : out.length + xs.length ≤ 2 ^ 30)
  {op : Option Addr} {oc : Nat} (hc : hcell h (c.add 15) = some (.slice op out.length oc)) {K' : aA → Prop}
  (hk : ∀ h' o', Au.Old h o o' → Fr (fun x => o x = 1 ∨ o x = 3) h h' → xp N F h0 t1 s c t9 f dir bs gs K av pa kp w pp pc o' h' sn work (out ++ xs) → K' h') :
  dU Tryz.prog .append #[bL, bL] bL #[false, false] #[.slice op out.length oc, v] h fun v h4 => ∃ t44a : Option Addr, ∃ t44n : Nat, ∃ t44c : Nat, v = .slice t44a t44n t44c ∧ (ldP h4 t1 fun t931 => (.pointer t931 : Value) = .pointer (some c)) ∧ nn (some c) fun t45 => st1 h4 (Addr.add t45 15) (.slice t44a t44n t44c) fun h5 => K' h5 := by
 have own := I.own
 obtain ⟨fr, k1, R, C, KP, Rp, tp⟩ := I
 obtain ⟨tg, pp1, pc1, bp, bc, op', oc', ow, R1, t1', R2, t2, R3, t3⟩ := C
 have e := hc.symm.trans (ow.cells.at (j := 15) rfl)
 simp only [Option.some.injEq, Value.slice.injEq, true_and] at e
 obtain ⟨rfl, rfl⟩ := e
 refine R3.appL Au.ti Tryz.underlying46 (by intro k e; cases e) (by kernel_rfl) (by decide +kernel) kw EU src hl fun op2 oc2 h2 R3' f2 hn2 => ⟨_, _, _, rfl, ?_⟩
 have z2 := f2.size
 have k12 := k1.fr (B' := fun y => o y = 0) f2 (fun y hy h1 hh => by have := t3 y hh; omega) fun _ _ => id
 refine ⟨aU (k12.now.at0 rfl) rfl, aS ?_⟩
 have ow2 := ow.fr f2 fun hh => by have := t3 _ hh; omega
 have lc := ow.lt
 refine cH ow2 15 (by show 15 < 16; omega) rfl fun h3 f3 z3 ow3 => ?_
 have z3' := f3.size
 have Ft : Fr (fun y => InA op y ∨ y = c.block) h h3 := (f2.mono fun _ => .inl).trans (f3.mono fun _ => .inr)
 have up : ∀ y, y < h.size → Au.upT o h.size 3 y = o y := fun y hy => Au.dY hy
 have tS : ∀ y, (InA op y ∨ y = c.block) → o y = 3 ∨ o y = 1 := fun y hh => by
  rcases hh with hh | hh
  ·exact .inl (t3 y hh)
  ·exact .inr (by rw [hh]; exact tg)
 refine hk h3 (Au.upT o h.size 3) (Au.Old.up (Nat.le_refl _)) (Ft.mono fun y hy => by have := tS y hy; omega) ⟨fr.tr Ft fun y hy hh => own y (by have := fr.size; omega) (by have := tS y hh; omega) (by have := tS y hh; omega) hy, k1.tag Ft (Au.Old.up (Nat.le_refl _)) fun y hy hh => by have := tS y hh; omega,
  R.fr Ft (Au.Old.up (Nat.le_refl _)) (fun y hy hh => by have := tS y hh; omega) (fun y hy hn hne => ?_) Ft.size, ?_, KP.fr Ft (Au.Old.up (Nat.le_refl _)) (fun y hy hh => by have := tS y hh; omega), Rp.fr Ft (fun y hy hh => by have := tp y hy; have := tS y hh; omega), fun y hy => by rw [up y (Rp.lt hy)]; exact tp y hy⟩
 ·rcases Nat.lt_or_ge y h.size with hl | hl
  ·exact R.fp y hl hn (by rw [← up y hl]; exact hne)
  ·exact .inr (by have := fr.size; omega)
 ·refine ⟨by rw [up _ lc]; exact tg, pp1, pc1, bp, bc, op2, oc2, ow3, R1.fr Ft (fun y hy hh => by have := t1' y hy; have := tS y hh; omega), fun y hy => by rw [up y (R1.lt hy)]; exact t1' y hy,
   R2.fr Ft (fun y hy hh => by have := t2 y hy; have := tS y hh; omega), fun y hy => by rw [up y (R2.lt hy)]; exact t2 y hy, R3'.fr f3 (fun y hy hh => ?_), fun y hy => ?_⟩
  ·rcases hn2 y hy with h5 | h5
   ·have := t3 y h5; rw [hh, tg] at this; omega
   ·omega
  ·rcases hn2 y hy with h5 | h5
   ·rw [up y (R3.lt h5)]; exact t3 y h5
   ·exact Au.ka h5
end
def xb (F : Nat → Prop) (h : aA) (c : Addr) (work : Int) (out : List Int) : Prop :=
 ∃ s f dir pp pn pc bp bn bc op oc, Own h c (yX s f dir pp pn pc bp bn bc work true op out.length oc) iW ∧ Row 1 Au.na h op oc out ∧ ¬ InA op c.block ∧ F c.block ∧ ∀ x, InA op x → F x
theorem xb.fr {F S : Nat → Prop} {h h' : aA} {c : Addr} {work : Int} {out : List Int} (D : xb F h c work out) (f : Fr S h h') (hs : ∀ x, S x → ¬ F x) : xb F h' c work out := by
 obtain ⟨s, fl, dir, pp, pn, pc, bp, bn, bc, op, oc, ow, R, h1, h2, h3⟩ := D
 exact ⟨s, fl, dir, pp, pn, pc, bp, bn, bc, op, oc, ow.fr f fun hh => hs _ hh h2, R.fr f fun x hx hh => hs _ hh (h3 x hx), h1, h2, h3⟩
def uT (bs : List Bd) (f : aT) (dir : Int) (x : Int) : Bool := !(atB (fun b => Au.iU b f dir) bs x.toNat)
def wj (bs : List Bd) (f : aT) (dir : Int) (l : List Int) : List Int := mj (Au.oy (dW (uT bs f dir) l))
set_option maxHeartbeats 1000000 in
theorem Js [Gh] {N : Nat} {F : Nat → Prop} {h0 : aA} {t1 s c t9 : Addr} {f : aT} {dir : Int} {bs : List Bd} {gs K : List Gr} {av pa : List Addr} {kp : Option Addr} {w : Au.Nm} {pp : Option Addr} {pc : Nat} {o : Tag} {h : aA} {sn : Nat → Gr → List Bool} {work : Int} {out : List Int}
  (I : xp N F h0 t1 s c t9 f dir bs gs K av pa kp w pp pc o h sn work out) (hb : bs.length ≤ 40) (hr : ∀ x ∈ out, 0 ≤ x ∧ x < bs.length) (hl : out.length ≤ 2 ^ 19) {Q : Value → aA → Prop}
  (hk : ∀ p pc h', Fr F h0 h' → xb (fun y => F y ∨ h0.size ≤ y) h' c work (wj bs f dir out) → Row 1 Au.na h' p pc (wj bs f dir out) → (∀ x, InA p x → h.size ≤ x) → Q (.slice p (wj bs f dir out).length pc) h') :
  eZ t1 Q h := by
 have own := I.own
 obtain ⟨fr, k1, R, C, KP, Rp, tp⟩ := I
 obtain ⟨tg, pp1, pc1, bp, bc, op, oc, ow, R1, t1', R2, t2, R3, t3⟩ := C
 have lc := ow.lt
 have zf := fr.size
 have nc : ¬ InA op c.block := fun hh => by have := t3 _ hh; omega
 have k1f : ∀ {h'}, Fr (fun y => InA op y ∨ y = c.block) h h' → bB h' t1 [.pointer (some c)] := fun f => (k1.fr (B' := fun y => o y = 0) f (fun y hy h1 hh => by
  rcases hh with hh | hh
  ·have := t3 y hh; omega
  ·rw [hh, tg] at h1; omega) fun _ _ => id).now
 unfold eZ
 refine aU (k1.now.at0 rfl) (aU (k1.now.at0 rfl) (aS (aD (ow.cells.at (j := 15) rfl) ?_)))
 have D : KS (.func (.func 46) #[] #[.pointer (some t1)]) op h out (uT bs f dir) := by
  intro h' f' x hx Q hQ
  have c1 := k1f (f'.mono fun _ => .inl)
  have ow' := ow.fr f' nc
  obtain ⟨h1, h2⟩ := hr x hx
  obtain ⟨n, rfl⟩ : ∃ n : Nat, x = n := ⟨x.toNat, by omega⟩
  have hn : n < bs.length := by omega
  have T := R.set.fr f' fun y hy hh => by
   rcases Nat.lt_or_ge y N with hl | hl
   ·have := R.low y hl; have := t3 y hh; omega
   ·exact hl
  obtain ⟨p1, cc1, v, cs, ok⟩ := T.rd hb
  rw [cK]
  apply qo
  unfold ld
  refine aU (c1.at0 rfl) (aS (aU (ow'.cells.at0 rfl) (aS (aD (cs.at0 rfl) ?_))))
  refine eN ok n rfl hn fun ad cc okr => ?_
  rw [Int.toNat_natCast]
  refine (aB (cc.at0 rfl) (aB (cc.at rfl) (aD (cc.at rfl) (aD (cc.at rfl) (aD (cc.at rfl) (aD (cc.at rfl) (aG (cc.at rfl) (aB (cc.at rfl) (aB (cc.at rfl) (aB (cc.at rfl) (aY (cc.at rfl) (aB (cc.at rfl) (aB (cc.at rfl) (aD (cc.at rfl) (aD (cc.at rfl) (aD (cc.at rfl) (aD (cc.at rfl) (aB (cc.at rfl) (aB (cc.at rfl) (aB (cc.at rfl) (aB (cc.at rfl) (aD (cc.at rfl) (aD (cc.at rfl) (aD (cc.at rfl) (aD (cc.at rfl) ?_)))))))))))))))))))))))))
  refine aU (c1.at0 rfl) (aS ?_)
  refine (aB (ow'.cells.at rfl) (aG (ow'.cells.at rfl) (aB (ow'.cells.at rfl) (aB (ow'.cells.at rfl) (aG (ow'.cells.at rfl) (aB (ow'.cells.at rfl) (aB (ow'.cells.at rfl) (aB (ow'.cells.at rfl) (aB (ow'.cells.at rfl) ?_)))))))))
  refine aU (c1.at0 rfl) (aS (aB (ow'.cells.at (j := 10) rfl) ?_))
  refine Au.Bi bs[n] f dir okr fun h3 f3 => ⟨_, rfl, ?_⟩
  have := hQ h3 f3
  unfold uT at this
  rw [Int.toNat_natCast, u1 _ _ _ hn] at this
  exact this
 refine CA R3 D (by omega) fun h8 f8 R8 => ⟨_, _, _, rfl, ?_⟩
 have kl := Bx (uT bs f dir) out
 have F8 : Fr (fun y => InA op y ∨ y = c.block) h h8 := f8.mono fun _ => .inl
 refine ⟨aU ((k1f F8).at0 rfl) rfl, aS ?_⟩
 have ow8 := ow.fr f8 nc
 refine cH ow8 15 (by show 15 < 16; omega) rfl fun h9 f9 z9 ow9 => ?_
 have F9 := F8.trans (f9.mono fun y hy => .inr hy)
 refine aU ((k1f F9).at0 rfl) (aS (aD (ow9.cells.at (j := 15) rfl) ?_))
 have R9 := R8.fr f9 fun y hy hh => nc (by rw [← hh]; exact hy)
 refine Au.Fs R9 (by omega) fun h10 f10 R10 => ⟨rfl, ?_⟩
 have F10 := F9.trans (f10.mono fun y hy => .inl hy)
 have ow10 := ow9.fr f10 nc
 have hsl : (Au.oy (dW (uT bs f dir) out)).length = (dW (uT bs f dir) out).length := List.length_mergeSort _
 refine aU ((k1f F10).at0 rfl) (aU ((k1f F10).at0 rfl) (aS (aD (ow10.cells.at (j := 15) rfl) ?_)))
 have cmp := fun (Q : Value → aA → Prop) => GA (Q := Q) R10 (by omega)
 rw [hsl] at cmp
 refine cmp _ fun h11 f11 R11 => ⟨_, _, _, rfl, ?_⟩
 have F11 := F10.trans (f11.mono fun y hy => .inl hy)
 have ow11 := ow10.fr f11 nc
 refine ⟨aU ((k1f F11).at0 rfl) rfl, aS ?_⟩
 refine cH ow11 15 (by show 15 < 16; omega) rfl fun h12 f12 z12 ow12 => ?_
 have F12 := F11.trans (f12.mono fun y hy => .inr hy)
 have R12 := R11.fr f12 fun y hy hh => nc (by rw [← hh]; exact hy)
 unfold fA
 refine aU ((k1f F12).at0 rfl) (aS (aD (ow12.cells.at (j := 15) rfl) ?_))
 have hcl : (mj (Au.oy (dW (uT bs f dir) out))).length ≤ out.length + 1 := by
  unfold mj
  rw [List.length_append, List.length_take]
  have := CO (Au.oy (dW (uT bs f dir) out)) 1 ((Au.oy (dW (uT bs f dir) out)).length - 1)
  omega
 have hin : ∀ x ∈ mj (Au.oy (dW (uT bs f dir) out)), kOk .i64 h12 x := fun x hx => by
  have h1 : x ∈ Au.oy (dW (uT bs f dir) out) := by
   unfold mj at hx
   rcases List.mem_append.1 hx with hx | hx
   ·exact List.mem_of_mem_take hx
   ·unfold ir at hx
    obtain ⟨k, hk, e⟩ := List.mem_filterMap.1 hx
    split at e
    ·cases e
    ·simp only [Option.some.injEq] at e
     rw [List.mem_range] at hk
     rw [sU _ _ (by omega)] at e
     rw [← e]; exact List.getElem_mem _
  have h2 : x ∈ dW (uT bs f dir) out := (List.mergeSort_perm _ _).mem_iff.1 h1
  have h3 := hr x ((List.mem_filter.1 h2).1)
  exact Fp.D4 (by omega) (by omega)
 have os : bJ 1 (fun n : Int => [Value.int .i64 n]) (kOk .i64) h12 ⟨op, oc, mj (Au.oy (dW (uT bs f dir) out))⟩ := Row.sl (vals := fun n : Int => [Value.int .i64 n]) R12 (fun _ => rfl) (by omega) (by omega) hin
 refine zQ ⟨op, oc, mj (Au.oy (dW (uT bs f dir) out))⟩ os (by show (mj _).length ≤ 2 ^ 20; omega) fun p' c' h13 f13 R13 hn13 => ⟨_, _, _, rfl, ?_⟩
 have z12' := F12.size
 refine hk p' c' h13 ((fr.tr F12 fun y hy hh => ?_).trans (f13.mono fun _ => False.elim)) ⟨s, f, dir, pp1, _, pc1, bp, _, bc, op, oc, ow12.fr0 f13, R12.fr0 f13, nc, ?_, fun x hx => ?_⟩ R13 fun x hx => by have := hn13 x hx; omega
 ·rcases hh with hh | hh
  ·have h3 := t3 y hh; exact own y (by omega) (by omega) (by omega) hy
  ·rw [hh] at hy ⊢; exact own _ lc (by omega) (by omega) hy
 ·rcases Nat.lt_or_ge c.block h0.size with hl | hl
  ·exact .inl (own _ lc (by omega) (by omega) hl)
  ·exact .inr hl
 ·rcases Nat.lt_or_ge x h0.size with hl | hl
  ·have h3 := t3 x hx; exact .inl (own _ (R3.lt hx) (by omega) (by omega) hl)
  ·exact .inr hl
end Go.Proofs.YtjmfpeiidlpngaaGreatDoor
namespace Go.Proofs.YtjmfpeiidlpngaaGreatDoor
set_option linter.unusedSimpArgs false
set_option linter.unusedVariables false
set_option maxRecDepth 20000
open Go
open Go.IntKind (wrap)
def snK (w : Au.Nm) (k i : Nat) (g : Gr) : List Bool := if i < k then ij g w else iG g w
section
variable {N : Nat} {F : Nat → Prop} {h0 : aA} {t1 s c t9 : Addr} {f : aT} {dir : Int} {bs : List Bd} {gs K : List Gr} {av pa : List Addr} {kp : Option Addr} {w : Au.Nm} {pp : Option Addr} {pc : Nat} {o : Tag} {h : aA} {work : Int} {out : List Int}
set_option maxHeartbeats 1000000 in
theorem I8 [Gh] {k : Nat} (hkK : k < K.length) (hka : k < av.length) (hkp : k < pa.length) (I : xp N F h0 t1 s c t9 f dir bs gs K av pa kp w pp pc o h (snK w (k + 1)) work (out ++ K[k].Always.xs)) (z : GSz K[k]) (hl : out.length ≤ 2 ^ 18)
  {q : Option Addr} {qc : Nat} (hq : hcell h (pa[k].add 1) = some (.slice q (ij K[k] w).length qc)) {pga : Option Addr} {pgn pgc : Nat} {t21 t22 : Int} {Q : Value → aA → Prop} {Kn1 : Int → aA → Prop}
  (hk : ∀ h' o', xp N F h0 t1 s c t9 f dir bs gs K av pa kp w pp pc o' h' (snK w (k + 1)) work (out ++ DD K[k] w) → Kn1 (wrap .i64 (t22 + 1)) h') :
  aJ (fun (s : Int) h Kn => cY t1 (some pa[k]) pga pgn pgc t21 t22 q (ij K[k] w).length qc (((ij K[k] w).length : Nat) : Int) Q Kn1 s h Kn) 0 h := by
 have P := I.R.part k hkK hka hkp
 have esn : snK w (k + 1) k K[k] = ij K[k] w := if_pos (by omega)
 rw [esn] at P
 obtain ⟨tg, ln, q', qc', fd, en, au, sg, ws, kk, Rq, tq, G, _⟩ := P
 have e := hq.symm.trans (kk.now.at (j := 1) rfl)
 simp only [Option.some.injEq, Value.slice.injEq, true_and] at e
 obtain ⟨rfl, rfl⟩ := e
 have zl := z.sl w
 refine aJ.mk (fun st h' => ∃ (m : Nat) (o' : Tag), st = (m : Int) ∧ m ≤ (ij K[k] w).length ∧ xp N F h0 t1 s c t9 f dir bs gs K av pa kp w pp pc o' h' (snK w (k + 1)) work (out ++ K[k].Always.xs ++ qT (K[k].Rules.xs.map (·.xs)) (ij K[k] w) m) ∧
   Kp (fun x => o' x = 0) h' (fun h'' => bB h'' pa[k] [.pointer (some av[k]), .slice q (ij K[k] w).length qc, fd, en]) ∧ Row 1 bbV h' q qc (ij K[k] w) ∧ (∀ x, InA q x → o' x = 10 + 2 * k) ∧ GpX N h' av[k] K[k] au sg ws)
  (fun st _ => (ij K[k] w).length - st.toNat) ⟨0, o, rfl, by omega, by simpa [qT] using I, kk, Rq, tq, G⟩ ?_
 rintro st h1 ⟨m, o', rfl, hm, I1, k1, R1, tq1, G1⟩
 unfold cY
 refine ifD (fun hlt => ?_) (fun hge => ?_)
 ·have hm' : m < (ij K[k] w).length := by omega
  refine R1.idx yT (by omega) m rfl hm' fun ad cc => ?_
  try rw [Int.toNat_natCast]
  refine aG (cc.at0 rfl) ?_
  have eg : (ij K[k] w).getD m false = (ij K[k] w)[m] := by rw [List.getD_eq_getElem?_getD, List.getElem?_eq_getElem hm']; rfl
  refine ifB (fun es => ?_) fun es => ?_
  ·obtain ⟨op, oc, hc⟩ := I1.outCell
   refine aU (I1.k1.now.at0 rfl) (aU (I1.k1.now.at0 rfl) (aS (aD hc (aS (aU (k1.now.at0 rfl) (aS ?_))))))
   have gc := r3 G1.1.now.1
   refine aD (gc.at (j := 3) rfl) ?_
   have hmr : m < K[k].Rules.xs.length := by
    rw [z.rl, ← qu, ← sO K[k] w]; exact hm'
   refine eN G1.1.now.2.k3 m rfl hmr fun ad2 cc2 ok2 => ?_
   try rw [Int.toNat_natCast]
   refine aD (cc2.at0 rfl) ?_
   have hmx : K[k].Rules.xs[m].xs.length ≤ 40 := z.ru _ (List.getElem_mem hmr)
   have ep : qT (K[k].Rules.xs.map (·.xs)) (ij K[k] w) (m + 1) = qT (K[k].Rules.xs.map (·.xs)) (ij K[k] w) m ++ K[k].Rules.xs[m].xs := by
    rw [wu, eg, es, if_pos rfl, List.getD_eq_getElem?_getD, List.getElem?_map, List.getElem?_eq_getElem hmr]; rfl
   have hp := z.pick (ij K[k] w) (k := m) (by omega)
   have hal := z.al
   refine I1.push (xs := K[k].Rules.xs[m].xs) (ok2.src fun _ => rfl) (by rw [List.length_append, List.length_append]; omega) hc fun h2 o2 ho f2 I2 => ?_
   have z2 := f2.size
   rw [wr (by omega) (by omega)]
   refine ⟨⟨m + 1, o2, by omega, by omega, by rw [ep, ← List.append_assoc]; exact I2, k1.tag f2 ho fun y hy hh => by omega, R1.fr f2 fun y hy hh => by have := tq1 y hy; omega, fun y hy => by rw [ho y (R1.lt hy)]; exact tq1 y hy, G1.fr f2 fun y hy hh => ?_⟩, by omega⟩
   rcases Nat.lt_or_ge y N with hl | hl
   ·have := I1.R.low y hl; omega
   ·exact hl
  ·have ep : qT (K[k].Rules.xs.map (·.xs)) (ij K[k] w) (m + 1) = qT (K[k].Rules.xs.map (·.xs)) (ij K[k] w) m := by
    rw [wu, eg, es, if_neg (by decide), List.append_nil]
   rw [wr (by omega) (by omega)]
   exact ⟨⟨m + 1, o', by omega, by omega, by rw [ep]; exact I1, k1, R1, tq1, G1⟩, by omega⟩
 ·have : m = (ij K[k] w).length := by omega
  subst this
  refine hk h1 o' ?_
  unfold DD
  rw [← List.append_assoc]; exact I1
end
set_option maxHeartbeats 2000000 in
theorem Ab [Gh] {N : Nat} {F : Nat → Prop} {h : aA} {s c : Addr} {f : aT} {dir : Int} {bs : List Bd} {gs K : List Gr} {w : Au.Nm} {work : Int} (S : uO N F h s c f dir bs gs K w work false []) (hb : bs.length ≤ 40) (hK : K.length ≤ 40) (hx : w.length ≤ 2 ^ 15) (hw : 0 ≤ work ∧ work ≤ 2 ^ 30)
  (hz : ∀ g ∈ K, GSz g) (hr : ∀ x ∈ pM K w, 0 ≤ x ∧ x < bs.length) {Q : Value → aA → Prop}
  (hk : ∀ p pc h', Fr F h h' → xb (fun y => F y ∨ h.size ≤ y) h' c (work + (trW K w : Nat)) (wj bs f dir (pM K w)) → Row 1 Au.na h' p pc (wj bs f dir (pM K w)) → (∀ x, InA p x → h.size ≤ x) → Q (.slice p (wj bs f dir (pM K w)).length pc) h') :
  aE Tryz.prog fE #[.pointer (some c)] h Q := by
 apply q9
 unfold mb
 obtain ⟨o, t9, av, pa, kp, R, C, KP, hkp⟩ := S
 obtain ⟨tg, pp, pc, bp, bc, op, oc, ow, R1, t1', R2, t2, R3, t3⟩ := C
 refine bA (vs := [.pointer (some c)]) fun t1 h1 f1 e1 o1 => ?_
 have z1 := f1.size
 have ow1 := ow.fr0 f1
 have lc := ow.lt
 have l1 := o1.lt
 refine aU (o1.cells.at0 rfl) (Ax (aU (o1.cells.at0 rfl) (aS (aG (ow1.cells.at (j := 14) rfl) ?_))))
 rw [if_pos (by rfl)]
 refine aU (o1.cells.at0 rfl) (aS ?_)
 refine cH ow1 14 (by show 14 < 16; omega) rfl fun h2 f2 z2 ow2 => ?_
 have z2' := f2.size
 have o12 := o1.fr f2 (by omega)
 refine aU (o12.cells.at0 rfl) (aS (aD (ow2.cells.at (j := 11) rfl) ?_))
 have lp := R.lp
 have la := R.la
 have hkl : kp.toList.length ≤ 1 := by cases kp <;> simp
 have hLl : (pa ++ kp.toList).length ≤ 41 := by rw [List.length_append]; omega
 have hLk : (pa ++ kp.toList).length = K.length + kp.toList.length := by rw [List.length_append]; omega
 have lpp : ∀ y, InA pp y → y < h.size := fun y hy => R1.lt hy
 have up : ∀ y, y < h.size → Au.upT o h.size 0 y = o y := fun y hy => Au.dY hy
 have Ft : Fr (fun y => y = c.block) h h2 := (f1.mono fun _ => False.elim).trans f2
 have own0 : ∀ y, y < h.size → o y ≠ 0 → o y ≠ 9 → F y := fun y hy h0' h9 => R.fp y hy (by
  rcases Nat.lt_or_ge y N with hl | hl
  ·exact absurd (R.low y hl) h0'
  ·exact hl) h9
 have I0 : xp N F h t1 s c t9 f dir bs gs K av pa kp w pp pc (Au.upT o h.size 0) h2 (snK w 0) work [] := by
  refine ⟨Ft.mono fun y hy => ?_, ?_, (R.fr (F' := fun y => F y ∨ h.size ≤ y) Ft (Au.Old.up (Nat.le_refl _)) (fun y hy hh => by rw [hh, tg]; omega) (fun y hy hn hne => ?_) Ft.size).ext fun i hi => ⟨rfl, ?_⟩, ?_, KP.fr Ft (Au.Old.up (Nat.le_refl _)) (fun y hy hh => by rw [hh, tg]; omega), R1.fr Ft (fun y hy hh => by have := t1' y hy; rw [hh, tg] at this; omega), fun y hy => by rw [up y (lpp y hy)]; exact t1' y hy⟩
  ·rw [hy]; exact own0 _ lc (by omega) (by omega)
  ·exact sX o12 (Au.ka (by omega))
  ·rcases Nat.lt_or_ge y h.size with hl | hl
   ·exact .inl (R.fp y hl hn (by rw [← up y hl]; exact hne))
   ·exact .inr hl
  ·show snK w 0 i K[i] = iG K[i] w
   exact if_neg (by omega)
  ·refine ⟨by rw [up _ lc]; exact tg, pp, pc, bp, bc, op, oc, ow2, R1.fr Ft (fun y hy hh => by have := t1' y hy; rw [hh, tg] at this; omega), fun y hy => by rw [up y (R1.lt hy)]; exact t1' y hy,
    R2.fr Ft (fun y hy hh => by have := t2 y hy; rw [hh, tg] at this; omega), fun y hy => by rw [up y (R2.lt hy)]; exact t2 y hy, R3.fr Ft (fun y hy hh => by have := t3 y hy; rw [hh, tg] at this; omega), fun y hy => by rw [up y (R3.lt hy)]; exact t3 y hy⟩
 have trb : ∀ m, trW (K.take m) w ≤ 40 * (2 ^ 15 + 1) := fun m => Nat.le_trans (K0 _ _) (Nat.mul_le_mul (by rw [List.length_take]; omega) (by omega))
 have outb : ∀ m, (pM (K.take m) w).length ≤ 40 * 2000 := fun m => Nat.le_trans (CU fun g hg => hz g (List.mem_of_mem_take hg)) (Nat.mul_le_mul_right _ (by rw [List.length_take]; omega))
 refine aJ.mk (fun st h' => ∃ (k : Nat) (o : Tag), st = (k : Int) ∧ k ≤ (pa ++ kp.toList).length ∧ xp N F h t1 s c t9 f dir bs gs K av pa kp w pp pc o h' (snK w k) (work + (trW (K.take k) w : Nat)) (pM (K.take k) w))
  (fun st _ => (pa ++ kp.toList).length - st.toNat) ⟨0, Au.upT o h.size 0, rfl, by omega, ?_⟩ ?_
 ·have e : work + ((trW (K.take 0) w : Nat) : Int) = work := by simp [trW]
  rw [e]; exact I0
 rintro st h3 ⟨k, o3, rfl, hkl', I⟩
 unfold iP
 have zI := I.fr.size
 refine ifD (fun hlt => ?_) (fun hge => ?_)
 ·have hi : k < (pa ++ kp.toList).length := by omega
  refine I.Rp.idx vj (by omega) k rfl hi fun ad cc => ?_
  try rw [Int.toNat_natCast]
  refine aU (cc.at0 rfl) (aS ?_)
  by_cases hkK : k < K.length
  ·have hka : k < av.length := by omega
   have hkp' : k < pa.length := by omega
   have e1 : (pa ++ kp.toList)[k] = pa[k] := List.getElem_append_left (by omega)
   rw [e1]
   have P := I.R.part k hkK hka hkp'
   have esn : snK w k k K[k] = iG K[k] w := if_neg (by omega)
   rw [esn] at P
   obtain ⟨en, hen⟩ := P.en
   refine BX hen ?_
   have own := I.own
   have I' := I
   obtain ⟨fr, k1, R, C, KP, Rp, tp⟩ := I
   obtain ⟨tg, pp1, pc1, bp, bc, op, oc, ow, R1, t1', R2, t2, R3, t3⟩ := C
   have hbuf : trans K[k] = true → (if qX K = true then w else []) = w := fun ht => by
    rw [FU, if_pos (List.any_eq_true.2 ⟨K[k], List.getElem_mem hkK, ht⟩)]
   refine P.fin R.low ow tg R.k9 R2 t2 hbuf hx (by have := trb k; omega) (K := fun h' => _) hen (fun h' hh => ⟨rfl, hh⟩) fun h4 f4 ow4 P4 => ?_
   have z4 := f4.size
   have eT : K.take (k + 1) = K.take k ++ [K[k]] := by rw [List.take_append_getElem]
   have ew : work + ((trW (K.take k) w : Nat) : Int) + (if trans K[k] = true then ((Au.jO K[k].Transforms.xs w).length : Int) else 0) = work + ((trW (K.take (k + 1)) w : Nat) : Int) := by
    rw [eT, HR]
    split <;> omega
   rw [ew] at ow4
   have I4 : xp N F h t1 s c t9 f dir bs gs K av pa kp w pp pc o3 h4 (snK w (k + 1)) (work + (trW (K.take (k + 1)) w : Nat)) (pM (K.take k) w) := by
    refine ⟨fr.tr f4 fun y hy hh => own y (by omega) (by omega) (by omega) hy, k1.tag f4 (Au.Old.refl _ _) fun y hy hh => by omega, R.upd f4 (Au.Old.refl _ _) k (fun y hy hh => by omega) (fun y hy hn hne => ?_) (fun i g hik => ⟨rfl, ?_⟩) (fun h1 h2 h3 => ?_), ?_, KP.fr f4 (Au.Old.refl _ _) fun y hy hh => by omega, Rp.fr f4 fun y hy hh => by have := tp y hy; omega, tp⟩
    ·rcases Nat.lt_or_ge y h3.size with hl | hl
     ·exact R.fp y hl hn hne
     ·exact .inr (by omega)
    ·unfold snK
     by_cases hik2 : i < k
     ·rw [if_pos hik2, if_pos (by omega)]
     ·rw [if_neg hik2, if_neg (by omega)]
    ·have : snK w (k + 1) k K[k] = ij K[k] w := if_pos (by omega)
     rw [this]; exact P4
    ·exact ⟨tg, pp1, pc1, bp, bc, op, oc, ow4, R1.fr f4 (fun y hy hh => by have := t1' y hy; omega), t1', R2.fr f4 (fun y hy hh => by have := t2 y hy; omega), t2, R3.fr f4 (fun y hy hh => by have := t3 y hy; omega), t3⟩
   obtain ⟨op4, oc4, hc4⟩ := I4.outCell
   obtain ⟨tgp, lnp, q, qc, fd', en', au, sg, ws, kk, Rq, tq, G, _⟩ := P4
   refine aU (I4.k1.now.at0 rfl) (aU (I4.k1.now.at0 rfl) (aS (aD hc4 (aS (aU (kk.now.at0 rfl) (aS ?_))))))
   have gc := r3 G.1.now.1
   refine aD (gc.at (j := 4) rfl) ?_
   have z := hz _ (List.getElem_mem hkK)
   have hal := z.al
   have hob := outb k
   refine I4.push (xs := K[k].Always.xs) (G.1.now.2.k4.src fun _ => rfl) (by omega) hc4 fun h5 o5 ho f5 I5 => aS ?_
   have kk5 := kk.tag f5 ho fun y hy hh => by omega
   refine aD (kk5.now.at (j := 1) rfl) ?_
   refine I8 hkK hka hkp' I5 z (by omega) (kk5.now.at (j := 1) rfl) fun h6 o6 I6 => ?_
   rw [wr (by omega) (by omega)]
   refine ⟨⟨k + 1, o6, by omega, by omega, ?_⟩, by omega⟩
   rw [eT, FM, ← eT]; exact I6
  ·obtain ⟨a, rfl⟩ : ∃ a, kp = some a := by
    cases kp with
    | none => simp at hi; omega
    | some a => exact ⟨a, rfl⟩
   have hl1 : (pa ++ (some a : Option Addr).toList).length = pa.length + 1 := by simp
   have hk0 : k = K.length := by omega
   have e1 : (pa ++ (some a : Option Addr).toList)[k] = a := by
    rw [List.getElem_append_right (by omega)]; simp
   rw [e1]
   obtain ⟨t90, kk⟩ := I.KP a rfl
   refine BX (kk.now.1.at (j := 3) rfl) ?_
   unfold Ku
   rw [cK]
   apply ut
   unfold ox
   refine ⟨rfl, ?_⟩
   obtain ⟨op4, oc4, hc4⟩ := I.outCell
   refine aU (I.k1.now.at0 rfl) (aU (I.k1.now.at0 rfl) (aS (aD hc4 (aS (aU (kk.now.1.at0 rfl) (aS (aD (kk.now.2.at (j := 4) rfl) ?_)))))))
   have hob := outb k
   refine I.push (xs := []) (Src.nil 0) (by show _ + 0 ≤ _; omega) hc4 fun h5 o5 ho f5 I5 => aS ?_
   have kk5 := kk.tag f5 ho fun y hy hh => by omega
   refine aD (kk5.now.1.at (j := 1) rfl) ?_
   have eT : K.take (k + 1) = K.take k := by rw [vu _ _ (by omega), vu _ _ (by omega)]
   refine aJ.mk (fun st h' => st = 0 ∧ h' = h5) (fun _ _ => 0) ⟨rfl, rfl⟩ ?_
   rintro st h' ⟨rfl, e⟩
   subst e
   unfold cY
   rw [if_neg (by decide), wr (by omega) (by omega)]
   refine ⟨⟨k + 1, o5, by omega, by omega, ?_⟩, by omega⟩
   rw [List.append_nil] at I5
   rw [eT]
   refine ⟨I5.fr, I5.k1, I5.R.ext fun i hi => ⟨rfl, ?_⟩, I5.C, I5.KP, I5.Rp, I5.tp⟩
   unfold snK
   rw [if_pos (by omega), if_pos (by omega)]
 ·have hke : k = (pa ++ kp.toList).length := by omega
  have eT : K.take k = K := vu _ _ (by omega)
  rw [eT] at I
  have hob := outb k
  rw [eT] at hob
  exact Js I hb hr (by omega) fun p pc h' f' D Rr hn => hk p pc h' f' D Rr fun x hx => by have := hn x hx; omega
theorem EE [Gh] {F : Nat → Prop} {h : aA} {c : Addr} {work : Int} {out : List Int} (D : xb F h c work out) {Q : Value → aA → Prop} (hk : Q (.int .i64 work) h) : aE Tryz.prog lv #[.pointer (some c)] h Q := by
 apply vK
 unfold pX
 obtain ⟨s, f, dir, pp, pn, pc, bp, bn, bc, op, oc, ow, _⟩ := D
 exact Ax (aS (aB (ow.cells.at (j := 13) rfl) hk))
theorem BI [Gh] {N : Nat} {h0 : aA} {s : Addr} {bs : List Bd} {gs : List Gr} (T0 : wx N h0 s bs gs) (hb : bs.length ≤ 40) (hg : gs.length ≤ 40) (hz : ∀ g ∈ gs, GSz g) (f : aT) (b : bU) (hx : b.Data.length ≤ 2 ^ 15)
  (hr : ∀ x ∈ pM (gs.filter fun g => g.Kind = b.Kind) b.Data, 0 ≤ x ∧ x < bs.length) {Q : Value → aA → Prop}
  (hk : ∀ p pc h', Fr (fun _ => False) h0 h' → Row 1 Au.na h' p pc (wj bs f b.Dir (pM (gs.filter fun g => g.Kind = b.Kind) b.Data)) → (∀ x, InA p x → h0.size ≤ x) → Q (.slice p (wj bs f b.Dir (pM (gs.filter fun g => g.Kind = b.Kind) b.Data)).length pc) h') :
  aE Tryz.prog fQ #[.pointer (some s), .agg f.vals.toArray, .agg b.vals.toArray] h0 Q := by
 apply rH
 unfold mh
 refine bA (vs := f.vals) fun t4 h1 f1 e1 o4 => bA (vs := b.vals) fun t5 h2 f2 e2 o5 => ?_
 have o42 := o4.fr0 f2
 refine (aB (o42.cells.at0 rfl) (aG (o42.cells.at rfl) (aB (o42.cells.at rfl) (aB (o42.cells.at rfl) (aG (o42.cells.at rfl) (aB (o42.cells.at rfl) (aB (o42.cells.at rfl) (aB (o42.cells.at rfl) (aB (o42.cells.at rfl) ?_)))))))))
 refine aB (o5.cells.at0 rfl) (aB (o5.cells.at (j := 1) rfl) ?_)
 have F2 := f1.trans f2
 have z1 := f1.size; have z2 := f2.size
 have Klen : (gs.filter fun g => g.Kind = b.Kind).length ≤ 40 := Nat.le_trans (List.length_filter_le _ _) hg
 refine wY (T0.fr0 F2) hg (fun g hgg => by have := (hz g hgg).pl; omega) f b.Kind b.Dir fun c h3 f3 S3 hc3 => ⟨_, rfl, ?_⟩
 have z3 := f3.size
 have o53 := o5.fr0 f3
 refine aY (o53.cells.at (j := 3) rfl) ?_
 refine EP S3 b.Data (by simp; omega) Klen (by omega) fun h4 f4 S4 => ⟨rfl, ?_⟩
 have z4 := f4.size
 rw [List.nil_append] at S4
 have hnd := HE (gs.filter fun g => g.Kind = b.Kind)
 have hw : nD (gs.filter fun g => g.Kind = b.Kind) * b.Data.length ≤ 40 * 2 ^ 15 := Nat.mul_le_mul (by omega) hx
 refine Ab S4 hb Klen hx (by omega) (fun g hgg => hz g (List.mem_filter.1 hgg).1) hr fun p pc h5 f5 D5 R5 hn5 => ⟨_, _, _, rfl, ?_⟩
 refine hk p pc h5 (((F2.trans f3).tr f4 fun y hy hh => by omega).tr f5 fun y hy hh => ?_) R5 fun x hx => by have := hn5 x hx; omega
 rcases hh with hh | hh <;> omega
end Go.Proofs.YtjmfpeiidlpngaaGreatDoor
namespace Go.Proofs.YtjmfpeiidlpngaaGreatDoor
set_option linter.unusedSimpArgs false
set_option linter.unusedVariables false
set_option maxRecDepth 20000
open Go
open Go.IntKind (wrap)
section
variable {h : aA} {Q : Value → aA → Prop}
variable {s : Addr} {l : Sl Bd}
def cOf (p : List UInt8 × Bool) : Au.Cn := ⟨p.1, p.2, false, false, 0, 0, false⟩
def AZ (c : Au.Cn) (d : Au.Nm) : Bool := (List.range (d.length + 1)).any fun p : Nat => Au.atB c d p
def EB (b : Bd) (f : aT) (bf : bU) : Bool :=
 decide (b.Rule.Kind = bf.Kind) && (Au.iU b f bf.Dir && match Fp.uy b.Rule.Contents.xs with | none => true | some p => AZ (cOf p) (Au.jO b.Rule.Transforms.xs bf.Data))
theorem GE (b : Bd) (f : aT) (bf : bU) : EB (wipe b) f bf = EB b f bf := rfl
theorem DA {cs : List Fp.Cn} {m : Nat} (sh : ∀ c ∈ cs, c.Pattern.length ≤ m) {p : List UInt8 × Bool} (hp : Fp.uy cs = some p) : p.1.length ≤ m := by
 unfold Fp.uy at hp
 split at hp
 ·cases hp
 ·rename_i hneg
  have hlt := Fp.tA cs
  simp only [Option.some.injEq] at hp
  subst hp
  have hk : (Fp.fN cs).toNat < cs.length := by omega
  have e : cs.getD (Fp.fN cs).toNat Fp.noC = cs[(Fp.fN cs).toNat] := by rw [List.getD_eq_getElem?_getD, List.getElem?_eq_getElem hk]; rfl
  have := sh _ (List.getElem_mem hk)
  simp only [e]
  split
  ·simpa using this
  ·exact this
def rL (l : List Bd) (f : aT) (b : bU) : List Int := xg (atB (fun x => EB x f b) l) l.length
end
end Go.Proofs.YtjmfpeiidlpngaaGreatDoor
namespace Go.Proofs.YtjmfpeiidlpngaaGreatDoor.Fp
set_option linter.unusedSimpArgs false
set_option linter.unusedVariables false
set_option maxRecDepth 20000
open Go
theorem zE {α : Type} {l : List α} {j : Nat} {v : α} (h : l[j]? = some v) : l.set j v = l := by
 apply List.ext_getElem?
 intro i
 rw [List.getElem?_set]
 split
 ·rename_i e; subst e
  split
  ·exact h.symm
  ·rename_i hn; rw [List.getElem?_eq_none (by omega)]
 ·rfl
end Go.Proofs.YtjmfpeiidlpngaaGreatDoor.Fp
namespace Go.Proofs.YtjmfpeiidlpngaaGreatDoor.Fp
set_option linter.unusedSimpArgs false
set_option linter.unusedVariables false
set_option maxRecDepth 20000
open Go
structure Pre (cs : List Cn) (k : Nat) (best : Int) : Prop where
 lo : -1 ≤ best
 hi : 0 ≤ best → ∃ b : Nat, ∃ hb : b < cs.length, best = b ∧ b < k ∧ wC cs[b] = false
 all : ∀ j (hj : j < cs.length), j < k → wC cs[j] = false → cs[j].Fast = false ∧ ∃ b : Nat, ∃ hb : b < cs.length, best = b ∧ tL cs[j].Pattern ≤ tL cs[b].Pattern
end Go.Proofs.YtjmfpeiidlpngaaGreatDoor.Fp
namespace Go.Proofs.YtjmfpeiidlpngaaGreatDoor
set_option linter.unusedSimpArgs false
set_option linter.unusedVariables false
set_option maxRecDepth 20000
open Go
open Go.IntKind (wrap)
def wkG (kind : Int) (d : Au.Nm) (over : Bool) (g : Fp.Grp) : Nat :=
 if g.kind ≠ kind ∨ g.pats = [] then 0 else if g.tr = [] then d.length else if over = true then (Au.jO g.tr d).length else 0
def wkL (kind : Int) (d : Au.Nm) (over : Bool) (gs : List Fp.Grp) : Nat := (gs.map (wkG kind d over)).sum
theorem wJ (g : bI) : (Fp.fP g).pats = [] ↔ g.Patterns.xs.length = 0 := by
 unfold Fp.fP
 rw [← List.length_eq_zero_iff, List.length_map]
section
variable {h : aA} {Q : Value → aA → Prop} {s c : Addr} {l : Sl Bd}
theorem ID [Gh] {p q : Option Addr} {pc qc : Nat} {xs ys : List Int} (Rp : Row 1 Au.na h p pc xs) (Rq : Row 1 Au.na h q qc ys) (hl : xs.length ≤ 2 ^ 40) (hk : Q (.bool (decide (xs = ys))) h) :
  aE Tryz.prog pf #[.slice p xs.length pc, .slice q ys.length qc] h Q := by
 apply B5
 unfold wE
 refine oS (fun ne => ?_) fun eq => ?_
 ·rw [decide_eq_false (fun e => ne (by rw [e]))] at hk; exact hk
 have el : xs.length = ys.length := by omega
 refine aJ.go (fun n st h' => ∃ i : Nat, st = (i : Int) ∧ i ≤ xs.length ∧ n = xs.length - i ∧ h' = h ∧ xs.take i = ys.take i) xs.length ⟨0, rfl, by omega, rfl, rfl, rfl⟩ ?_
 rintro n - h2 ⟨i, rfl, hi, rfl, rfl, he⟩ Kn hK
 unfold rN
 refine ifD (fun hlt => ?_) (fun hge => ?_)
 ·have hi' : i < xs.length := by omega
  refine Rp.idx kw (by omega) i rfl hi' fun ad cc => ?_
  try rw [Int.toNat_natCast]
  refine aB (cc.at0 rfl) ?_
  refine Rq.idx kw (by omega) i rfl (by omega) fun ad2 cc2 => ?_
  try rw [Int.toNat_natCast]
  refine aB (cc2.at0 rfl) ?_
  refine oS (fun ne => ?_) fun eq2 => ?_
  ·rw [decide_eq_false (fun e => ne (by subst e; rfl))] at hk; exact hk
  ·rw [wr (by omega) (by omega)]
   refine hK (xs.length - (i + 1)) _ _ (by omega) ⟨i + 1, rfl, hi', rfl, rfl, ?_⟩
   rw [show xs.take (i + 1) = xs.take i ++ [xs[i]] by rw [List.take_append_getElem], show ys.take (i + 1) = ys.take i ++ [ys[i]'(by omega)] by rw [List.take_append_getElem], he, eq2]
 ·have e : xs = ys := by
   rw [List.take_of_length_le (by omega), List.take_of_length_le (by omega)] at he; exact he
  rw [decide_eq_true e] at hk; exact hk
end
end Go.Proofs.YtjmfpeiidlpngaaGreatDoor
namespace Go.Proofs.YtjmfpeiidlpngaaGreatDoor
set_option linter.unusedSimpArgs false
set_option linter.unusedVariables false
set_option maxRecDepth 20000
open Go
open Go.IntKind (wrap)
theorem EX : ∀ {xs ys : List Int}, xs.Pairwise (· < ·) → ys.Pairwise (· < ·) → (∀ x, x ∈ xs ↔ x ∈ ys) → xs = ys
 | [], [], _, _, _ => rfl
 | [], y :: ys, _, _, h => absurd ((h y).2 (by simp)) (by simp)
 | x :: xs, [], _, _, h => absurd ((h x).1 (by simp)) (by simp)
 | x :: xs, y :: ys, h1, h2, h => by
  rw [List.pairwise_cons] at h1 h2
  have e : x = y := by
   rcases List.mem_cons.1 ((h x).1 (by simp)) with e | hx
   ·exact e
   ·rcases List.mem_cons.1 ((h y).2 (by simp)) with e | hy
    ·exact e.symm
    ·have := h1.1 y hy; have := h2.1 x hx; omega
  subst e
  rw [EX h1.2 h2.2 fun z => ?_]
  constructor
  ·intro hz
   rcases List.mem_cons.1 ((h z).1 (List.mem_cons_of_mem _ hz)) with e | h3
   ·have := h1.1 z hz; omega
   ·exact h3
  ·intro hz
   rcases List.mem_cons.1 ((h z).2 (List.mem_cons_of_mem _ hz)) with e | h3
   ·have := h2.1 z hz; omega
   ·exact h3
theorem Ba {ys : List Int} (s : ys.Pairwise (· ≤ ·)) : ∀ n, n + 1 ≤ ys.length → (ys.take 1 ++ ir ys 1 n).Pairwise (· < ·) ∧ ∀ x, x ∈ ys.take 1 ++ ir ys 1 n ↔ x ∈ ys.take (n + 1)
 | 0, h => by
  have : ir ys 1 0 = [] := rfl
  rw [this, List.append_nil]
  refine ⟨?_, fun x => Iff.rfl⟩
  cases ys with
  | nil => simp
  | cons y ys => simp
 | n + 1, h => by
  obtain ⟨i1, i2⟩ := Ba s n (by omega)
  have hle : ∀ x, x ∈ ys.take (n + 1) → x ≤ ys[n]'(by omega) := fun x hx => by
   obtain ⟨i, hi, e⟩ := List.getElem_of_mem hx
   rw [List.length_take] at hi
   rw [List.getElem_take] at e
   rw [← e]
   rcases Nat.lt_or_ge i n with hl | hl
   ·exact List.pairwise_iff_getElem.1 s i n (by omega) (by omega) hl
   ·have : i = n := by omega
    subst this; exact Int.le_refl _
  have hn : ys[n]'(by omega) ∈ ys.take (n + 1) := by
   rw [List.mem_take_iff_getElem]
   exact ⟨n, by omega, rfl⟩
  have et : ys.take (n + 1 + 1) = ys.take (n + 1) ++ [ys[n + 1]'(by omega)] := by rw [List.take_append_getElem]
  have g1 : ys.getD (1 + n) 0 = ys[n + 1]'(by omega) := by
   rw [show 1 + n = n + 1 by omega]; exact sU _ _ (by omega)
  have g0 : ys.getD (1 + n - 1) 0 = ys[n]'(by omega) := by
   rw [show 1 + n - 1 = n by omega]; exact sU _ _ (by omega)
  have hs : ys[n]'(by omega) ≤ ys[n + 1]'(by omega) := List.pairwise_iff_getElem.1 s n (n + 1) (by omega) (by omega) (by omega)
  rw [oN, g1, g0, et]
  by_cases e : ys[n + 1]'(by omega) = ys[n]'(by omega)
  ·rw [if_pos e, List.append_nil]
   refine ⟨i1, fun x => ?_⟩
   rw [i2 x, List.mem_append, List.mem_singleton]
   constructor
   ·exact .inl
   ·rintro (hx | hx)
    ·exact hx
    ·rw [hx, e]; exact hn
  ·rw [if_neg e, ← List.append_assoc]
   refine ⟨List.pairwise_append.2 ⟨i1, List.pairwise_singleton _ _, fun a ha b hb => ?_⟩, fun x => ?_⟩
   ·rw [List.mem_singleton] at hb
    subst hb
    have := hle a ((i2 a).1 ha)
    omega
   ·rw [List.mem_append, i2 x, List.mem_append]
theorem Cx {ys : List Int} (s : ys.Pairwise (· ≤ ·)) : (mj ys).Pairwise (· < ·) ∧ ∀ x, x ∈ mj ys ↔ x ∈ ys := by
 by_cases h : ys = []
 ·subst h; exact ⟨by simp [mj, ir], fun x => by simp [mj, ir]⟩
 ·have hl : 0 < ys.length := List.length_pos_iff.2 h
  have := Ba s (ys.length - 1) (by omega)
  rw [show ys.length - 1 + 1 = ys.length by omega, List.take_length] at this
  exact this
theorem BU (xs : List Int) : (Au.oy xs).Pairwise (· ≤ ·) := by
 have := List.pairwise_mergeSort (le := fun (x y : Int) => decide (x ≤ y)) (fun a b c h1 h2 => by simp only [decide_eq_true_eq] at *; omega) (fun a b => by simp only [Bool.or_eq_true, decide_eq_true_eq]; omega) xs
 exact this.imp fun h => of_decide_eq_true h
theorem Gt (xs : List Int) (x : Int) : x ∈ Au.oy xs ↔ x ∈ xs := (List.mergeSort_perm _ _).mem_iff
theorem LD (xs : List Int) : (mj (Au.oy xs)).Pairwise (· < ·) ∧ ∀ x, x ∈ mj (Au.oy xs) ↔ x ∈ xs := by
 obtain ⟨h1, h2⟩ := Cx (BU xs)
 exact ⟨h1, fun x => (h2 x).trans (Gt xs x)⟩
theorem zi (p : Nat → Bool) (n : Nat) : (xg p n).Pairwise (· < ·) := by
 unfold xg
 rw [List.pairwise_map]
 refine List.Pairwise.filter _ (List.pairwise_lt_range.imp fun h => by omega)
theorem zK {p : Nat → Bool} {n : Nat} {x : Int} : x ∈ xg p n ↔ ∃ i : Nat, i < n ∧ p i = true ∧ x = i := by
 unfold xg
 rw [List.mem_map]
 constructor
 ·rintro ⟨i, h, e⟩
  rw [List.mem_filter, List.mem_range] at h
  exact ⟨i, h.1, h.2, e.symm⟩
 ·rintro ⟨i, h1, h2, e⟩
  exact ⟨i, by rw [List.mem_filter, List.mem_range]; exact ⟨h1, h2⟩, e.symm⟩
abbrev Pa := List UInt8 × Bool
def CT (g : Fp.Grp) (sn : Pa → Bool) (x : Int) : Prop := x ∈ g.always ∨ ∃ (j : Nat) (p : Pa) (r : List Int), g.pats[j]? = some p ∧ g.rules[j]? = some r ∧ sn p = true ∧ x ∈ r
def yj (r : Fp.Ru) (sn : Pa → Bool) : Prop := match Fp.uy r.Contents.xs with | none => True | some p => sn p = true
theorem xz {α : Type} (f : α → α) (l : List α) (i : Nat) : (l.modify i f)[i]? = (l[i]?).map f := by
 rw [List.getElem?_modify]; cases l[i]? <;> simp
theorem Ca {α : Type} (f : α → α) (l : List α) {i j : Nat} (h : i ≠ j) : (l.modify i f)[j]? = l[j]? := by
 rw [List.getElem?_modify]; cases l[j]? <;> simp [h]
theorem zV (k : Nat) (r : Fp.Ru) (g : Fp.Grp) (sn : Pa → Bool) (hl : g.rules.length = g.pats.length) (x : Int) : CT (Fp.rX k r g) sn x ↔ CT g sn x ∨ (x = k ∧ yj r sn) := by
 unfold Fp.rX yj
 cases hp : Fp.uy r.Contents.xs with
 | none =>
  simp only
  unfold CT
  simp only [List.mem_append, List.mem_singleton, and_true]
  constructor
  ·rintro ((h | h) | h)
   ·exact .inl (.inl h)
   ·exact .inr h
   ·exact .inl (.inr h)
  ·rintro ((h | h) | h)
   ·exact .inl (.inl h)
   ·exact .inr h
   ·exact .inl (.inr h)
 | some p =>
  simp only
  by_cases hf : g.pats.findIdx (· == p) = g.pats.length
  ·rw [if_pos hf]
   unfold CT
   constructor
   ·rintro (h | ⟨j, q, l, h1, h2, h3, h4⟩)
    ·exact .inl (.inl h)
    ·rcases Nat.lt_or_ge j g.pats.length with hj | hj
     ·rw [List.getElem?_append_left hj] at h1
      rw [List.getElem?_append_left (by omega)] at h2
      exact .inl (.inr ⟨j, q, l, h1, h2, h3, h4⟩)
     ·rw [List.getElem?_append_right hj] at h1
      rw [List.getElem?_append_right (by omega)] at h2
      have hj0 : j - g.pats.length = 0 := by
       have := (List.getElem?_eq_some_iff.1 h1).1
       simp at this; omega
      have hj1 : j - g.rules.length = 0 := by omega
      rw [hj0] at h1
      rw [hj1] at h2
      simp only [List.getElem?_cons_zero, Option.some.injEq] at h1 h2
      subst h1 h2
      rw [List.mem_singleton] at h4
      exact .inr ⟨h4, h3⟩
   ·rintro ((h | ⟨j, q, l, h1, h2, h3, h4⟩) | ⟨h1, h2⟩)
    ·exact .inl h
    ·have hj := (List.getElem?_eq_some_iff.1 h1).1
     exact .inr ⟨j, q, l, by rw [List.getElem?_append_left hj]; exact h1, by rw [List.getElem?_append_left (by omega)]; exact h2, h3, h4⟩
    ·exact .inr ⟨g.pats.length, p, [(k : Int)], by simp, by rw [← hl]; simp, h2, by rw [h1]; simp⟩
  ·rw [if_neg hf]
   have hlt : g.pats.findIdx (· == p) < g.pats.length := by
    have := List.findIdx_le_length (p := (· == p)) (xs := g.pats)
    omega
   have hat : g.pats[g.pats.findIdx (· == p)]? = some p := by
    rw [List.getElem?_eq_getElem hlt]
    have := List.findIdx_getElem (w := hlt)
    simp only [beq_iff_eq] at this
    rw [this]
   generalize g.pats.findIdx (· == p) = m at *
   unfold CT
   simp only
   constructor
   ·rintro (h | ⟨j, q, l, h1, h2, h3, h4⟩)
    ·exact .inl (.inl h)
    ·by_cases hj : m = j
     ·subst hj
      rw [xz] at h2
      cases hr : g.rules[m]? with
      | none => rw [hr] at h2; cases h2
      | some l0 =>
       rw [hr] at h2
       simp only [Option.map_some, Option.some.injEq] at h2
       subst h2
       rw [hat] at h1
       simp only [Option.some.injEq] at h1
       subst h1
       rcases List.mem_append.1 h4 with h5 | h5
       ·exact .inl (.inr ⟨m, p, l0, hat, hr, h3, h5⟩)
       ·rw [List.mem_singleton] at h5; exact .inr ⟨h5, h3⟩
     ·rw [Ca _ _ hj] at h2
      exact .inl (.inr ⟨j, q, l, h1, h2, h3, h4⟩)
   ·rintro ((h | ⟨j, q, l, h1, h2, h3, h4⟩) | ⟨h1, h2⟩)
    ·exact .inl h
    ·by_cases hj : m = j
     ·subst hj
      exact .inr ⟨m, q, l ++ [(k : Int)], h1, by rw [xz, h2]; rfl, h3, List.mem_append_left _ h4⟩
     ·exact .inr ⟨j, q, l, h1, by rw [Ca _ _ hj]; exact h2, h3, h4⟩
    ·have hr : g.rules[m]? = some (g.rules[m]'(by omega)) := List.getElem?_eq_getElem _
     exact .inr ⟨m, p, g.rules[m]'(by omega) ++ [(k : Int)], hat, by rw [xz, hr]; rfl, h2, by rw [h1]; simp⟩
def ub (kind : Int) (sn : List Int → Pa → Bool) (gs : List Fp.Grp) (x : Int) : Prop := ∃ (j : Nat) (g : Fp.Grp), gs[j]? = some g ∧ g.kind = kind ∧ CT g (sn g.tr) x
theorem Cc (k : Nat) (r : Fp.Ru) (g : Fp.Grp) : (Fp.rX k r g).kind = g.kind ∧ (Fp.rX k r g).tr = g.tr := by
 unfold Fp.rX
 split
 ·exact ⟨rfl, rfl⟩
 ·split <;> exact ⟨rfl, rfl⟩
theorem FP {n : Nat} (kind : Int) (sn : List Int → Pa → Bool) (k : Nat) (r : Fp.Ru) (gs : List Fp.Grp) (sm : Fp.se n gs) (x : Int) :
  ub kind sn (Fp.yB k r gs) x ↔ ub kind sn gs x ∨ (x = k ∧ r.Kind = kind ∧ yj r (sn r.Transforms.xs)) := by
 have core : ∀ (gs' : List Fp.Grp) (m : Nat) (g : Fp.Grp), gs'[m]? = some g → g.kind = r.Kind → g.tr = r.Transforms.xs → g.rules.length = g.pats.length →
   (ub kind sn (gs'.modify m (Fp.rX k r)) x ↔ ub kind sn gs' x ∨ (x = k ∧ r.Kind = kind ∧ yj r (sn r.Transforms.xs))) := by
  intro gs' m g hm hk ht hl
  unfold ub
  constructor
  ·rintro ⟨j, g', h1, h2, h3⟩
   by_cases hj : m = j
   ·subst hj
    rw [xz, hm] at h1
    simp only [Option.map_some, Option.some.injEq] at h1
    subst h1
    obtain ⟨e1, e2⟩ := Cc k r g
    rw [e1] at h2
    rw [e2] at h3
    rcases (zV k r g (sn g.tr) hl x).1 h3 with h4 | h4
    ·exact .inl ⟨m, g, hm, h2, h4⟩
    ·exact .inr ⟨h4.1, by rw [← hk]; exact h2, by rw [← ht]; exact h4.2⟩
   ·rw [Ca _ _ hj] at h1
    exact .inl ⟨j, g', h1, h2, h3⟩
  ·rintro (⟨j, g', h1, h2, h3⟩ | ⟨h1, h2, h3⟩)
   ·by_cases hj : m = j
    ·subst hj
     rw [hm] at h1
     simp only [Option.some.injEq] at h1
     subst h1
     obtain ⟨e1, e2⟩ := Cc k r g
     exact ⟨m, Fp.rX k r g, by rw [xz, hm]; rfl, by rw [e1]; exact h2, by rw [e2]; exact (zV k r g (sn g.tr) hl x).2 (.inl h3)⟩
    ·exact ⟨j, g', by rw [Ca _ _ hj]; exact h1, h2, h3⟩
   ·obtain ⟨e1, e2⟩ := Cc k r g
    exact ⟨m, Fp.rX k r g, by rw [xz, hm]; rfl, by rw [e1, hk]; exact h2, by rw [e2]; exact (zV k r g (sn g.tr) hl x).2 (.inr ⟨h1, by rw [ht]; exact h3⟩)⟩
 unfold Fp.yB Fp.tY
 by_cases hf : gs.findIdx (Fp.r6 r) = gs.length
 ·rw [if_pos hf, hf]
  have := core (gs ++ [⟨r.Kind, r.Transforms.xs, [], [], []⟩]) gs.length ⟨r.Kind, r.Transforms.xs, [], [], []⟩ (by simp) rfl rfl rfl
  rw [this]
  have e : ub kind sn (gs ++ [⟨r.Kind, r.Transforms.xs, [], [], []⟩]) x ↔ ub kind sn gs x := by
   unfold ub
   constructor
   ·rintro ⟨j, g, h1, h2, h3⟩
    rcases Nat.lt_or_ge j gs.length with hj | hj
    ·rw [List.getElem?_append_left hj] at h1; exact ⟨j, g, h1, h2, h3⟩
    ·rw [List.getElem?_append_right hj] at h1
     have hj0 : j - gs.length = 0 := by
      have := (List.getElem?_eq_some_iff.1 h1).1
      simp at this; omega
     rw [hj0] at h1
     simp only [List.getElem?_cons_zero, Option.some.injEq] at h1
     subst h1
     rcases h3 with h3 | ⟨i, p, l, a, _⟩
     ·cases h3
     ·simp at a
   ·rintro ⟨j, g, h1, h2, h3⟩
    exact ⟨j, g, by rw [List.getElem?_append_left (List.getElem?_eq_some_iff.1 h1).1]; exact h1, h2, h3⟩
  rw [e]
 ·rw [if_neg hf]
  have hlt : gs.findIdx (Fp.r6 r) < gs.length := by
   have := List.findIdx_le_length (p := Fp.r6 r) (xs := gs)
   omega
  have hat := List.findIdx_getElem (w := hlt)
  unfold Fp.r6 at hat
  rw [Bool.and_eq_true, beq_iff_eq, beq_iff_eq] at hat
  exact core gs _ _ (List.getElem?_eq_getElem hlt) hat.1 hat.2 (sm.g _ (List.getElem_mem hlt)).2.1
theorem Dy (kind : Int) (sn : List Int → Pa → Bool) (x : Int) : ∀ (l : List Fp.Ru) (k : Nat) (gs : List Fp.Grp), Fp.se k gs →
  (ub kind sn (Fp.fT l k gs) x ↔ ub kind sn gs x ∨ ∃ (i : Nat) (r : Fp.Ru), l[i]? = some r ∧ x = ((k + i : Nat) : Int) ∧ r.Kind = kind ∧ yj r (sn r.Transforms.xs))
 | [], k, gs, sm => by
  rw [Fp.fT]
  constructor
  ·exact .inl
  ·rintro (h | ⟨i, r, h, _⟩)
   ·exact h
   ·simp at h
 | r :: l, k, gs, sm => by
  rw [Fp.fT, Dy kind sn x l (k + 1) _ (sm.add r), FP kind sn k r gs sm x]
  constructor
  ·rintro ((h | ⟨h1, h2, h3⟩) | ⟨i, r', h1, h2, h3⟩)
   ·exact .inl h
   ·exact .inr ⟨0, r, rfl, h1, h2, h3⟩
   ·exact .inr ⟨i + 1, r', h1, by rw [h2]; omega, h3⟩
  ·rintro (h | ⟨i, r', h1, h2, h3⟩)
   ·exact .inl (.inl h)
   ·cases i with
    | zero =>
     simp only [List.getElem?_cons_zero, Option.some.injEq] at h1
     subst h1
     exact .inl (.inr ⟨h2, h3⟩)
    | succ i => exact .inr ⟨i, r', h1, by rw [h2]; omega, h3⟩
theorem GB (p : Pa) (hp : p.1 ≠ []) (d : Au.Nm) : ww ⟨p.1, p.2⟩ d = AZ (cOf p) d := by
 apply Dt
 rw [tN]
 unfold AZ
 rw [List.any_eq_true]
 have key : ∀ q : Nat, q + p.1.length ≤ d.length → (Au.uA ⟨p.1, p.2⟩ d (q + p.1.length) = true ↔ Au.atB (cOf p) d (q : Nat) = true) := by
  intro q hq
  have e : Au.zU d p.1.length (q + p.1.length) = Au.wb d q p.1.length := by
   unfold Au.zU Au.wb
   rw [Nat.add_sub_cancel]
  have hX : ∀ X : Bool, ((decide (p.1 ≠ []) && (decide (p.1.length ≤ q + p.1.length) && X)) = true ↔ (decide (0 ≤ (q : Int) ∧ (q : Int) + p.1.length ≤ d.length) && X) = true) := fun X => by
   rw [decide_eq_true hp, decide_eq_true (show p.1.length ≤ q + p.1.length by omega), decide_eq_true (show 0 ≤ (q : Int) ∧ (q : Int) + p.1.length ≤ d.length by omega), Bool.true_and, Bool.true_and]
  unfold Au.uA Au.atB
  show (decide (p.1 ≠ []) && (decide (p.1.length ≤ q + p.1.length) && (if p.2 = true then decide (Au.cI (Au.zU d p.1.length (q + p.1.length)) = Au.cI p.1) else decide (Au.zU d p.1.length (q + p.1.length) = p.1)))) = true ↔ (decide (0 ≤ (q : Int) ∧ (q : Int) + p.1.length ≤ d.length) && (if p.2 = true then decide (Au.cI (Au.wb d (q : Int).toNat p.1.length) = Au.cI p.1) else decide (Au.wb d (q : Int).toNat p.1.length = p.1))) = true
  rw [e, Int.toNat_natCast]
  exact hX _
 have hpos : 0 < p.1.length := List.length_pos_iff.2 hp
 constructor
 ·rintro ⟨e, h1, h2⟩
  have h3 : p.1.length ≤ e := by
   unfold Au.uA at h2
   simp only [Bool.and_eq_true, decide_eq_true_eq] at h2
   exact h2.2.1
  refine ⟨e - p.1.length, by rw [List.mem_range]; omega, ?_⟩
  rw [← key _ (by omega), show e - p.1.length + p.1.length = e by omega]; exact h2
 ·rintro ⟨q, h1, h2⟩
  have h3 : q + p.1.length ≤ d.length := by
   have h4 := h2
   unfold Au.atB at h4
   rw [Bool.and_eq_true, decide_eq_true_iff] at h4
   have h5 : (q : Int) + p.1.length ≤ d.length := h4.1.2
   omega
  exact ⟨q + p.1.length, h3, (key q h3).2 h2⟩
theorem FW {rs : List (List Int)} {sn : List Bool} {k : Nat} {x : Int} : x ∈ qT rs sn k ↔ ∃ (j : Nat) (r : List Int), j < k ∧ sn[j]? = some true ∧ rs[j]? = some r ∧ x ∈ r := by
 unfold qT
 rw [List.mem_flatMap]
 constructor
 ·rintro ⟨j, h1, h2⟩
  rw [List.mem_range] at h1
  split at h2
  ·rename_i h3
   rw [List.getD_eq_getElem?_getD] at h2 h3
   cases hr : rs[j]? with
   | none => rw [hr] at h2; cases h2
   | some r =>
    cases hs : sn[j]? with
    | none => rw [hs] at h3; cases h3
    | some b =>
     rw [hs] at h3
     rw [hr] at h2
     simp only [Option.getD_some] at h2 h3
     subst h3
     exact ⟨j, r, h1, hs, hr, h2⟩
  ·cases h2
 ·rintro ⟨j, r, h1, h2, h3, h4⟩
  refine ⟨j, by rw [List.mem_range]; exact h1, ?_⟩
  rw [List.getD_eq_getElem?_getD, List.getD_eq_getElem?_getD, h2, h3]
  exact h4
def snT (w : Au.Nm) (tr : List Int) (p : Pa) : Bool := ww ⟨p.1, p.2⟩ (Au.jO tr w)
theorem Bf (g : Gr) (w : Au.Nm) (x : Int) : x ∈ DD g w ↔ CT (Fp.fP g) (snT w (Fp.fP g).tr) x := by
 unfold DD CT
 rw [List.mem_append, FW]
 have es : ∀ j : Nat, (ij g w)[j]? = ((Fp.fP g).pats[j]?).map (snT w (Fp.fP g).tr) := fun j => by
  show (((g.Patterns.xs.map Cd).map fun p => ww p (Au.jO g.Transforms.xs w)))[j]? = ((g.Patterns.xs.map fun p : bK => (p.Text, p.Nocase))[j]?).map (snT w g.Transforms.xs)
  rw [List.getElem?_map, List.getElem?_map, List.getElem?_map]
  cases g.Patterns.xs[j]? <;> rfl
 have el : (ij g w).length = (Fp.fP g).pats.length := by
  rw [sO, qu]
  unfold Fp.fP; simp
 constructor
 ·rintro (h | ⟨j, r, h1, h2, h3, h4⟩)
  ·exact .inl h
  ·rw [es j] at h2
   obtain ⟨p, hp, e⟩ := Option.map_eq_some_iff.1 h2
   exact .inr ⟨j, p, r, hp, h3, e, h4⟩
 ·rintro (h | ⟨j, p, r, h1, h2, h3, h4⟩)
  ·exact .inl h
  ·exact .inr ⟨j, r, by rw [el]; exact (List.getElem?_eq_some_iff.1 h1).1, by rw [es j, h1]; show some _ = some true; rw [h3], h2, h4⟩
theorem EQ {gs : List Gr} {kind : Int} {w : Au.Nm} {x : Int} : x ∈ pM (gs.filter fun g => g.Kind = kind) w ↔ ub kind (snT w) (gs.map Fp.fP) x := by
 unfold pM ub
 rw [List.mem_flatMap]
 constructor
 ·rintro ⟨g, h1, h2⟩
  rw [List.mem_filter, decide_eq_true_iff] at h1
  obtain ⟨j, hj, e⟩ := List.getElem_of_mem h1.1
  refine ⟨j, Fp.fP g, by rw [List.getElem?_map, List.getElem?_eq_getElem hj, e]; rfl, h1.2, (Bf g w x).1 h2⟩
 ·rintro ⟨j, g', h1, h2, h3⟩
  rw [List.getElem?_map] at h1
  obtain ⟨g, hg, rfl⟩ := Option.map_eq_some_iff.1 h1
  refine ⟨g, ?_, (Bf g w x).2 h3⟩
  rw [List.mem_filter, decide_eq_true_iff]
  exact ⟨List.mem_of_getElem? hg, h2⟩
theorem Dm {bs : List Bd} {gs : List Gr} (eg : gs.map Fp.fP = iE bs) {kind : Int} {w : Au.Nm} {x : Int} :
  x ∈ pM (gs.filter fun g => g.Kind = kind) w ↔ ∃ (i : Nat) (hi : i < bs.length), x = (i : Int) ∧ bs[i].Rule.Kind = kind ∧ yj bs[i].Rule (snT w bs[i].Rule.Transforms.xs) := by
 rw [EQ, eg]
 unfold iE Fp.ph
 rw [Dy kind (snT w) x _ 0 [] ⟨Nat.le_refl _, fun g hg => by cases hg⟩]
 constructor
 ·rintro (⟨j, g, h1, _⟩ | ⟨i, r, h1, h2, h3, h4⟩)
  ·simp at h1
  ·rw [List.getElem?_map] at h1
   obtain ⟨b, hb, rfl⟩ := Option.map_eq_some_iff.1 h1
   obtain ⟨hi, rfl⟩ := List.getElem?_eq_some_iff.1 hb
   exact ⟨i, hi, by rw [h2, Nat.zero_add], h3, h4⟩
 ·rintro ⟨i, hi, h2, h3, h4⟩
  exact .inr ⟨i, bs[i].Rule, by rw [List.getElem?_map, List.getElem?_eq_getElem hi]; rfl, by rw [h2, Nat.zero_add], h3, h4⟩
theorem Ci {bs : List Bd} {gs : List Gr} (eg : gs.map Fp.fP = iE bs) {kind : Int} {w : Au.Nm} : ∀ x ∈ pM (gs.filter fun g => g.Kind = kind) w, 0 ≤ x ∧ x < bs.length := fun x hx => by
 obtain ⟨i, hi, rfl, _⟩ := (Dm eg).1 hx
 omega
theorem BB {b : Bd} (sd : Snd b) (w : Au.Nm) : yj b.Rule (snT w b.Rule.Transforms.xs) ↔ (match Fp.uy b.Rule.Contents.xs with | none => true | some p => AZ (cOf p) (Au.jO b.Rule.Transforms.xs w)) = true := by
 unfold yj
 cases hp : Fp.uy b.Rule.Contents.xs with
 | none => simp
 | some p =>
  have := Do (fun c hc => by have := sd.ck.con c hc; omega) hp
  simp only
  unfold snT
  rw [GB p (fun e => by rw [e] at this; simp at this)]
theorem DM {bs : List Bd} {gs : List Gr} (eg : gs.map Fp.fP = iE bs) (sd : ∀ b ∈ bs, Snd b) (f : aT) (b : bU) : wj bs f b.Dir (pM (gs.filter fun g => g.Kind = b.Kind) b.Data) = rL bs f b := by
 obtain ⟨h1, h2⟩ := LD (dW (uT bs f b.Dir) (pM (gs.filter fun g => g.Kind = b.Kind) b.Data))
 refine EX h1 (zi _ _) fun x => (h2 x).trans ?_
 unfold rL dW
 rw [List.mem_filter, Dm eg, zK]
 constructor
 ·rintro ⟨⟨i, hi, rfl, h3, h4⟩, h5⟩
  unfold uT at h5
  rw [Int.toNat_natCast, u1 _ _ _ hi, Bool.not_not] at h5
  refine ⟨i, hi, ?_, rfl⟩
  rw [u1 _ _ _ hi]
  unfold EB
  rw [decide_eq_true h3, h5, Bool.true_and, Bool.true_and]
  exact (BB (sd _ (List.getElem_mem hi)) b.Data).1 h4
 ·rintro ⟨i, hi, h3, rfl⟩
  rw [u1 _ _ _ hi] at h3
  unfold EB at h3
  rw [Bool.and_eq_true, Bool.and_eq_true, decide_eq_true_iff] at h3
  obtain ⟨h3, h4, h5⟩ := h3
  refine ⟨⟨i, hi, rfl, h3, (BB (sd _ (List.getElem_mem hi)) b.Data).2 h5⟩, ?_⟩
  unfold uT
  rw [Int.toNat_natCast, u1 _ _ _ hi, h4]; rfl
theorem yp {l l' : List Bd} (e : l.map wipe = l'.map wipe) (f : aT) (b : bU) : rL l f b = rL l' f b := by
 unfold rL
 rw [CY (fun x => GE x f b) e, show l.length = l'.length by have := congrArg List.length e; simpa using this]
theorem Gm (kind : Int) (w : Au.Nm) : ∀ gs : List Gr, wkL kind w false (gs.map Fp.fP) = nD (gs.filter fun g => g.Kind = kind) * w.length
 | [] => by simp [wkL, nD]
 | g :: gs => by
  have ih := Gm kind w gs
  unfold wkL at ih ⊢
  rw [List.map_cons, List.map_cons, List.sum_cons, ih]
  by_cases hk : g.Kind = kind
  ·rw [List.filter_cons_of_pos (by simp [hk])]
   unfold nD
   by_cases hd : ke g = true
   ·rw [List.filter_cons_of_pos hd, List.length_cons, Nat.succ_mul]
    unfold ke at hd
    rw [Bool.and_eq_true, decide_eq_true_iff, decide_eq_true_iff] at hd
    have : wkG kind w false (Fp.fP g) = w.length := by
     unfold wkG
     rw [if_neg (fun hh => ?_), if_pos (show (Fp.fP g).tr = [] from hd.2)]
     rcases hh with hh | hh
     ·exact hh hk
     ·exact hd.1 (List.length_eq_zero_iff.1 ((wJ g).1 hh))
    omega
   ·rw [List.filter_cons_of_neg hd]
    have : wkG kind w false (Fp.fP g) = 0 := by
     unfold wkG
     by_cases h1 : (Fp.fP g).kind ≠ kind ∨ (Fp.fP g).pats = []
     ·rw [if_pos h1]
     ·rw [if_neg h1, if_neg, if_neg (by decide)]
      intro h2
      refine hd ?_
      unfold ke
      rw [Bool.and_eq_true, decide_eq_true_iff, decide_eq_true_iff]
      exact ⟨fun h3 => h1 (.inr ((wJ g).2 (by rw [h3]; rfl))), h2⟩
    omega
  ·rw [List.filter_cons_of_neg (by simp [hk])]
   have : wkG kind w false (Fp.fP g) = 0 := by unfold wkG; rw [if_pos (.inl hk)]
   omega
theorem Dg (kind : Int) (w : Au.Nm) : ∀ gs : List Gr, wkL kind w true (gs.map Fp.fP) = nD (gs.filter fun g => g.Kind = kind) * w.length + trW (gs.filter fun g => g.Kind = kind) w
 | [] => by simp [wkL, nD, trW]
 | g :: gs => by
  have ih := Dg kind w gs
  unfold wkL at ih ⊢
  rw [List.map_cons, List.map_cons, List.sum_cons, ih]
  by_cases hk : g.Kind = kind
  ·rw [List.filter_cons_of_pos (by simp [hk])]
   have et : trW (g :: gs.filter fun g => decide (g.Kind = kind)) w = (if trans g = true then (Au.jO g.Transforms.xs w).length else 0) + trW (gs.filter fun g => decide (g.Kind = kind)) w := by
    unfold trW; rw [List.map_cons, List.sum_cons]
   rw [et]
   have en : nD (g :: gs.filter fun g => decide (g.Kind = kind)) = nD (gs.filter fun g => decide (g.Kind = kind)) + if ke g = true then 1 else 0 := by
    unfold nD
    by_cases hd : ke g = true
    ·rw [List.filter_cons_of_pos hd, if_pos hd]; rfl
    ·rw [List.filter_cons_of_neg hd, if_neg hd]; rfl
   rw [en, Nat.add_mul]
   have : wkG kind w true (Fp.fP g) = (if ke g = true then 1 else 0) * w.length + (if trans g = true then (Au.jO g.Transforms.xs w).length else 0) := by
    unfold wkG ke trans
    by_cases h1 : g.Patterns.xs = []
    ·rw [if_pos (.inr ((wJ g).2 (by rw [h1]; rfl)))]
     simp [h1]
    ·rw [if_neg (fun hh => by
      rcases hh with hh | hh
      ·exact hh hk
      ·exact h1 (List.length_eq_zero_iff.1 ((wJ g).1 hh)))]
     by_cases h2 : g.Transforms.xs = []
     ·rw [if_pos (show (Fp.fP g).tr = [] from h2)]; simp [h1, h2]
     ·rw [if_neg (show ¬ (Fp.fP g).tr = [] from h2)]; simp [h1, h2]; rfl
   omega
  ·rw [List.filter_cons_of_neg (by simp [hk])]
   have : wkG kind w true (Fp.fP g) = 0 := by unfold wkG; rw [if_pos (.inl hk)]
   omega
theorem Hm {bs : List Bd} {gs : List Gr} (eg : gs.map Fp.fP = iE bs) (hb : bs.length ≤ 40) : gs.length ≤ bs.length ∧ ∀ g ∈ gs, GSz g := by
 have sm : Fp.se bs.length (iE bs) := by have := HB (bs.map (·.Rule)); rwa [List.length_map] at this
 have hl := congrArg List.length eg
 rw [List.length_map] at hl
 refine ⟨by have := sm.len; omega, fun g hg => ?_⟩
 have hm : Fp.fP g ∈ iE bs := by rw [← eg]; exact List.mem_map_of_mem hg
 obtain ⟨h1, h2, h3, h4⟩ := sm.g _ hm
 unfold Fp.fP at h1 h2 h3 h4
 simp only [List.length_map] at h1 h2 h3
 exact ⟨h2, by omega, by omega, fun r hr => by have := h4 _ (List.mem_map_of_mem hr); omega⟩
end Go.Proofs.YtjmfpeiidlpngaaGreatDoor
namespace Go.Proofs.YtjmfpeiidlpngaaGreatDoor
set_option linter.unusedSimpArgs false
set_option linter.unusedVariables false
set_option maxRecDepth 20000
open Go
open Go.IntKind (wrap)
section
variable {h : aA} {Q : Value → aA → Prop}
theorem J3 [Gh] (l : Sl Bd) (ok : bJ 25 aF.vals aF.ok h l) (hk : ∀ (e : Bool) h', Fr (fun _ => False) h h' → (e = true → l.xs.length ≤ 12 ∧ ∀ b ∈ l.xs, Snd b) → Q (.bool e) h') :
  aE Tryz.prog qx #[.slice l.p l.xs.length l.cap] h Q := by
 apply Az
 unfold vT
 have no : ∀ h', Fr (fun _ => False) h h' → Q (.bool false) h' := fun h' f => hk false h' f fun e => by cases e
 refine ifD (fun e => no h (Fr.refl _ _)) fun hl => ?_
 refine aJ.go (fun n st h' => ∃ i : Nat, st = (i : Int) ∧ i ≤ l.xs.length ∧ n = l.xs.length - i ∧ Fr (fun _ => False) h h' ∧ ∀ b ∈ l.xs.take i, Snd b) l.xs.length ⟨0, rfl, by omega, rfl, Fr.refl _ _, fun b hb => by simp at hb⟩ ?_
 rintro n - h1 ⟨i, rfl, hi, rfl, f1, hs⟩ Kn hK
 unfold qQ
 refine ifD (fun hlt => ?_) (fun hge => ?_)
 ·have hi' : i < l.xs.length := by omega
  refine eN (bJ.fr0 aF.ok_fr f1 ok) i rfl hi' fun ad cc okr => ?_
  try rw [Int.toNat_natCast]
  refine (aB (cc.at0 rfl) (aB (cc.at rfl) (aD (cc.at rfl) (aD (cc.at rfl) (aD (cc.at rfl) (aD (cc.at rfl) (aG (cc.at rfl) (aB (cc.at rfl) (aB (cc.at rfl) (aB (cc.at rfl) (aY (cc.at rfl) (aB (cc.at rfl) (aB (cc.at rfl) (aD (cc.at rfl) (aD (cc.at rfl) (aD (cc.at rfl) (aD (cc.at rfl) (aB (cc.at rfl) (aB (cc.at rfl) (aB (cc.at rfl) (aB (cc.at rfl) (aD (cc.at rfl) (aD (cc.at rfl) (aD (cc.at rfl) (aD (cc.at rfl) ?_)))))))))))))))))))))))))
  refine rm rfl rfl fun t4 h2 f2 ht4 o4 => ?_
  have F2 := f1.trans f2
  refine aD (o4.cells.at (j := 21) rfl) (ifD (fun _ => no h2 F2) fun g1 => ?_)
  refine aD (o4.cells.at (j := 22) rfl) (ifD (fun _ => no h2 F2) fun g2 => ?_)
  refine aD (o4.cells.at (j := 23) rfl) (ifD (fun _ => no h2 F2) fun g3 => ?_)
  refine aD (o4.cells.at (j := 24) rfl) (ifD (fun _ => no h2 F2) fun g4 => ?_)
  refine (aB (o4.cells.at0 rfl) (aB (o4.cells.at rfl) (aD (o4.cells.at rfl) (aD (o4.cells.at rfl) (aD (o4.cells.at rfl) (aD (o4.cells.at rfl) (aG (o4.cells.at rfl) (aB (o4.cells.at rfl) (aB (o4.cells.at rfl) (aB (o4.cells.at rfl) (aY (o4.cells.at rfl) (aB (o4.cells.at rfl) (aB (o4.cells.at rfl) (aD (o4.cells.at rfl) (aD (o4.cells.at rfl) (aD (o4.cells.at rfl) (aD (o4.cells.at rfl) (aB (o4.cells.at rfl) (aB (o4.cells.at rfl) (aB (o4.cells.at rfl) (aB (o4.cells.at rfl) ?_)))))))))))))))))))))
  refine Au.Jr l.xs[i].Rule (aF.ok_fr _ _ _ f2 okr).k0 fun e h3 f3 hck => ⟨e, rfl, ?_⟩
  refine oS (fun _ => no h3 (F2.trans f3)) fun he => ?_
  rw [wr (by omega) (by omega)]
  refine hK (l.xs.length - (i + 1)) _ _ (by omega) ⟨i + 1, rfl, by omega, rfl, F2.trans f3, fun b hb => ?_⟩
  rw [show l.xs.take (i + 1) = l.xs.take i ++ [l.xs[i]] by rw [List.take_append_getElem], List.mem_append, List.mem_singleton] at hb
  rcases hb with hb | hb
  ·exact hs b hb
  ·subst hb
   exact ⟨hck he, by omega, by omega, by omega, by omega⟩
 ·have : i = l.xs.length := by omega
  subst this
  rw [List.take_length] at hs
  exact hk true h1 f1 fun _ => ⟨by omega, hs⟩
def lZ : List aM := [⟨⟨false, 0, 0⟩, ⟨false, 0, 4294967295⟩⟩, ⟨⟨true, 0, 0⟩, ⟨true, 18446744073709551615, 18446744073709551615⟩⟩]
def lR : List aP := [⟨0, 65535⟩]
def FN (s : List UInt8) : List aI := [⟨s, false, false, false, 0, 0, false⟩]
def KU (sid : Int) (C : Sl aI) : aO := ⟨1, 6, sv, sv, sv, sv, false, sid, 1, 2, [], 0, 4, sv, C, sv, sv, ⟨0, 0, 0, 0⟩⟩
def IY (sid : Int) (s : List UInt8) : Bd := ⟨KU sid ⟨none, 0, FN s⟩, ⟨none, 0, lZ⟩, ⟨none, 0, lZ⟩, ⟨none, 0, lR⟩, ⟨none, 0, lR⟩⟩
theorem IR {C : Sl aI} {sid : Int} (hs : kOk .i64 h sid) (hC : bJ 7 aI.vals aI.ok h C) : aO.ok h (KU sid C) :=
 ⟨rfl, rfl, tO, tO, tO, tO, trivial, hs, rfl, rfl, Nat.zero_le _, rfl, rfl, tO, hC, tO, tO, ⟨rfl, rfl, rfl, rfl⟩⟩
theorem JG : ∀ x ∈ lZ, aM.ok h x := fun x hx => by
 simp only [lZ, List.mem_cons, List.not_mem_nil, or_false] at hx
 rcases hx with rfl | rfl <;> exact ⟨⟨trivial, rfl, rfl⟩, ⟨trivial, rfl, rfl⟩⟩
theorem JM : ∀ x ∈ lR, aP.ok h x := fun x hx => by
 simp only [lR, List.mem_cons, List.not_mem_nil, or_false] at hx
 subst hx; exact ⟨rfl, rfl⟩
theorem Lh [Gh] (r : aO) (hk : ∀ (b : Bd) h', Fr (fun _ => False) h h' → b.Rule = r → b.Src.xs = lZ → b.Dst.xs = lZ → b.SrcPorts.xs = lR → b.DstPorts.xs = lR →
   Kp (fun x => h.size ≤ x) h' (fun h'' => bJ 6 aM.vals aM.ok h'' b.Src ∧ bJ 6 aM.vals aM.ok h'' b.Dst ∧ bJ 2 aP.vals aP.ok h'' b.SrcPorts ∧ bJ 2 aP.vals aP.ok h'' b.DstPorts) → Q (.agg b.vals.toArray) h') :
  aE Tryz.prog rP #[.agg r.vals.toArray] h Q := by
 apply Cz
 unfold w8
 refine bA (vs := r.vals) fun t1 h1 f1 e1 o1 => ?_
 refine bA (vs := Fu.vals) fun t2 h2 f2 e2 o2 => ?_
 refine bA (vs := lZ.flatMap aM.vals) fun t13 h3 f3 e3 o3 => ?_
 refine bA (vs := lR.flatMap aP.vals) fun t15 h4 f4 e4 o4 => ?_
 have z1 := f1.size; have z2 := f2.size; have z3 := f3.size
 have F24 := f3.trans f4
 have F14 := f2.trans F24
 have o14 := o1.fr0 F14
 refine (aB (o14.cells.at0 rfl) (aB (o14.cells.at rfl) (aD (o14.cells.at rfl) (aD (o14.cells.at rfl) (aD (o14.cells.at rfl) (aD (o14.cells.at rfl) (aG (o14.cells.at rfl) (aB (o14.cells.at rfl) (aB (o14.cells.at rfl) (aB (o14.cells.at rfl) (aY (o14.cells.at rfl) (aB (o14.cells.at rfl) (aB (o14.cells.at rfl) (aD (o14.cells.at rfl) (aD (o14.cells.at rfl) (aD (o14.cells.at rfl) (aD (o14.cells.at rfl) (aB (o14.cells.at rfl) (aB (o14.cells.at rfl) (aB (o14.cells.at rfl) (aB (o14.cells.at rfl) ?_)))))))))))))))))))))
 refine jQ (o2.fr0 F24) (ws := (⟨r, ⟨some t13, 2, lZ⟩, ⟨some t13, 2, lZ⟩, ⟨some t15, 1, lR⟩, ⟨some t15, 1, lR⟩⟩ : Bd).vals) (by rfl) (by rfl) fun h5 f5 z5 o5 => ?_
 refine (aB (o5.cells.at0 rfl) (aB (o5.cells.at rfl) (aD (o5.cells.at rfl) (aD (o5.cells.at rfl) (aD (o5.cells.at rfl) (aD (o5.cells.at rfl) (aG (o5.cells.at rfl) (aB (o5.cells.at rfl) (aB (o5.cells.at rfl) (aB (o5.cells.at rfl) (aY (o5.cells.at rfl) (aB (o5.cells.at rfl) (aB (o5.cells.at rfl) (aD (o5.cells.at rfl) (aD (o5.cells.at rfl) (aD (o5.cells.at rfl) (aD (o5.cells.at rfl) (aB (o5.cells.at rfl) (aB (o5.cells.at rfl) (aB (o5.cells.at rfl) (aB (o5.cells.at rfl) (aD (o5.cells.at rfl) (aD (o5.cells.at rfl) (aD (o5.cells.at rfl) (aD (o5.cells.at rfl) ?_)))))))))))))))))))))))))
 have l2 := o2.lt
 have F5 : Fr (fun _ => False) h h5 := (f1.trans (f2.trans F24)).tr f5 fun x hx hh => by omega
 refine hk ⟨r, ⟨some t13, 2, lZ⟩, ⟨some t13, 2, lZ⟩, ⟨some t15, 1, lR⟩, ⟨some t15, 1, lR⟩⟩ h5 F5 rfl rfl rfl rfl rfl fun h6 f6 => ?_
 have k13 : bJ 6 aM.vals aM.ok h6 ⟨some t13, 2, lZ⟩ := bJ.of_own (sz := 6) (vals := aM.vals) (xs := lZ) (fun _ => rfl) (((o3.fr0 f4).fr f5 (by omega)).fr f6 (by omega)) (by decide) JG
 have k15 : bJ 2 aP.vals aP.ok h6 ⟨some t15, 1, lR⟩ := bJ.of_own (sz := 2) (vals := aP.vals) (xs := lR) (fun _ => rfl) ((o4.fr f5 (by omega)).fr f6 (by omega)) (by decide) JM
 exact ⟨k13, k13, k15, k15⟩
theorem He [Gh] (sid : Int) (hs : ∀ h, kOk .i64 h sid) (s : List UInt8) (hl : s.length ≤ 1000) (hk : ∀ (b : Bd) h', Fr (fun _ => False) h h' → aF.ok h' b → wipe b = IY sid s → Q (.agg b.vals.toArray) h') :
  aE Tryz.prog nV #[.int .i64 sid, .string (bs s)] h Q := by
 apply CK
 unfold yo
 refine bA (vs := Fu.vals) fun t4 h1 f1 e1 o1 => ?_
 refine bA (vs := (FN s).flatMap aI.vals) fun t8 h2 f2 e2 o2 => ?_
 have z1 := f1.size; have z2 := f2.size
 have l4 := o1.lt
 have l8 := o2.lt
 refine Lh (KU sid ⟨some t8, 1, FN s⟩) fun b h3 f3 e1 e2 e3 e4 e5 k => ⟨_, _, _, _, _, _, _, _, _, _, _, _, _, _, _, _, _, _, _, _, _, _, _, _, _, _, _, _, _, _, _, _, _, _, _, _, _, _, _, _, _, _, _, _, _, _, _, _, _, rfl, ?_⟩
 have F3 := f2.trans f3
 refine jQ (o1.fr0 F3) (ws := b.vals) (by rfl) (by rfl) fun h5 f5 z5 o5 => ?_
 refine (aB (o5.cells.at0 rfl) (aB (o5.cells.at rfl) (aD (o5.cells.at rfl) (aD (o5.cells.at rfl) (aD (o5.cells.at rfl) (aD (o5.cells.at rfl) (aG (o5.cells.at rfl) (aB (o5.cells.at rfl) (aB (o5.cells.at rfl) (aB (o5.cells.at rfl) (aY (o5.cells.at rfl) (aB (o5.cells.at rfl) (aB (o5.cells.at rfl) (aD (o5.cells.at rfl) (aD (o5.cells.at rfl) (aD (o5.cells.at rfl) (aD (o5.cells.at rfl) (aB (o5.cells.at rfl) (aB (o5.cells.at rfl) (aB (o5.cells.at rfl) (aB (o5.cells.at rfl) (aD (o5.cells.at rfl) (aD (o5.cells.at rfl) (aD (o5.cells.at rfl) (aD (o5.cells.at rfl) ?_)))))))))))))))))))))))))
 have k5 := k h5 (f5.mono fun x hx hh => by omega)
 have okC : bJ 7 aI.vals aI.ok h5 ⟨some t8, 1, FN s⟩ := bJ.of_own (sz := 7) (vals := aI.vals) (xs := FN s) (fun _ => rfl) ((o2.fr0 f3).fr f5 (by omega)) (by show 1 ≤ _; decide) fun x hx => by
  simp only [FN, List.mem_cons, List.not_mem_nil, or_false] at hx
  subst hx
  exact ⟨by show s.length ≤ _; omega, trivial, trivial, trivial, rfl, rfl, trivial⟩
 refine hk b h5 ((f1.trans F3).tr f5 fun x hx hh => by omega) ⟨by rw [e1]; exact IR (hs _) okC, k5.1, k5.2.1, k5.2.2.1, k5.2.2.2⟩ ?_
 unfold wipe sj
 rw [e1, e2, e3, e4, e5]; rfl
end
section
variable {N : Nat} {F F' S : Nat → Prop} {h h' : aA} {s c : Addr} {f : aT} {dir : Int} {bs : List Bd} {gs K : List Gr} {w : Au.Nm} {work : Int} {done : Bool} {out : List Int}
theorem uO.fr (T : uO N F h s c f dir bs gs K w work done out) (fr : Fr S h h') (hs : ∀ x, x < h.size → S x → N ≤ x ∧ ¬ F x) : uO N F h' s c f dir bs gs K w work done out := by
 obtain ⟨o, t9, av, pa, kp, R, C, KP, hkp⟩ := T
 have ho : Au.Old h o (Au.upT o h.size 9) := Au.Old.up (Nat.le_refl _)
 have h9 : ∀ x, x < h.size → S x → o x = 9 := fun x hx hh => Classical.byContradiction fun hn => (hs x hx hh).2 (R.fp x hx (hs x hx hh).1 hn)
 refine ⟨Au.upT o h.size 9, t9, av, pa, kp, R.fr fr ho (fun x hx hh => by have := h9 x hx hh; omega) (fun x hx hn hne => ?_) fr.size, C.fr fr ho fun x hx hh => .inr (.inl (h9 x hx hh)), KP.fr fr ho fun x hx hh => by have := h9 x hx hh; omega, hkp⟩
 rcases Nat.lt_or_ge x h.size with hl | hl
 ·exact R.fp x hl hn (by rw [Au.dY hl] at hne; exact hne)
 ·exact absurd (Au.ka hl) hne
theorem uO.fr0 (fr : Fr (fun _ => False) h h') (T : uO N F h s c f dir bs gs K w work done out) : uO N F h' s c f dir bs gs K w work done out := T.fr fr fun _ _ hh => hh.elim
theorem xb.fr0 (fr : Fr (fun _ => False) h h') (D : xb F h c work out) : xb F h' c work out := D.fr fr fun _ hh => hh.elim
end
def exL : List Bd := [IY 1 [101, 118, 105, 108], IY 2 [98, 97, 100], IY 3 [103, 111, 111, 100]]
def exF : aT := ⟨6, ⟨false, 0, 0⟩, ⟨false, 0, 0⟩, 5, 80⟩
theorem Kc : ∀ b ∈ exL, Snd b := by
 intro b hb
 simp only [exL, List.mem_cons, List.not_mem_nil, or_false] at hb
 rcases hb with rfl | rfl | rfl <;> exact ⟨⟨by decide, by decide, by decide, by decide, by decide, by decide, by decide, by decide, by decide, by decide, by decide, by decide, by decide, by decide, by decide, by decide, by decide, by decide, by decide⟩, by decide, by decide, by decide, by decide⟩
theorem KV : rL exL exF ⟨4, 1, 0, [47, 101, 118, 105, 108]⟩ = [0] := by decide +kernel
theorem KZ : wkL 4 [47, 101, 118, 105, 108] true (iE exL) = 5 := by decide +kernel
set_option maxHeartbeats 1000000 in
theorem Jd [Gh] {h : aA} {Q : Value → aA → Prop} (hk : ∀ h', Fr (fun _ => False) h h' → Q (.bool true) h') : aE Tryz.prog iV #[] h Q := by
 apply AG
 unfold vZ
 refine He 1 (fun _ => rfl) [101, 118, 105, 108] (by decide) fun b1 h1 f1 ok1 w1 => ⟨_, _, _, _, _, _, _, _, _, _, _, _, _, _, _, _, _, _, _, _, _, _, _, _, _, _, _, _, _, _, _, _, _, _, _, _, _, _, _, _, _, _, _, _, _, _, _, _, _, rfl, ?_⟩
 refine He 2 (fun _ => rfl) [98, 97, 100] (by decide) fun b2 h2 f2 ok2 w2 => ⟨_, _, _, _, _, _, _, _, _, _, _, _, _, _, _, _, _, _, _, _, _, _, _, _, _, _, _, _, _, _, _, _, _, _, _, _, _, _, _, _, _, _, _, _, _, _, _, _, _, rfl, ?_⟩
 refine He 3 (fun _ => rfl) [103, 111, 111, 100] (by decide) fun b3 h3 f3 ok3 w3 => ⟨_, _, _, _, _, _, _, _, _, _, _, _, _, _, _, _, _, _, _, _, _, _, _, _, _, _, _, _, _, _, _, _, _, _, _, _, _, _, _, _, _, _, _, _, _, _, _, _, _, rfl, ?_⟩
 refine bA (vs := [b1, b2, b3].flatMap aF.vals) fun t9 h4 f4 _ o9 => ?_
 have ok : bJ 25 aF.vals aF.ok h4 ⟨some t9, 3, [b1, b2, b3]⟩ := bJ.of_own (sz := 25) (vals := aF.vals) (xs := [b1, b2, b3]) (fun _ => rfl) o9 (by show 3 ≤ _; decide) fun x hx => by
  simp only [List.mem_cons, List.not_mem_nil, or_false] at hx
  rcases hx with rfl | rfl | rfl
  ·exact aF.ok_fr _ _ _ ((f2.trans f3).trans f4) ok1
  ·exact aF.ok_fr _ _ _ (f3.trans f4) ok2
  ·exact aF.ok_fr _ _ _ f4 ok3
 have F4 := ((f1.trans f2).trans f3).trans f4
 have wl : [b1, b2, b3].map wipe = exL.map wipe := by
  simp only [List.map_cons, List.map_nil, w1, w2, w3]; rfl
 have sd : ∀ b ∈ [b1, b2, b3], Snd b := fun b hb => by
  obtain ⟨b', hb', e⟩ := xw wl hb
  exact (Kc b' hb').wipe e
 clear w1 w2 w3 ok1 ok2 ok3
 generalize hL : [b1, b2, b3] = L at *
 have eL3 : L.length = 3 := by rw [← hL]; rfl
 have sids : (L.map va) = [1, 2, 3] := by
  have := congrArg (List.map fun b : Bd => b.Rule.Sid) wl
  rw [List.map_map, List.map_map] at this
  exact this
 have call := fun (K : Value → aA → Prop) => Bq ⟨some t9, 3, L⟩ ok (by show L.length ≤ 40; omega) sd (Q := K)
 rw [show (⟨some t9, 3, L⟩ : Sl Bd).xs.length = 3 from eL3] at call
 refine call _ (fun h5 f5 nn => absurd (by rw [sids]; decide) nn) fun s h5 bs gs f5 T eb eg nd => ⟨_, _, rfl, ?_⟩
 have blen : bs.length = 3 := by have := congrArg List.length eb; rw [List.length_map, List.length_map] at this; exact this.trans eL3
 have eg' : gs.map Fp.fP = iE bs := eg.trans (qp eb.symm)
 have ex : bs.map wipe = exL.map wipe := eb.trans wl
 have sdb : ∀ b ∈ bs, Snd b := fun b hb => by
  obtain ⟨b', hb', e⟩ := xw ex hb
  exact (Kc b' hb').wipe e
 obtain ⟨glen, gsz⟩ := Hm eg' (by omega)
 rw [if_neg (by decide)]
 refine Ax ?_
 have F5 := F4.trans f5
 refine rm (vs := exF.vals) (by rfl) (by rfl) fun t3 h7 f7 e7 o3 => ?_
 refine (aB (o3.cells.at0 rfl) (aG (o3.cells.at rfl) (aB (o3.cells.at rfl) (aB (o3.cells.at rfl) (aG (o3.cells.at rfl) (aB (o3.cells.at rfl) (aB (o3.cells.at rfl) (aB (o3.cells.at rfl) (aB (o3.cells.at rfl) ?_)))))))))
 have T7 := T.fr0 f7
 have hN := T.1
 have z7 := f7.size
 refine wY T7 (by omega) (fun g hg => by have := (gsz g hg).pl; omega) exF 4 1 fun c h8 f8 S8 hc => ⟨_, rfl, Ax ?_⟩
 have z8 := f8.size
 have l3 := o3.lt
 have Klen : (gs.filter fun g => g.Kind = 4).length ≤ 40 := Nat.le_trans (List.length_filter_le _ _) (by omega)
 have kn := HE (gs.filter fun g => g.Kind = 4)
 refine EP S8 [47, 101, 118] (by decide) Klen (by omega) fun h9 f9 S9 => ⟨rfl, ?_⟩
 have z9 := f9.size
 refine EP S9 [105, 108] (by decide) Klen (by simp only [List.length_cons, List.length_nil]; omega) fun h10 f10 S10 => ⟨rfl, ?_⟩
 have z10 := f10.size
 have F810 : Fr (fun x => h7.size ≤ x) h8 h10 := (f9.mono fun x hx => hx).trans (f10.mono fun x hx => by rcases hx with hx | hx <;> omega)
 have o310 := (o3.fr0 f8).fr F810 (by omega)
 refine (aB (o310.cells.at0 rfl) (aG (o310.cells.at rfl) (aB (o310.cells.at rfl) (aB (o310.cells.at rfl) (aG (o310.cells.at rfl) (aB (o310.cells.at rfl) (aB (o310.cells.at rfl) (aB (o310.cells.at rfl) (aB (o310.cells.at rfl) ?_)))))))))
 have T10 := (T7.fr0 f8).fr F810 fun x _ hx => by omega
 have ec := DM eg' sdb exF ⟨4, 1, 0, [47, 101, 118, 105, 108]⟩
 rw [yp ex, KV] at ec
 refine BI T10 (by omega) (by omega) gsz exF ⟨4, 1, 0, [47, 101, 118, 105, 108]⟩ (by decide) (Ci eg') fun p pc h11 f11 R11 hp => ?_
 rw [ec] at R11 ⊢
 refine ⟨_, _, _, rfl, ?_⟩
 have oneI : ∀ {h : aA} {a : Addr}, Own h a [.int .i64 0] mn → Row 1 Au.na h (some a) 1 [0] := fun o => Row.of_own (L := [(0 : Int)]) kw o
 refine bA (vs := [.int .i64 0]) fun t33 h12 f12 e12 o33 => ?_
 refine ID (R11.fr0 f12) (oneI o33) (by decide) ⟨_, rfl, ?_⟩
 rw [decide_eq_true rfl, if_pos rfl]
 have S12 := S10.fr0 (f11.trans f12)
 simp only [List.nil_append, List.cons_append] at S12
 have hr := Ci eg' (kind := 4) (w := [47, 101, 118, 105, 108])
 refine Ab S12 (by omega) Klen (by decide) (by simp only [List.length_cons, List.length_nil]; omega) (fun g hg => gsz g (List.mem_filter.1 hg).1) hr fun p2 pc2 h14 f14 D14 R14 hp2 => ?_
 have ec2 : wj bs exF 1 (pM (gs.filter fun g => g.Kind = 4) [47, 101, 118, 105, 108]) = [0] := ec
 rw [ec2] at R14 D14 ⊢
 refine ⟨_, _, _, rfl, ?_⟩
 refine bA (vs := [.int .i64 0]) fun t38 h15 f15 e15 o38 => ?_
 refine ID (R14.fr0 f15) (oneI o38) (by decide) ⟨_, rfl, ?_⟩
 rw [decide_eq_true rfl, if_pos rfl]
 refine EE (D14.fr0 f15) ⟨_, rfl, ?_⟩
 have ew : nD (gs.filter fun g => g.Kind = 4) * 5 + trW (gs.filter fun g => g.Kind = 4) [47, 101, 118, 105, 108] = 5 := by
  have h1 := Dg 4 [47, 101, 118, 105, 108] gs
  rw [eg', qp ex, KZ] at h1
  exact h1.symm
 rw [if_pos (by
  simp only [List.length_cons, List.length_nil, beq_iff_eq]
  omega)]
 have f1015 : Fr (fun x => h7.size ≤ x) h10 h15 := (((f11.trans f12).mono fun _ => False.elim).trans (f14.mono fun x hx => by rcases hx with (hx | hx) | hx <;> omega)).trans (f15.mono fun _ => False.elim)
 have T15 := T10.fr f1015 fun x _ hx => by omega
 refine J7 T15 (by omega) ⟨_, rfl, ?_⟩
 have e3 : ((bs.length : Nat) : Int) == 3 := by rw [blen]; rfl
 rw [e3]
 exact hk h15 ((((F5.trans f7).trans f8).tr F810 fun x hx hh => by have := F5.size; omega).tr f1015 fun x hx hh => by have := F5.size; omega)
end Go.Proofs.YtjmfpeiidlpngaaGreatDoor
namespace Go.Proofs.YtjmfpeiidlpngaaGreatDoor.Fp
set_option linter.unusedSimpArgs false
set_option linter.unusedVariables false
set_option maxRecDepth 20000
open Go
open Go.IntKind (wrap)
theorem Gw (all : List Cn) : fN all = -1 ∨ ∃ i : Nat, ∃ hi : i < all.length, fN all = i ∧ wC all[i] = false := by
 have key : ∀ (l : List Cn) (k : Nat) (best : Int), all.drop k = l → (best = -1 ∨ ∃ i : Nat, ∃ hi : i < all.length, best = i ∧ wC all[i] = false) → eu all l k best = -1 ∨ ∃ i : Nat, ∃ hi : i < all.length, eu all l k best = i ∧ wC all[i] = false := by
  intro l
  induction l with
  | nil => intro k best _ hb; exact hb
  | cons c l ih =>
   intro k best hd hb
   have hk : k < all.length := by
    rcases Nat.lt_or_ge k all.length with h | h
    ·exact h
    ·rw [List.drop_of_length_le h] at hd; cases hd
   rw [List.drop_eq_getElem_cons hk] at hd
   injection hd with h1 h2
   unfold eu
   by_cases ho : wC c = true
   ·rw [if_pos ho]; exact ih (k + 1) best h2 hb
   rw [if_neg ho]
   have hok : wC all[k] = false := by rw [h1]; simpa using ho
   have hnew : ((k : Nat) : Int) = -1 ∨ ∃ i : Nat, ∃ hi : i < all.length, ((k : Nat) : Int) = i ∧ wC all[i] = false := .inr ⟨k, hk, rfl, hok⟩
   by_cases hf : c.Fast = true
   ·rw [if_pos hf]; exact hnew
   rw [if_neg hf]
   by_cases hb0 : best < 0
   ·rw [if_pos hb0]; exact ih (k + 1) k h2 hnew
   rw [if_neg hb0]
   by_cases hbe : wU c (all.getD best.toNat noC) = true
   ·rw [if_pos hbe]; exact ih (k + 1) k h2 hnew
   ·rw [if_neg hbe]; exact ih (k + 1) best h2 hb
 exact key all 0 (-1) rfl (.inl rfl)
theorem Hn (c : UInt8) : iC c = Au.iC c := by
 unfold iC Au.iC
 have e : (65 ≤ c.toNat ∧ c.toNat ≤ 90) ↔ (65 ≤ c ∧ c ≤ 90) := by
  rw [UInt8.le_iff_toNat_le, UInt8.le_iff_toNat_le]; rfl
 by_cases h : 65 ≤ c ∧ c ≤ 90
 ·rw [if_pos h, if_pos (e.2 h)]
 ·rw [if_neg h, if_neg fun h' => h (e.1 h')]
theorem Gg (l : List UInt8) : l.map iC = Au.cI l := by
 unfold Au.cI
 exact List.map_congr_left fun c _ => Hn c
theorem H7 (l : List UInt8) : Au.cI (Au.cI l) = Au.cI l := by
 unfold Au.cI
 rw [List.map_map]
 refine List.map_congr_left fun x _ => Au.xN ?_
 show Au.bP (Au.iC (Au.iC x)) = _
 rw [Au.oM, Au.oM]
 unfold Au.u5
 by_cases h : 65 ≤ Au.bP x ∧ Au.bP x ≤ 90
 ·rw [if_pos h, if_neg (by omega)]
 ·rw [if_neg h, if_neg h]
end Go.Proofs.YtjmfpeiidlpngaaGreatDoor.Fp
namespace Go.Proofs.YtjmfpeiidlpngaaGreatDoor
set_option linter.unusedSimpArgs false
set_option linter.unusedVariables false
set_option maxRecDepth 20000
open Go
open Go.IntKind (wrap)
theorem CI {cs : List Au.Cn} {ts : List Au.Ts} {d : Au.Nm} {n : Nat} (h : (Au.iF d ts cs 0 n).1.isSome = true) : (match Fp.uy cs with | none => true | some p => AZ (cOf p) d) = true := by
 rcases Fp.Gw cs with hch | ⟨i, hi, hch, hout⟩
 ·unfold Fp.uy
  rw [if_pos (by rw [hch]; decide)]
 ·unfold Fp.wC at hout
  rw [Bool.or_eq_false_iff] at hout
  have hget : cs.getD (Fp.fN cs).toNat Fp.noC = cs[i] := by
   rw [hch, Int.toNat_natCast, List.getD_eq_getElem?_getD, List.getElem?_eq_getElem hi]; rfl
  unfold Fp.uy
  rw [if_neg (by rw [hch]; omega), hget]
  simp only
  obtain ⟨p, hat⟩ := Au.yV _ _ _ h cs[i] (List.getElem_mem hi) hout.1
  have hat' : Au.atB (cOf (if cs[i].Nocase = true then cs[i].Pattern.map Fp.iC else cs[i].Pattern, cs[i].Nocase)) d p = true := by
   unfold Au.atB at hat ⊢
   simp only [cOf]
   by_cases hn : cs[i].Nocase = true
   ·simp only [if_pos hn, List.length_map] at hat ⊢
    rw [Bool.and_eq_true] at hat ⊢
    refine ⟨hat.1, ?_⟩
    have h2 := hat.2
    rw [decide_eq_true_iff] at h2 ⊢
    rw [h2, Fp.Gg, Fp.H7]
   ·simp only [if_neg hn] at hat ⊢
    exact hat
  have hb := hat'
  unfold Au.atB at hb
  rw [Bool.and_eq_true, decide_eq_true_iff] at hb
  obtain ⟨⟨h0, h1⟩, _⟩ := hb
  unfold AZ
  rw [List.any_eq_true]
  refine ⟨p.toNat, by rw [List.mem_range]; omega, ?_⟩
  rw [show ((p.toNat : Nat) : Int) = p by omega]; exact hat'
set_option maxHeartbeats 2000000 in
theorem wH [Gh] (l : Sl Bd) (f : aT) (b : bU) {h : aA} (ol : bJ 25 aF.vals aF.ok h l) (of : aT.ok h f) (ob : bU.ok h b) {Q : Value → aA → Prop} (hk : ∀ h', Fr (fun _ => False) h h' → Q (.bool true) h') :
  aE Tryz.prog mo #[.slice l.p l.xs.length l.cap, .agg f.vals.toArray, .agg b.vals.toArray] h Q := by
 apply sH
 unfold mZ
 have aw : ∀ h', Fr (fun _ => False) h h' → aE Tryz.prog iV #[] h' fun v h2 => ∃ t14 : Bool, v = .bool t14 ∧ Q (.bool t14) h2 := fun h' f => Jd fun h2 f2 => ⟨_, rfl, hk h2 (f.trans f2)⟩
 refine bA (vs := f.vals) fun t4 h1 f1 e1 o4 => bA (vs := b.vals) fun t5 h2 f2 e2 o5 => ?_
 have F2 := f1.trans f2
 refine J3 l (bJ.fr0 aF.ok_fr F2 ol) fun e h3 f3 hs => ⟨_, rfl, ?_⟩
 have F3 := F2.trans f3
 refine ifN (fun _ => aw h3 F3) fun he => ?_
 obtain ⟨hl, sd⟩ := hs he
 refine aY ((o5.fr0 f3).cells.at (j := 3) rfl) ?_
 rw [bN]
 refine ifD (fun _ => aw h3 F3) fun hd => ?_
 have ol3 := bJ.fr0 aF.ok_fr F3 ol
 refine Bq l ol3 (by omega) sd (fun h6 f6 nn => ⟨_, _, rfl, ?_⟩) fun s h6 bs gs f6 T eb eg nd => ⟨_, _, rfl, ?_⟩
 ·rw [if_pos (by decide), if_pos (by rfl)]
  exact aw h6 (F3.trans f6)
 rw [if_neg (by decide)]
 refine Ax ?_
 have blen : bs.length = l.xs.length := by have := congrArg List.length eb; simpa using this
 have eg' : gs.map Fp.fP = iE bs := eg.trans (qp eb.symm)
 have sdb : ∀ b ∈ bs, Snd b := fun b hb => by
  obtain ⟨b', hb', e⟩ := xw eb hb
  exact (sd b' hb').wipe e
 obtain ⟨glen, gsz⟩ := Hm eg' (by omega)
 have F36 := f3.trans f6
 have F6 := F2.trans F36
 have o46 := (o4.fr0 f2).fr0 F36
 have o56 := o5.fr0 F36
 refine (aB (o46.cells.at0 rfl) (aG (o46.cells.at rfl) (aB (o46.cells.at rfl) (aB (o46.cells.at rfl) (aG (o46.cells.at rfl) (aB (o46.cells.at rfl) (aB (o46.cells.at rfl) (aB (o46.cells.at rfl) (aB (o46.cells.at rfl) ?_)))))))))
 refine (aB (o56.cells.at0 rfl) (aB (o56.cells.at rfl) (aB (o56.cells.at rfl) (aY (o56.cells.at rfl) ?_))))
 refine BI T (by omega) (by omega) gsz f b (by omega) (Ci eg') fun p3 pc3 h8 f8 R8 hp3 => ?_
 have ec := DM eg' sdb f b
 rw [yp eb] at ec
 rw [ec] at R8 ⊢
 refine ⟨_, _, _, rfl, ?_⟩
 have o48 := o46.fr0 f8
 have o58 := o56.fr0 f8
 refine (aB (o48.cells.at0 rfl) (aG (o48.cells.at rfl) (aB (o48.cells.at rfl) (aB (o48.cells.at rfl) (aG (o48.cells.at rfl) (aB (o48.cells.at rfl) (aB (o48.cells.at rfl) (aB (o48.cells.at rfl) (aB (o48.cells.at rfl) ?_)))))))))
 refine aB (o58.cells.at (j := 1) rfl) ?_
 refine HP (T.fr0 f8) (by omega) f b.Dir fun p4 pc4 h9 f9 R9 hp4 => ?_
 rw [GD eb f b.Dir] at R9 ⊢
 refine ⟨_, _, _, rfl, ?_⟩
 have F9 := (F6.trans f8).trans f9
 have o59 := o58.fr0 f9
 have R89 := R8.fr0 f9
 have aC : (rL l.xs f b).Pairwise (· < ·) := zi _ _
 have aH : (BW l.xs f b.Dir).Pairwise (· < ·) := zi _ _
 have hlen : (BW l.xs f b.Dir).length ≤ l.xs.length := zd _ _
 have clen : (rL l.xs f b).length ≤ l.xs.length := zd _ _
 have hH : ∀ x ∈ BW l.xs f b.Dir, ∃ n : Nat, ∃ hn : n < l.xs.length, Au.iU l.xs[n] f b.Dir = true ∧ x = n := fun x hx => by
  obtain ⟨n, hn, ha, e⟩ := zK.1 hx
  rw [u1 _ _ _ hn] at ha
  exact ⟨n, hn, ha, e⟩
 have hC : ∀ (n : Nat) (hn : n < l.xs.length), EB l.xs[n] f b = true → (n : Int) ∈ rL l.xs f b := fun n hn hm => zK.2 ⟨n, hn, by rw [u1 _ _ _ hn]; exact hm, rfl⟩
 generalize BW l.xs f b.Dir = H at *
 generalize rL l.xs f b = C at *
 refine aJ.go (fun n st h' => ∃ (k i : Nat), st = ((k : Int), (i : Int)) ∧ i ≤ H.length ∧ k ≤ C.length ∧ n = H.length - i ∧ Fr (fun _ => False) h9 h' ∧ ∀ j (hj : j < C.length) i' (hi' : i' < H.length), j < k → i ≤ i' → C[j] < H[i'])
  H.length ⟨0, 0, rfl, by omega, by omega, rfl, Fr.refl _ _, fun j hj i' hi' h => absurd h (Nat.not_lt_zero _)⟩ ?_
 rintro n - h' ⟨k, i, rfl, hi, hkC, rfl, F', hlt⟩ Kn hK
 dsimp only
 unfold jH
 have R8' := R89.fr0 F'
 have R9' := R9.fr0 F'
 have o5' := o59.fr0 F'
 have F09 := F9.trans F'
 refine ifD (fun hil => ?_) (fun hge => ?_)
 ·have hi' : i < H.length := by omega
  obtain ⟨m, hm, ha, eH⟩ := hH _ (List.getElem_mem hi')
  refine R9'.idx kw (by omega) i rfl hi' fun ad cc => ?_
  try rw [Int.toNat_natCast]
  refine aB (cc.at0 rfl) (ifD (fun _ => by omega) fun _ => ?_)
  refine R9'.idx kw (by omega) i rfl hi' fun ad2 cc2 => ?_
  try rw [Int.toNat_natCast]
  refine aB (cc2.at0 rfl) (ifD (fun _ => by omega) fun _ => ?_)
  refine R9'.idx kw (by omega) i rfl hi' fun ad3 cc3 => ?_
  try rw [Int.toNat_natCast]
  refine aB (cc3.at0 rfl) ?_
  refine eN (bJ.fr0 aF.ok_fr F09 ol) m eH hm fun adr ccr okr => ?_
  rw [eH]
  try rw [Int.toNat_natCast]
  refine (aB (ccr.at0 rfl) (aB (ccr.at rfl) (aD (ccr.at rfl) (aD (ccr.at rfl) (aD (ccr.at rfl) (aD (ccr.at rfl) (aG (ccr.at rfl) (aB (ccr.at rfl) (aB (ccr.at rfl) (aB (ccr.at rfl) (aY (ccr.at rfl) (aB (ccr.at rfl) (aB (ccr.at rfl) (aD (ccr.at rfl) (aD (ccr.at rfl) (aD (ccr.at rfl) (aD (ccr.at rfl) (aB (ccr.at rfl) (aB (ccr.at rfl) (aB (ccr.at rfl) (aB (ccr.at rfl) ?_)))))))))))))))))))))
  refine rm rfl rfl fun t13 h11 f11 e11 o13 => ?_
  have o511 := o5'.fr0 f11
  have okr11 := aF.ok_fr _ _ _ f11 okr
  have nx : ∀ (k' : Nat) h'', k ≤ k' → k' ≤ C.length → (∀ j (hj : j < C.length), j < k' → C[j] < H[i]) → Fr (fun _ => False) h9 h'' → Kn ((k' : Int), wrap .i64 ((i : Int) + 1)) h'' := fun k' h'' hk1 hk2 hj F'' => by
   rw [wr (by omega) (by omega)]
   refine hK (H.length - (i + 1)) _ _ (by omega) ⟨k', i + 1, rfl, by omega, hk2, rfl, F'', fun j hjl i' hi'' h1 h2 => ?_⟩
   have h3 := hj j hjl h1
   have h4 := List.pairwise_iff_getElem.1 aH i i' hi' hi'' (by omega)
   omega
  refine aB (o13.cells.at (j := 12) rfl) (aB (o511.cells.at0 rfl) ?_)
  have hlt0 : ∀ j (hj : j < C.length), j < k → C[j] < H[i] := fun j hj h1 => hlt j hj i hi' h1 (Nat.le_refl _)
  refine oS (fun _ => nx k h11 (Nat.le_refl _) hkC hlt0 (F'.trans f11)) fun ek => ?_
  refine aD (o13.cells.at (j := 14) rfl) (aD (o13.cells.at (j := 15) rfl) (aD (o13.cells.at (j := 13) rfl) (aY (o511.cells.at (j := 3) rfl) ?_)))
  have K := (sd _ (List.getElem_mem hm)).ck
  refine Au.Kd l.xs[m].Rule.Transforms b.Data (by omega) okr11.k0.k13 fun h12 f12 => ⟨_, rfl, ?_⟩
  have o1312 := o13.fr0 f12
  refine ⟨aD (o1312.cells.at (j := 14) rfl) rfl, aD (o1312.cells.at (j := 15) rfl) rfl, ?_⟩
  have okr12 := aF.ok_fr _ _ _ f12 okr11
  have tl := Au.AX l.xs[m].Rule.Transforms.xs b.Data
  refine Au.JH l.xs[m].Rule.Contents l.xs[m].Rule.Tests (Au.jO l.xs[m].Rule.Transforms.xs b.Data) 20000 okr12.k0.k14 okr12.k0.k15 (by decide) (by omega) K.okC K.okT fun h13 f13 => ?_
  have F13 := ((F'.trans f11).trans f12).trans f13
  have R813 := R89.fr0 F13
  have R913 := R9.fr0 F13
  have l2 : ∀ okm : Bool, (okm = true → H[i] ∈ C) → aJ (fun (s : Int) h Kn' => gI l.p l.xs.length l.cap t5 p3 C.length pc3 p4 H.length pc4 (i : Int) okm Q Kn s h Kn') (k : Int) h13 := by
   intro okm hok
   refine aJ.go (fun n st h' => ∃ k' : Nat, st = (k' : Int) ∧ k ≤ k' ∧ k' ≤ C.length ∧ n = C.length - k' ∧ h' = h13 ∧ ∀ j (hj : j < C.length), j < k' → C[j] < H[i]) (C.length - k) ⟨k, rfl, Nat.le_refl _, hkC, rfl, rfl, hlt0⟩ ?_
   rintro n - h14 ⟨k', rfl, hkk, hkc, rfl, rfl, hj⟩ Kn2 hK2
   have b3 : (∀ hk' : k' < C.length, ¬ C[k'] < H[i]) → eK l.p l.xs.length l.cap t5 p3 C.length pc3 p4 H.length pc4 (k' : Int) (i : Int) okm Q Kn h14 := fun hge => by
    unfold eK
    refine ifB (fun eo => ?_) fun eo => nx k' h14 hkk hkc hj F13
    obtain ⟨q, hq, eq⟩ := List.getElem_of_mem (hok eo)
    have hqk : k' ≤ q := by
     rcases Nat.lt_or_ge q k' with h | h
     ·have := hj q hq h; omega
     ·exact h
    have hk' : k' < C.length := by omega
    refine ifD (fun _ => by omega) fun _ => ?_
    refine R813.idx kw (by omega) k' rfl hk' fun ad5 cc5 => ?_
    try rw [Int.toNat_natCast]
    refine aB (cc5.at0 rfl) ?_
    refine R913.idx kw (by omega) i rfl hi' fun ad6 cc6 => ?_
    try rw [Int.toNat_natCast]
    refine aB (cc6.at0 rfl) ?_
    have hle : C[k'] ≤ C[q] := by
     rcases Nat.lt_or_ge k' q with h | h
     ·have := List.pairwise_iff_getElem.1 aC k' q hk' hq h; omega
     ·have : k' = q := by omega
      subst this; exact Int.le_refl _
    have := hge hk'
    refine oS (fun ne => by omega) fun _ => nx k' h14 hkk hkc hj F13
   unfold gI
   refine ifD (fun hlt2 => ?_) fun hge2 => b3 fun hk' => by omega
   have hk' : k' < C.length := by omega
   refine R813.idx kw (by omega) k' rfl hk' fun ad5 cc5 => ?_
   try rw [Int.toNat_natCast]
   refine aB (cc5.at0 rfl) ?_
   refine R913.idx kw (by omega) i rfl hi' fun ad6 cc6 => ?_
   try rw [Int.toNat_natCast]
   refine aB (cc6.at0 rfl) ?_
   refine ifD (fun h5 => ?_) fun h5 => b3 fun _ => h5
   rw [wr (by omega) (by omega)]
   refine hK2 (C.length - (k' + 1)) _ _ (by omega) ⟨k' + 1, rfl, by omega, by omega, rfl, rfl, fun j hjl h6 => ?_⟩
   rcases Nat.lt_or_ge j k' with h7 | h7
   ·exact hj j hjl h7
   ·have : j = k' := by omega
    subst this; exact h5
  unfold Au.EN
  by_cases hov : (Au.iF (Au.jO l.xs[m].Rule.Transforms.xs b.Data) l.xs[m].Rule.Tests.xs l.xs[m].Rule.Contents.xs 0 (Int.toNat 20000)).2.2 = true
  ·rw [if_pos hov]
   exact ⟨_, _, _, _, rfl, l2 false fun e => by cases e⟩
  ·rw [if_neg hov]
   refine ⟨_, _, _, _, rfl, l2 _ fun hm2 => ?_⟩
   rw [eH]
   refine hC m hm ?_
   unfold EB
   rw [decide_eq_true ek, ha, Bool.true_and, Bool.true_and]
   exact CI hm2
 ·unfold jG
  exact aw h' F09
end Go.Proofs.YtjmfpeiidlpngaaGreatDoor
namespace Go.Proofs.YtjmfpeiidlpngaaGreatDoor.rulesetSuperset
set_option linter.unusedSimpArgs false
set_option linter.unusedVariables false
set_option maxRecDepth 20000
open Go Go.ChangeShapes Go.WideShapes Go.ChangeAt Go.RowKit
open Go.ChangeMaps (open_string shut_string)
theorem own : ownKnob Tryz.prog.godebug = none := by kernel_rfl
theorem Cs : laidOutB Tryz.prog = true := by kernel_rfl
set_option maxRecDepth 100000 in
theorem KK (os : Os) (started : os.Started) (H : Type) (enc : TypeId × Value → H) :
  ReturnsInHanded {} Tryz.checked os 6 .any (fun w args => (Rows.rulesetSupersetSpec.pre enc Tryz.prog Tryz.f6 Rows.rulesetSupersetRow.domain false w args ∧ laidMet Tryz.prog Rows.rulesetSupersetRow.laid w) ∧ sizedMet enc Tryz.prog Tryz.f6 (OpenSpec.ofChange Rows.rulesetSupersetSpec) false w args) (Rows.rulesetSupersetSpec.post enc Tryz.prog Tryz.f6 false true false false) := by
 refine returnsInHanded_of_change_and (C := Tryz.checked) (X := fun w _ => laidMet Tryz.prog Rows.rulesetSupersetRow.laid w) (fun _ _ _ hh h => h.of_heap hh) own started (by kernel_rfl) Tryz.func6
  (ChangeSpec.witness_shaped (enc := enc) (C := Tryz.checked) (os := os) (X := fun w _ => laidMet Tryz.prog Rows.rulesetSupersetRow.laid w) false (World.laidAll Tryz.prog os Rows.rulesetSupersetRow.laid) #[.slice none 0 0, .agg #[.int .i64 0, .bool false, .int .u64 0, .int .u64 0, .bool false, .int .u64 0, .int .u64 0, .int .i64 0, .int .i64 0], .agg #[.int .i64 0, .int .i64 0, .int .i64 0, .string ByteArray.empty]] 8 (World.laidAll_os ..) (World.shaped_of_ZipB (by kernel_rfl) (by kernel_rfl)) (by kernel_rfl) (by kernel_rfl) (by kernel_rfl)
   (laidMet_laidAll _ (by kernel_rfl) (by kernel_rfl))) ?_
 intro W base args ds gs before hval0 hW hcnd hsz0 hL _
 have hval : ∀ (j : Nat) t v, Tryz.f6.params[j]? = some t → args[j]? = some v → Value.okWide Tryz.prog W .any base t v := hval0
 have hW' := hW
 obtain ⟨p, q, hA0, hV, rfl, hfz, hnd⟩ := hW
 have hA : DataW.TrodAll enc Tryz.prog W 0 (fun _ => true) true Tryz.f6.params.toList args.toList ds p := hA0
 rw [Tryz.params6] at hA hval
 obtain ⟨v0, vs0, d0, ds0, p0, q0, hargs, rfl, rfl, h0, r0⟩ := trodAll_cons hA
 obtain ⟨v1, vs1, d1, ds1, p1, q1, rfl, rfl, rfl, h1, r1⟩ := trodAll_cons r0
 obtain ⟨v2, vs2, d2, ds2, p2, q2, rfl, rfl, rfl, h2, r2⟩ := trodAll_cons r1
 obtain ⟨rfl, rfl, rfl⟩ := trodAll_nil r2
 obtain rfl : args = #[v0, v1, v2] := by cases args; simp_all
 obtain ⟨rfl, rfl⟩ := trodVars_none hV
 have k0 := h0
 have lt0 : ∀ x ∈ p0, x.block < W.heap.size := by obtain ⟨m, hm⟩ := k0; exact DataW.trod_lt m _ _ _ hm
 obtain ⟨a0, len0, cap0, rfl⟩ := okWide_slice Tryz.underlying22 (hval 0 22 v0 rfl rfl)
 obtain ⟨x0, e0, o0⟩ : ∃ y : Sl aF, Value.slice a0 len0 cap0 = y.v ∧ (bJ 25 aF.vals aF.ok) W.heap y := by
  obtain ⟨fuel, hf⟩ := h0
  obtain ⟨y, e, o⟩ := ((r8 Tryz.underlying22 (by kernel_rfl) (fun _ => rfl) aF.op) : bM enc Tryz.prog W 22 (fun s : Sl aF => [s.v]) (bJ 25 aF.vals aF.ok)) _ _ _ hf
  exact ⟨y, List.head_eq_of_cons_eq e, o⟩
 obtain ⟨rfl, rfl, rfl⟩ : a0 = x0.p ∧ len0 = x0.xs.length ∧ cap0 = x0.cap := by simpa [Sl.v] using e0
 have k1 := h1
 have lt1 : ∀ x ∈ p1, x.block < W.heap.size := by obtain ⟨m, hm⟩ := k1; exact DataW.trod_lt m _ _ _ hm
 obtain ⟨c1, rfl, _⟩ := okWide_struct Tryz.underlying27 (hval 1 27 v1 rfl rfl)
 obtain ⟨x1, e1, o1⟩ : ∃ y : aT, c1 = (aT.vals y).toArray ∧ aT.ok W.heap y := by
  obtain ⟨fuel, hf⟩ := h1
  obtain ⟨y, e, o⟩ := (aT.op : bM enc Tryz.prog W 27 aT.vals aT.ok) _ _ _ hf
  exact ⟨y, by rw [← e]; simp [Value.cells], o⟩
 subst e1
 have k2 := h2
 have lt2 : ∀ x ∈ p2, x.block < W.heap.size := by obtain ⟨m, hm⟩ := k2; exact DataW.trod_lt m _ _ _ hm
 obtain ⟨c2, rfl, _⟩ := okWide_struct Tryz.underlying51 (hval 2 51 v2 rfl rfl)
 obtain ⟨x2, e2, o2⟩ : ∃ y : bU, c2 = (bU.vals y).toArray ∧ bU.ok W.heap y := by
  obtain ⟨fuel, hf⟩ := h2
  obtain ⟨y, e, o⟩ := (bU.op : bM enc Tryz.prog W 51 bU.vals bU.ok) _ _ _ hf
  exact ⟨y, by rw [← e]; simp [Value.cells], o⟩
 subst e2
 clear hA0 hval0 hsz0
 refine (FH (Tryz.call6 _) (fun Q hk => wH x0 x1 x2 o0 o1 o2 hk)).mono fun e W' ⟨he, bel⟩ => ?_
 subst he
 exact ⟨_, rfl, _, _, _, [], _, [], hW', trodAll_mk1 (shut_bool Tryz.underlying4 _), (trodAll_cons_mk (Below.trod Cs (by kernel_rfl) (of_decide_eq_true (by kernel_rfl)) k0 bel lt0) (trodAll_cons_mk (Below.trod Cs (by kernel_rfl) (of_decide_eq_true (by kernel_rfl)) k1 bel lt1) (trodAll_cons_mk (Below.trod Cs (by kernel_rfl) (of_decide_eq_true (by kernel_rfl)) k2 bel lt2) trodAll_mk0))), rfl, bel.frame _, fun h => by cases h⟩
theorem over : Rows.rulesetSupersetRow.holds Tryz.pinned (OpenSpec.ofChange Rows.rulesetSupersetSpec) :=
 OpenClaim.holds_of_wide 6 Tryz.f6 rfl rfl rfl rfl rfl rfl rfl ⟨rfl, rfl, rfl, rfl, rfl⟩ rfl rfl rfl rfl rfl (by kernel_rfl) Tryz.func6 (by kernel_rfl)
  (of_decide_eq_true (by kernel_rfl)) (by unfold Func.isWrapper; first | (rw [if_pos (by decide +kernel)]; kernel_rfl) | (rw [if_neg (by decide +kernel)]; exact ⟨rfl, rfl⟩))
  (fun os started H enc _ => KK os started H enc)
theorem card_holds : Rows.RulesetSupersetCardSaid :=
 Claim7.holds_tied_plain_at .later [] [.data, .pinned] true (true, "5e104a27cbbb9a9f702d2c67a6526b429eab3fb5f9ff9b91391d8179eab60239") false
  over (fun _ h => by cases h) (by kernel_rfl) (fun _ h => by cases h) rulesetSuperset_row_tie rfl ⟨rfl, rfl⟩ (by kernel_rfl) rfl
  (fun f fn hf hfn => by
   obtain rfl : f = 6 := Option.some.inj ((show Tryz.prog.funcNamed "intrusion/intrusionlaw47.RulesetSuperset" = some 6 by kernel_rfl).symm.trans hf) |>.symm
   obtain rfl : fn = Tryz.f6 := (Option.some.inj (Tryz.func6.symm.trans hfn)).symm
   exact ⟨by kernel_rfl, fun j t ht => by
    rw [Tryz.params6] at ht
    match j, ht with
    | 0, ht => obtain rfl : t = 22 := (Option.some.inj ht).symm; exact (show Tryz.prog.wantsStandIn 22 = false by kernel_rfl)
    | 1, ht => obtain rfl : t = 27 := (Option.some.inj ht).symm; exact (show Tryz.prog.wantsStandIn 27 = false by kernel_rfl)
    | 2, ht => obtain rfl : t = 51 := (Option.some.inj ht).symm; exact (show Tryz.prog.wantsStandIn 51 = false by kernel_rfl)
    | _ + 3, ht => cases ht⟩)
  (by kernel_rfl)
end Go.Proofs.YtjmfpeiidlpngaaGreatDoor.rulesetSuperset
namespace Go.Proofs.YtjmfpeiidlpngaaGreatDoor
theorem rulesetSuperset_holds : Rows.RulesetSupersetCardSaid := rulesetSuperset.card_holds
#print axioms rulesetSuperset_holds
end Go.Proofs.YtjmfpeiidlpngaaGreatDoor
