/-
  Part 3 of 5 of the proofs: the texts of wip/ in one file, without what this claim does not use.
-/
import Derived.Test.YtjmfpeiidlpngaaGreatDoorZC2
namespace Go.Proofs.YtjmfpeiidlpngaaGreatDoor.Au
set_option linter.unusedSimpArgs false
set_option linter.unusedVariables false
set_option maxRecDepth 20000
abbrev Nm := List UInt8
def ls (sg : List Nm) : Nm → Nm
 | [] => []
 | c :: w => if c :: w ∈ sg then c :: w else ls sg w
structure Pre (sg : List Nm) : Prop where
 nil : [] ∈ sg
 pre : ∀ w c, w ++ [c] ∈ sg → w ∈ sg
section
variable {sg : List Nm}
theorem wU (P : Pre sg) : ∀ w, ls sg w ∈ sg
 | [] => P.nil
 | c :: w => by
  unfold ls; split
  ·assumption
  ·exact wU P w
theorem uh : ∀ w, ls sg w <:+ w
 | [] => List.suffix_refl _
 | c :: w => by
  unfold ls; split
  ·exact List.suffix_refl _
  ·exact (uh w).trans (List.suffix_cons c w)
theorem wK : ∀ (w : Nm) {v : Nm}, v <:+ w → v ∈ sg → v <:+ ls sg w
 | [], v, h, _ => by rw [List.suffix_nil.1 h]; exact List.nil_suffix
 | c :: w, v, h, hv => by
  unfold ls; split
  ·exact h
  ·rename_i hn
   rcases List.suffix_cons_iff.1 h with h | h
   ·subst h; exact absurd hv hn
   ·exact wK w h hv
theorem JK {a b : Nm} (h1 : a <:+ b) (h2 : b <:+ a) : a = b := by
 have := h1.length_le; have := h2.length_le
 exact h1.eq_of_length (by omega)
theorem Jw (P : Pre sg) {w v : Nm} (h1 : v ∈ sg) (h2 : v <:+ w) (h3 : ∀ u, u <:+ w → u ∈ sg → u <:+ v) : v = ls sg w :=
 JK (wK w h2 h1) (h3 _ (uh w) (wU P w))
theorem D2 {w : Nm} (h : w ∈ sg) : ls sg w = w := by
 cases w with
 | nil => rfl
 | cons c w => unfold ls; rw [if_pos h]
theorem Fq {v w : Nm} {c : UInt8} (h : v <:+ w ++ [c]) : v = [] ∨ ∃ u, v = u ++ [c] ∧ u <:+ w := by
 rcases List.eq_nil_or_concat v with rfl | ⟨u, d, rfl⟩
 ·exact .inl rfl
 ·right
  rw [List.concat_eq_append] at h ⊢
  obtain ⟨t, ht⟩ := h
  rw [← List.append_assoc] at ht
  obtain ⟨h1, h2⟩ := List.append_inj' ht rfl
  cases h2
  exact ⟨u, rfl, t, h1⟩
theorem BS {v w : Nm} {c : UInt8} (h : v <:+ w) : v ++ [c] <:+ w ++ [c] := by
 obtain ⟨t, rfl⟩ := h; exact ⟨t, by rw [List.append_assoc]⟩
theorem Ef (P : Pre sg) (w : Nm) (c : UInt8) : ls sg (w ++ [c]) = ls sg (ls sg w ++ [c]) := by
 refine (Jw P (wU P _) ((uh _).trans (BS (uh w))) fun u h1 h2 => ?_).symm
 rcases Fq h1 with rfl | ⟨v, rfl, hv⟩
 ·exact List.nil_suffix
 ·exact wK _ (BS (wK w hv (P.pre _ _ h2))) h2
def fl (sg : List Nm) (w : Nm) : Nm := ls sg w.tail
theorem JX (P : Pre sg) (w : Nm) : fl sg w ∈ sg := wU P _
theorem wA (w : Nm) (h : w ≠ []) : (fl sg w).length < w.length := by
 have h1 := (uh (sg := sg) w.tail).length_le
 have h2 := List.length_pos_iff.2 h
 unfold fl
 rw [List.length_tail] at h1; omega
theorem Ca (P : Pre sg) (w : Nm) (hw : w ≠ []) (c : UInt8) : fl sg (w ++ [c]) = ls sg (fl sg w ++ [c]) := by
 unfold fl
 rw [List.tail_append_of_ne_nil hw, Ef P]
theorem Ie (P : Pre sg) (w : Nm) (hw : w ≠ []) (c : UInt8) (h : w ++ [c] ∉ sg) : ls sg (w ++ [c]) = ls sg (fl sg w ++ [c]) := by
 rw [← Ca P w hw c]
 cases w with
 | nil => exact absurd rfl hw
 | cons d w =>
  show ls sg (d :: (w ++ [c])) = ls sg (w ++ [c])
  rw [ls]; exact if_neg h
theorem JV (P : Pre sg) {v w : Nm} (h : v <:+ w) (hv : v ∈ sg) (hne : v ≠ w) : v <:+ fl sg w := by
 cases w with
 | nil => rw [List.suffix_nil.1 h]; exact List.nil_suffix
 | cons c w =>
  rcases List.suffix_cons_iff.1 h with h | h
  ·exact absurd h hne
  ·exact wK w h hv
theorem Gq (w : Nm) : fl sg w <:+ w := (uh _).trans (List.tail_suffix w)
variable (sg) in
def tB (E : Nm → List Nat) (w : Nm) : Nm :=
 if h : w = [] then [] else if E (fl sg w) ≠ [] then fl sg w else tB E (fl sg w)
termination_by w.length
decreasing_by exact wA w h
theorem rv (E : Nm → List Nat) : tB sg E [] = [] := by rw [tB, dif_pos rfl]
theorem uq (E : Nm → List Nat) {w : Nm} (h : w ≠ []) : tB sg E w = if E (fl sg w) ≠ [] then fl sg w else tB sg E (fl sg w) := by rw [tB, dif_neg h]
theorem yj (P : Pre sg) (E : Nm → List Nat) : ∀ (n : Nat) (w : Nm), w.length ≤ n → tB sg E w ∈ sg
 | 0, w, h => by rw [List.length_eq_zero_iff.1 (Nat.le_zero.1 h), rv]; exact P.nil
 | n + 1, w, h => by
  by_cases hw : w = []
  ·rw [hw, rv]; exact P.nil
  ·rw [uq E hw]; split
   ·exact JX P w
   ·exact yj P E n _ (by have := wA (sg := sg) w hw; omega)
theorem tQ (E : Nm → List Nat) : ∀ (n : Nat) (w : Nm), w.length ≤ n → w ≠ [] → (tB sg E w).length < w.length
 | 0, w, h, hw => absurd (List.length_eq_zero_iff.1 (Nat.le_zero.1 h)) hw
 | n + 1, w, h, hw => by
  have hl := wA (sg := sg) w hw
  rw [uq E hw]; split
  ·exact hl
  ·by_cases hf : fl sg w = []
   ·rw [hf, rv]; exact List.length_pos_iff.2 hw
   ·have := tQ E n (fl sg w) (by omega) hf; omega
theorem yW (E : Nm → List Nat) : ∀ (n : Nat) (w : Nm), w.length ≤ n → tB sg E w <:+ w
 | 0, w, h => by rw [List.length_eq_zero_iff.1 (Nat.le_zero.1 h), rv]; exact List.suffix_refl _
 | n + 1, w, h => by
  by_cases hw : w = []
  ·rw [hw, rv]; exact List.suffix_refl _
  ·rw [uq E hw]; split
   ·exact Gq w
   ·exact (yW E n _ (by have := wA (sg := sg) w hw; omega)).trans (Gq w)
theorem CG (P : Pre sg) (E : Nm → List Nat) (h0 : E [] = []) : ∀ (n : Nat) (w : Nm), w.length ≤ n → ∀ v, v <:+ w → v ∈ sg → E v ≠ [] → v ≠ w → v <:+ tB sg E w
 | 0, w, h, v, hs, hm, he, hne => by
  have := List.length_eq_zero_iff.1 (Nat.le_zero.1 h)
  subst this
  exact absurd (List.suffix_nil.1 hs) hne
 | n + 1, w, h, v, hs, hm, he, hne => by
  by_cases hw : w = []
  ·subst hw; exact absurd (List.suffix_nil.1 hs) hne
  ·have hf := JV P hs hm hne
   rw [uq E hw]; split
   ·exact hf
   ·rename_i hE
    have hE : E (fl sg w) = [] := Classical.byContradiction fun h => hE h
    exact CG P E h0 n _ (by have := wA (sg := sg) w hw; omega) v hf hm he fun h => by rw [h] at he; exact he hE
variable (sg) in
def mh (E : Nm → List Nat) (w : Nm) : List Nat :=
 if h : w = [] then [] else E w ++ mh E (tB sg E w)
termination_by w.length
decreasing_by exact tQ E _ w (Nat.le_refl _) h
theorem sk (E : Nm → List Nat) : mh sg E [] = [] := by rw [mh, dif_pos rfl]
theorem wT (E : Nm → List Nat) {w : Nm} (h : w ≠ []) : mh sg E w = E w ++ mh sg E (tB sg E w) := by rw [mh, dif_neg h]
theorem uB (P : Pre sg) (E : Nm → List Nat) (h0 : E [] = []) (j : Nat) : ∀ (n : Nat) (w : Nm), w.length ≤ n → w ∈ sg → (j ∈ mh sg E w ↔ ∃ v, v <:+ w ∧ v ∈ sg ∧ j ∈ E v)
 | 0, w, h, hw => by
  have := List.length_eq_zero_iff.1 (Nat.le_zero.1 h)
  subst this
  rw [sk]
  constructor
  ·intro h; cases h
  ·rintro ⟨v, h1, h2, h3⟩; rw [List.suffix_nil.1 h1, h0] at h3; cases h3
 | n + 1, w, h, hw => by
  by_cases hn : w = []
  ·subst hn; exact uB P E h0 j 0 [] (Nat.le_refl _) hw
  ·have hl := tQ (sg := sg) E _ w (Nat.le_refl _) hn
   have ih := uB P E h0 j n (tB sg E w) (by omega) (yj P E _ w (Nat.le_refl _))
   rw [wT E hn, List.mem_append, ih]
   constructor
   ·rintro (h | ⟨v, h1, h2, h3⟩)
    ·exact ⟨w, List.suffix_refl _, hw, h⟩
    ·exact ⟨v, h1.trans (yW E _ w (Nat.le_refl _)), h2, h3⟩
   ·rintro ⟨v, h1, h2, h3⟩
    by_cases hv : v = w
    ·left; rw [← hv]; exact h3
    ·right; exact ⟨v, CG P E h0 _ w (Nat.le_refl _) v h1 h2 (fun h => by rw [h] at h3; cases h3) hv, h2, h3⟩
theorem xf (P : Pre sg) (E : Nm → List Nat) (h0 : E [] = []) (hE : ∀ w, (E w).Nodup) (hd : ∀ v w j, j ∈ E v → j ∈ E w → v = w) : ∀ (n : Nat) (w : Nm), w.length ≤ n → w ∈ sg → (mh sg E w).Nodup
 | 0, w, h, hw => by rw [List.length_eq_zero_iff.1 (Nat.le_zero.1 h), sk]; exact List.nodup_nil
 | n + 1, w, h, hw => by
  by_cases hn : w = []
  ·rw [hn, sk]; exact List.nodup_nil
  ·have hl := tQ (sg := sg) E _ w (Nat.le_refl _) hn
   have hm := yj P E _ w (Nat.le_refl _)
   rw [wT E hn]
   refine List.nodup_append.2 ⟨hE w, xf P E h0 hE hd n _ (by omega) hm, fun a ha b hb hab => ?_⟩
   subst hab
   obtain ⟨v, h1, h2, h3⟩ := (uB P E h0 a _ _ (Nat.le_refl _) hm).1 hb
   have := hd _ _ _ ha h3
   subst this
   have := h1.length_le
   omega
end
end Go.Proofs.YtjmfpeiidlpngaaGreatDoor.Au
namespace Go.Proofs.YtjmfpeiidlpngaaGreatDoor.Au
set_option linter.unusedSimpArgs false
set_option linter.unusedVariables false
set_option maxRecDepth 20000
open Go
open Go.IntKind (wrap)
theorem slF (l : Nm) {a : Int} (i : Nat) (ha : a = i) (h2 : i ≤ l.length) {K : ByteArray → Prop} (hk : K (bs (l.drop i))) : ro (bs l) (some a) none K := by
 subst ha
 refine ⟨by omega, by rw [bR]; omega, ?_⟩
 rw [Int.toNat_natCast, bR, H3]; exact hk
theorem slT (l : Nm) {b : Int} (j : Nat) (hb : b = j) (h2 : j ≤ l.length) {K : ByteArray → Prop} (hk : K (bs (l.take j))) : ro (bs l) none (some b) K := by
 subst hb
 refine ⟨by omega, by rw [bR]; omega, ?_⟩
 rw [Int.toNat_natCast, Iq]; exact hk
def bN (b : UInt8) : Int := b.toNat
theorem pG (b : UInt8) : 0 ≤ bN b ∧ bN b ≤ 255 := by unfold bN; have := b.toNat_lt; omega
theorem Ew {u v : UInt8} (h : bN u = bN v) : u = v := by apply UInt8.toNat_inj.1; unfold bN at h; omega
theorem ixS (l : Nm) {n : Int} (i : Nat) (hn : n = i) (hi : i < l.length) {K : Int → Prop} (hk : K (bN l[i])) : rY (bs l) n K := by
 subst hn
 refine ⟨by omega, by rw [bR]; omega, ?_⟩
 have : bAt (bs l) (i : Int) = bN l[i] := by
  unfold bAt bN bs
  simp [hi]
 rw [this]; exact hk
def bV (b : UInt8) : List Value := [.int .u8 b.toNat]
theorem wE (b : UInt8) : (bV b).length = 1 := rfl
theorem ut (l : Nm) : l.flatMap bV = dX l := by
 induction l with
 | nil => rfl
 | cons a l ih => rw [List.flatMap_cons, ih]; rfl
theorem BO : gM Tryz.prog aQ od Tryz.t5 (.int .u8 0) := ⟨Tryz.underlying98, by kernel_rfl, by kernel_rfl, by kernel_rfl, by decide⟩
theorem zT [Gh] {h : aA} {p : Option Addr} {c : Nat} {l : Nm} (R : Row 1 bV h p c l) {K : Value → aA → Prop} (hk : K (.string (bs l)) h) : oJ Tryz.prog aQ dO (.slice p l.length c) h K := by
 have o := R.own
 rw [ut] at o
 exact r7 Tryz.underlying98 Tryz.underlying9 Tryz.underlying5 (l := l) rfl (fun ad hd => by subst hd; exact o.cells) (fun hd => by subst hd; have := o.1; simpa [dX] using this) hk
theorem Kl [Gh] {h : aA} {p : Option Addr} {cap : Nat} {L : Nm} (R : Row 1 bV h p cap L) {e : UInt8} {b : Addr} (ob : Own h b (bV e) od) (hl : L.length ≤ 2 ^ 29) {K : Value → aA → Prop}
  (hk : ∀ p' cap' h', Row 1 bV h' p' cap' (L ++ [e]) → Fr (InA p) h h' → (∀ b, InA p' b → InA p b ∨ h.size ≤ b) → K (.slice p' (L ++ [e]).length cap') h') :
  dN Tryz.prog .append #[aQ, aQ] aQ #[false, false] #[.slice p L.length cap, .slice (some b) 1 1] h K :=
 R.app BO Tryz.underlying98 (by intro k e; cases e) (by kernel_rfl) (by decide +kernel) wE (fun _ => rfl) ob 1 hl hk
def yh (c : Int) : Int := if 65 ≤ c ∧ c ≤ 90 then c + 32 else c
def jJ (b : UInt8) : UInt8 := if 65 ≤ b ∧ b ≤ 90 then b + 32 else b
def cX (l : Nm) : Nm := l.map jJ
theorem wrb {x : Int} (h1 : 0 ≤ x) (h2 : x ≤ 255) : wrap .u8 x = x := wr8 h1 h2
theorem wB (b : UInt8) : bN (jJ b) = yh (bN b) := by
 have hb := pG b
 unfold jJ yh bN at *
 have e : (65 ≤ b ∧ b ≤ 90) ↔ (65 ≤ (b.toNat : Int) ∧ (b.toNat : Int) ≤ 90) := by
  rw [UInt8.le_iff_toNat_le, UInt8.le_iff_toNat_le]
  show (65 ≤ b.toNat ∧ b.toNat ≤ 90) ↔ _
  omega
 by_cases h : 65 ≤ b ∧ b ≤ 90
 ·rw [if_pos h, if_pos (e.1 h)]
  have h2 := (e.1 h).2
  rw [UInt8.toNat_add]
  show (((b.toNat + 32) % 256 : Nat) : Int) = _
  omega
 ·rw [if_neg h, if_neg fun h' => h (e.2 h')]
theorem xC [Gh] (c : Int) (h0 : 0 ≤ c) (h1 : c ≤ 255) {h : aA} {Q : Value → aA → Prop} (hk : Q (.int .u8 (yh c)) h) : aD Tryz.prog jQ #[.int .u8 c] h Q := by
 apply wd
 unfold qD
 unfold yh at hk
 refine ifD (fun e => ifD (fun e2 => ?_) fun e2 => ?_) fun e => ?_
 ·rw [if_pos ⟨e, e2⟩] at hk
  rw [wrb (x := c + 97) (by omega) (by omega), wrb (by omega) (by omega)]
  have : c + 97 - 65 = c + 32 := by omega
  rw [this]; exact hk
 ·rw [if_neg (by omega)] at hk; exact hk
 ·rw [if_neg (by omega)] at hk; exact hk
theorem j0 (l : Nm) : (cX l).length = l.length := by unfold cX; simp
theorem FR (l : Nm) (i : Nat) (hi : i < l.length) : (cX (l.take i) ++ l.drop i).set i (jJ l[i]) = cX (l.take (i + 1)) ++ l.drop (i + 1) := by
 have hlow : cX (l.take (i + 1)) = cX (l.take i) ++ [jJ l[i]] := by
  rw [show l.take (i + 1) = l.take i ++ [l[i]] by rw [List.take_append_getElem]]; unfold cX; rw [List.map_append]; rfl
 have hlen : (cX (l.take i)).length = i := by rw [j0, List.length_take]; omega
 rw [List.set_append_right _ _ (by omega), hlen, Nat.sub_self, List.drop_eq_getElem_cons hi, List.set_cons_zero, hlow]
 simp
theorem IL (l : Nm) (i : Nat) (hi : i < l.length) (h : i < (cX (l.take i) ++ l.drop i).length) : (cX (l.take i) ++ l.drop i)[i] = l[i] := by
 have hlen : (cX (l.take i)).length = i := by rw [j0, List.length_take]; omega
 rw [List.getElem_append_right (by omega), List.getElem_drop]
 congr 1; omega
theorem Jd (l : Nm) (i : Nat) (hi : i ≤ l.length) : (cX (l.take i) ++ l.drop i).length = l.length := by rw [List.length_append, j0, List.length_take, List.length_drop]; omega
theorem _root_.Go.Proofs.YtjmfpeiidlpngaaGreatDoor.Row.setB [Gh] {h : aA} {p : Option Addr} {cap : Nat} {L : Nm} (R : Row 1 bV h p cap L) {n : Int} {len : Nat} (i : Nat) (hn : n = i) (hl : len = L.length) (hi : i < L.length) (x : UInt8) {c : Int} (hc : c = bN x) {K : aA → Prop} (hk : ∀ h', Fr (InA p) h h' → Row 1 bV h' p cap (L.set i x) → K h') :
  bQ n len (nn p fun a => st1 h (a.add (n.toNat * 1)) (.int .u8 c) K) := by
 subst hc hl
 refine bO i hn hi ?_
 obtain ⟨ad, hp, _⟩ := R.cellsAt wE (by omega) i hi
 subst hp
 refine aS ?_
 rw [hn, Int.toNat_natCast]
 have := R.set1 wE i hi rfl (j := 0) (by omega) (v := .int .u8 (bN x)) rfl (e' := x) rfl hk
 rw [lg, Nat.add_zero] at this
 exact this
end Go.Proofs.YtjmfpeiidlpngaaGreatDoor.Au
namespace Go.Proofs.YtjmfpeiidlpngaaGreatDoor.Au
set_option linter.unusedSimpArgs false
set_option linter.unusedVariables false
set_option maxRecDepth 20000
open Go
open Go.IntKind (wrap)
structure Pt where
 t : Nm
 nc : Bool
def ptV (p : Pt) : List Value := [.string (bs p.t), .bool p.nc]
def Hw (h : aA) (q : Option Addr) (L : List Pt) : Prop := ∀ i (hi : i < L.length), ∃ ad, q = some ad ∧ aW h (ad.add (i * 2)) (ptV L[i])
theorem Hw.get {h : aA} {q : Option Addr} {L : List Pt} (S : Hw h q L) {n : Int} (i : Nat) (hn : n = i) (hi : i < L.length) {K : Addr → Prop} (hk : ∀ ad, aW h (ad.add (i * 2)) [.string (bs L[i].t), .bool L[i].nc] → K ad) : bQ n L.length (nn q fun a => K a) := by
 obtain ⟨ad, rfl, c⟩ := S i hi
 exact bO i hn hi (aS (hk ad c))
def yH (s : Nm) (k n : Nat) : Nm := (s.drop (n - k)).take k
def tk (p : Pt) (s : Nm) (n : Nat) : Bool :=
 decide (p.t ≠ []) && (decide (p.t.length ≤ n) && (if p.nc = true then decide (cX (yH s p.t.length n) = cX p.t) else decide (yH s p.t.length n = p.t)))
abbrev Hit := Nat × Nat
def yI (x : Hit) : List Value := [.int .i64 x.1, .int .i64 x.2]
theorem Cy (x : Hit) : (yI x).length = 2 := rfl
theorem JO : gM Tryz.prog jM wJ Tryz.t174 (.agg #[.int .i64 0, .int .i64 0]) :=
 ⟨Tryz.underlying108, by kernel_rfl, by kernel_rfl, by kernel_rfl, by decide +kernel⟩
theorem Jl [Gh] {h : aA} {p : Option Addr} {cap : Nat} {L : List Hit} (R : Row 2 yI h p cap L) {e : Hit} {b : Addr} {T : TypeId} (ob : Own h b (yI e) T) (hl : L.length ≤ 2 ^ 29) {K : Value → aA → Prop}
  (hk : ∀ p' cap' h', Row 2 yI h' p' cap' (L ++ [e]) → Fr (InA p) h h' → (∀ b, InA p' b → InA p b ∨ h.size ≤ b) → K (.slice p' (L ++ [e]).length cap') h') :
  dN Tryz.prog .append #[jM, jM] jM #[false, false] #[.slice p L.length cap, .slice (some b) 1 1] h K :=
 R.app JO Tryz.underlying108 (by intro k e; cases e) (by kernel_rfl) (by decide +kernel) Cy (fun _ => rfl) ob 1 hl hk
def hA (L : List Pt) (s : Nm) (n i : Nat) : List Hit := (List.range i).flatMap fun j => if tk (L.getD j ⟨[], false⟩) s n = true then [(j, n)] else []
theorem Ib (L : List Pt) (s : Nm) (n i : Nat) : hA L s n (i + 1) = hA L s n i ++ (if tk (L.getD i ⟨[], false⟩) s n = true then [(i, n)] else []) := by
 unfold hA
 rw [List.range_succ, List.flatMap_append, List.flatMap_cons, List.flatMap_nil, List.append_nil]
theorem GK (L : List Pt) (s : Nm) (n : Nat) : ∀ i, (hA L s n i).length ≤ i
 | 0 => Nat.le_refl _
 | i + 1 => by
  have ih := GK L s n i
  rw [Ib, List.length_append]
  split
  ·rw [List.length_singleton]; omega
  ·rw [List.length_nil]; omega
def oS (L : List Pt) (s : Nm) (fm k : Nat) : List Hit := (List.range k).flatMap fun m => hA L s (fm + 1 + m) L.length
theorem Aw (L : List Pt) (s : Nm) (fm k : Nat) : oS L s fm (k + 1) = oS L s fm k ++ hA L s (fm + 1 + k) L.length := by
 unfold oS
 rw [List.range_succ, List.flatMap_append]; simp
theorem vB (L : List Pt) (s : Nm) (fm : Nat) : ∀ k, (oS L s fm k).length ≤ k * L.length
 | 0 => by simp [oS]
 | k + 1 => by
  have ih := vB L s fm k
  have h2 := GK L s (fm + 1 + k) L.length
  rw [Aw, List.length_append, Nat.succ_mul]; omega
end Go.Proofs.YtjmfpeiidlpngaaGreatDoor.Au
namespace Go.Proofs.YtjmfpeiidlpngaaGreatDoor.Au
set_option linter.unusedSimpArgs false
set_option linter.unusedVariables false
set_option maxRecDepth 20000
open Go
open Go.IntKind (wrap)
theorem zW (s : Nm) (n : Nat) : (cX s).take n = cX (s.take n) := by unfold cX; rw [List.map_take]
end Go.Proofs.YtjmfpeiidlpngaaGreatDoor.Au
namespace Go.Proofs.YtjmfpeiidlpngaaGreatDoor
set_option linter.unusedSimpArgs false
set_option linter.unusedVariables false
set_option maxRecDepth 20000
open Go
structure aL where
 V6 : Bool
 Hi : Int
 Lo : Int
def aL.vals (r : aL) : List Go.Value := [.bool r.V6, .int .u64 r.Hi, .int .u64 r.Lo]
structure aL.ok (h : aA) (r : aL) : Prop where
 k0 : bOk h r.V6
 k1 : (kOk .u64) h r.Hi
 k2 : (kOk .u64) h r.Lo
theorem aL.ok_fr (h h' : aA) (r : aL) (f : Fr (fun _ => False) h h') (o : aL.ok h r) : aL.ok h' r :=
 ⟨o.k0, o.k1, o.k2⟩
section
open Go.ChangeShapes Go.WideShapes Go.ChangeAt Go.RowKit
variable {H : Type} {enc : TypeId × Go.Value → H} {w : World}
set_option maxRecDepth 100000 in
theorem aL.op : bM enc Tryz.prog w cT aL.vals aL.ok := fun fuel cs x h => by
 obtain ⟨xs, n, rfl, hx, hl, hxl, hf⟩ := DataW.trod_struct Tryz.underlying25 h
 rw [show Tryz.prog.cellsOf 25 = 3 from by kernel_rfl] at hl
 match xs, hxl, cs, hl with
 | [y0, y1, y2], _, [v0, v1, v2], _ =>
  have g0 : DataW.trod enc Tryz.prog w 0 (fun _ => true) true n 4 (([v0, v1, v2].drop 0).take (Tryz.prog.cellsOf 4)) = some y0 := hf 0 _ rfl
  rw [show Tryz.prog.cellsOf 4 = 1 from by kernel_rfl] at g0
  obtain ⟨z0, e0, o0⟩ := ((m8 Tryz.underlying4) : bM enc Tryz.prog w 4 (fun n : Bool => [Go.Value.bool n]) bOk) _ _ _ g0
  have g1 : DataW.trod enc Tryz.prog w 0 (fun _ => true) true n 23 (([v0, v1, v2].drop 1).take (Tryz.prog.cellsOf 23)) = some y1 := hf 1 _ rfl
  rw [show Tryz.prog.cellsOf 23 = 1 from by kernel_rfl] at g1
  obtain ⟨z1, e1, o1⟩ := ((gA Tryz.underlying23) : bM enc Tryz.prog w 23 (fun n : Int => [Go.Value.int .u64 n]) (kOk .u64)) _ _ _ g1
  have g2 : DataW.trod enc Tryz.prog w 0 (fun _ => true) true n 23 (([v0, v1, v2].drop 2).take (Tryz.prog.cellsOf 23)) = some y2 := hf 2 _ rfl
  rw [show Tryz.prog.cellsOf 23 = 1 from by kernel_rfl] at g2
  obtain ⟨z2, e2, o2⟩ := ((gA Tryz.underlying23) : bM enc Tryz.prog w 23 (fun n : Int => [Go.Value.int .u64 n]) (kOk .u64)) _ _ _ g2
  obtain rfl := List.head_eq_of_cons_eq e0
  obtain rfl := List.head_eq_of_cons_eq e1
  obtain rfl := List.head_eq_of_cons_eq e2
  exact ⟨⟨z0, z1, z2⟩, rfl, ⟨o0, o1, o2⟩⟩
end
structure bL where
 Addr : aL
 Bits : Int
def bL.vals (r : bL) : List Go.Value := [.bool r.Addr.V6, .int .u64 r.Addr.Hi, .int .u64 r.Addr.Lo, .int .i64 r.Bits]
structure bL.ok (h : aA) (r : bL) : Prop where
 k0 : aL.ok h r.Addr
 k1 : (kOk .i64) h r.Bits
theorem bL.ok_fr (h h' : aA) (r : bL) (f : Fr (fun _ => False) h h') (o : bL.ok h r) : bL.ok h' r :=
 ⟨aL.ok_fr _ _ _ f o.k0, o.k1⟩
section
open Go.ChangeShapes Go.WideShapes Go.ChangeAt Go.RowKit
variable {H : Type} {enc : TypeId × Go.Value → H} {w : World}
set_option maxRecDepth 100000 in
theorem bL.op : bM enc Tryz.prog w wn bL.vals bL.ok := fun fuel cs x h => by
 obtain ⟨xs, n, rfl, hx, hl, hxl, hf⟩ := DataW.trod_struct Tryz.underlying137 h
 rw [show Tryz.prog.cellsOf 137 = 4 from by kernel_rfl] at hl
 match xs, hxl, cs, hl with
 | [y0, y1], _, [v0, v1, v2, v3], _ =>
  have g0 : DataW.trod enc Tryz.prog w 0 (fun _ => true) true n 25 (([v0, v1, v2, v3].drop 0).take (Tryz.prog.cellsOf 25)) = some y0 := hf 0 _ rfl
  rw [show Tryz.prog.cellsOf 25 = 3 from by kernel_rfl] at g0
  obtain ⟨z0, e0, o0⟩ := (aL.op : bM enc Tryz.prog w 25 aL.vals aL.ok) _ _ _ g0
  have g1 : DataW.trod enc Tryz.prog w 0 (fun _ => true) true n 3 (([v0, v1, v2, v3].drop 3).take (Tryz.prog.cellsOf 3)) = some y1 := hf 1 _ rfl
  rw [show Tryz.prog.cellsOf 3 = 1 from by kernel_rfl] at g1
  obtain ⟨z1, e1, o1⟩ := ((gA Tryz.underlying3) : bM enc Tryz.prog w 3 (fun n : Int => [Go.Value.int .i64 n]) (kOk .i64)) _ _ _ g1
  have e0 : [v0, v1, v2] = aL.vals z0 := e0
  simp only [aL.vals, List.cons.injEq, and_true] at e0
  obtain ⟨rfl, rfl, rfl⟩ := e0
  obtain rfl := List.head_eq_of_cons_eq e1
  exact ⟨⟨z0, z1⟩, rfl, ⟨o0, o1⟩⟩
end
structure aI where
 Not : Bool
 Var : List UInt8
 Prefix : bL
def aI.vals (r : aI) : List Go.Value := [.bool r.Not, .string (bs r.Var), .bool r.Prefix.Addr.V6, .int .u64 r.Prefix.Addr.Hi, .int .u64 r.Prefix.Addr.Lo, .int .i64 r.Prefix.Bits]
structure aI.ok (h : aA) (r : aI) : Prop where
 k0 : bOk h r.Not
 k1 : sOk h r.Var
 k2 : bL.ok h r.Prefix
theorem aI.ok_fr (h h' : aA) (r : aI) (f : Fr (fun _ => False) h h') (o : aI.ok h r) : aI.ok h' r :=
 ⟨o.k0, o.k1, bL.ok_fr _ _ _ f o.k2⟩
section
open Go.ChangeShapes Go.WideShapes Go.ChangeAt Go.RowKit
variable {H : Type} {enc : TypeId × Go.Value → H} {w : World}
set_option maxRecDepth 100000 in
theorem aI.op : bM enc Tryz.prog w pH aI.vals aI.ok := fun fuel cs x h => by
 obtain ⟨xs, n, rfl, hx, hl, hxl, hf⟩ := DataW.trod_struct Tryz.underlying139 h
 rw [show Tryz.prog.cellsOf 139 = 6 from by kernel_rfl] at hl
 match xs, hxl, cs, hl with
 | [y0, y1, y2], _, [v0, v1, v2, v3, v4, v5], _ =>
  have g0 : DataW.trod enc Tryz.prog w 0 (fun _ => true) true n 4 (([v0, v1, v2, v3, v4, v5].drop 0).take (Tryz.prog.cellsOf 4)) = some y0 := hf 0 _ rfl
  rw [show Tryz.prog.cellsOf 4 = 1 from by kernel_rfl] at g0
  obtain ⟨z0, e0, o0⟩ := ((m8 Tryz.underlying4) : bM enc Tryz.prog w 4 (fun n : Bool => [Go.Value.bool n]) bOk) _ _ _ g0
  have g1 : DataW.trod enc Tryz.prog w 0 (fun _ => true) true n 9 (([v0, v1, v2, v3, v4, v5].drop 1).take (Tryz.prog.cellsOf 9)) = some y1 := hf 1 _ rfl
  rw [show Tryz.prog.cellsOf 9 = 1 from by kernel_rfl] at g1
  obtain ⟨z1, e1, o1⟩ := ((yQ Tryz.underlying9) : bM enc Tryz.prog w 9 (fun l : List UInt8 => [Go.Value.string (bs l)]) sOk) _ _ _ g1
  have g2 : DataW.trod enc Tryz.prog w 0 (fun _ => true) true n 137 (([v0, v1, v2, v3, v4, v5].drop 2).take (Tryz.prog.cellsOf 137)) = some y2 := hf 2 _ rfl
  rw [show Tryz.prog.cellsOf 137 = 4 from by kernel_rfl] at g2
  obtain ⟨z2, e2, o2⟩ := (bL.op : bM enc Tryz.prog w 137 bL.vals bL.ok) _ _ _ g2
  obtain rfl := List.head_eq_of_cons_eq e0
  obtain rfl := List.head_eq_of_cons_eq e1
  have e2 : [v2, v3, v4, v5] = bL.vals z2 := e2
  simp only [bL.vals, List.cons.injEq, and_true] at e2
  obtain ⟨rfl, rfl, rfl, rfl⟩ := e2
  exact ⟨⟨z0, z1, z2⟩, rfl, ⟨o0, o1, o2⟩⟩
end
structure aG where
 Not : Bool
 Var : List UInt8
 Lo : Int
 Hi : Int
def aG.vals (r : aG) : List Go.Value := [.bool r.Not, .string (bs r.Var), .int .i64 r.Lo, .int .i64 r.Hi]
structure aG.ok (h : aA) (r : aG) : Prop where
 k0 : bOk h r.Not
 k1 : sOk h r.Var
 k2 : (kOk .i64) h r.Lo
 k3 : (kOk .i64) h r.Hi
theorem aG.ok_fr (h h' : aA) (r : aG) (f : Fr (fun _ => False) h h') (o : aG.ok h r) : aG.ok h' r :=
 ⟨o.k0, o.k1, o.k2, o.k3⟩
section
open Go.ChangeShapes Go.WideShapes Go.ChangeAt Go.RowKit
variable {H : Type} {enc : TypeId × Go.Value → H} {w : World}
set_option maxRecDepth 100000 in
theorem aG.op : bM enc Tryz.prog w mP aG.vals aG.ok := fun fuel cs x h => by
 obtain ⟨xs, n, rfl, hx, hl, hxl, hf⟩ := DataW.trod_struct Tryz.underlying142 h
 rw [show Tryz.prog.cellsOf 142 = 4 from by kernel_rfl] at hl
 match xs, hxl, cs, hl with
 | [y0, y1, y2, y3], _, [v0, v1, v2, v3], _ =>
  have g0 : DataW.trod enc Tryz.prog w 0 (fun _ => true) true n 4 (([v0, v1, v2, v3].drop 0).take (Tryz.prog.cellsOf 4)) = some y0 := hf 0 _ rfl
  rw [show Tryz.prog.cellsOf 4 = 1 from by kernel_rfl] at g0
  obtain ⟨z0, e0, o0⟩ := ((m8 Tryz.underlying4) : bM enc Tryz.prog w 4 (fun n : Bool => [Go.Value.bool n]) bOk) _ _ _ g0
  have g1 : DataW.trod enc Tryz.prog w 0 (fun _ => true) true n 9 (([v0, v1, v2, v3].drop 1).take (Tryz.prog.cellsOf 9)) = some y1 := hf 1 _ rfl
  rw [show Tryz.prog.cellsOf 9 = 1 from by kernel_rfl] at g1
  obtain ⟨z1, e1, o1⟩ := ((yQ Tryz.underlying9) : bM enc Tryz.prog w 9 (fun l : List UInt8 => [Go.Value.string (bs l)]) sOk) _ _ _ g1
  have g2 : DataW.trod enc Tryz.prog w 0 (fun _ => true) true n 3 (([v0, v1, v2, v3].drop 2).take (Tryz.prog.cellsOf 3)) = some y2 := hf 2 _ rfl
  rw [show Tryz.prog.cellsOf 3 = 1 from by kernel_rfl] at g2
  obtain ⟨z2, e2, o2⟩ := ((gA Tryz.underlying3) : bM enc Tryz.prog w 3 (fun n : Int => [Go.Value.int .i64 n]) (kOk .i64)) _ _ _ g2
  have g3 : DataW.trod enc Tryz.prog w 0 (fun _ => true) true n 3 (([v0, v1, v2, v3].drop 3).take (Tryz.prog.cellsOf 3)) = some y3 := hf 3 _ rfl
  rw [show Tryz.prog.cellsOf 3 = 1 from by kernel_rfl] at g3
  obtain ⟨z3, e3, o3⟩ := ((gA Tryz.underlying3) : bM enc Tryz.prog w 3 (fun n : Int => [Go.Value.int .i64 n]) (kOk .i64)) _ _ _ g3
  obtain rfl := List.head_eq_of_cons_eq e0
  obtain rfl := List.head_eq_of_cons_eq e1
  obtain rfl := List.head_eq_of_cons_eq e2
  obtain rfl := List.head_eq_of_cons_eq e3
  exact ⟨⟨z0, z1, z2, z3⟩, rfl, ⟨o0, o1, o2, o3⟩⟩
end
structure aF where
 Pattern : List UInt8
 Nocase : Bool
 Not : Bool
 Relative : Bool
 Offset : Int
 Depth : Int
 Fast : Bool
def aF.vals (r : aF) : List Go.Value := [.string (bs r.Pattern), .bool r.Nocase, .bool r.Not, .bool r.Relative, .int .i64 r.Offset, .int .i64 r.Depth, .bool r.Fast]
structure aF.ok (h : aA) (r : aF) : Prop where
 k0 : sOk h r.Pattern
 k1 : bOk h r.Nocase
 k2 : bOk h r.Not
 k3 : bOk h r.Relative
 k4 : (kOk .i64) h r.Offset
 k5 : (kOk .i64) h r.Depth
 k6 : bOk h r.Fast
theorem aF.ok_fr (h h' : aA) (r : aF) (f : Fr (fun _ => False) h h') (o : aF.ok h r) : aF.ok h' r :=
 ⟨o.k0, o.k1, o.k2, o.k3, o.k4, o.k5, o.k6⟩
section
open Go.ChangeShapes Go.WideShapes Go.ChangeAt Go.RowKit
variable {H : Type} {enc : TypeId × Go.Value → H} {w : World}
set_option maxRecDepth 100000 in
theorem aF.op : bM enc Tryz.prog w jn aF.vals aF.ok := fun fuel cs x h => by
 obtain ⟨xs, n, rfl, hx, hl, hxl, hf⟩ := DataW.trod_struct Tryz.underlying133 h
 rw [show Tryz.prog.cellsOf 133 = 7 from by kernel_rfl] at hl
 match xs, hxl, cs, hl with
 | [y0, y1, y2, y3, y4, y5, y6], _, [v0, v1, v2, v3, v4, v5, v6], _ =>
  have g0 : DataW.trod enc Tryz.prog w 0 (fun _ => true) true n 9 (([v0, v1, v2, v3, v4, v5, v6].drop 0).take (Tryz.prog.cellsOf 9)) = some y0 := hf 0 _ rfl
  rw [show Tryz.prog.cellsOf 9 = 1 from by kernel_rfl] at g0
  obtain ⟨z0, e0, o0⟩ := ((yQ Tryz.underlying9) : bM enc Tryz.prog w 9 (fun l : List UInt8 => [Go.Value.string (bs l)]) sOk) _ _ _ g0
  have g1 : DataW.trod enc Tryz.prog w 0 (fun _ => true) true n 4 (([v0, v1, v2, v3, v4, v5, v6].drop 1).take (Tryz.prog.cellsOf 4)) = some y1 := hf 1 _ rfl
  rw [show Tryz.prog.cellsOf 4 = 1 from by kernel_rfl] at g1
  obtain ⟨z1, e1, o1⟩ := ((m8 Tryz.underlying4) : bM enc Tryz.prog w 4 (fun n : Bool => [Go.Value.bool n]) bOk) _ _ _ g1
  have g2 : DataW.trod enc Tryz.prog w 0 (fun _ => true) true n 4 (([v0, v1, v2, v3, v4, v5, v6].drop 2).take (Tryz.prog.cellsOf 4)) = some y2 := hf 2 _ rfl
  rw [show Tryz.prog.cellsOf 4 = 1 from by kernel_rfl] at g2
  obtain ⟨z2, e2, o2⟩ := ((m8 Tryz.underlying4) : bM enc Tryz.prog w 4 (fun n : Bool => [Go.Value.bool n]) bOk) _ _ _ g2
  have g3 : DataW.trod enc Tryz.prog w 0 (fun _ => true) true n 4 (([v0, v1, v2, v3, v4, v5, v6].drop 3).take (Tryz.prog.cellsOf 4)) = some y3 := hf 3 _ rfl
  rw [show Tryz.prog.cellsOf 4 = 1 from by kernel_rfl] at g3
  obtain ⟨z3, e3, o3⟩ := ((m8 Tryz.underlying4) : bM enc Tryz.prog w 4 (fun n : Bool => [Go.Value.bool n]) bOk) _ _ _ g3
  have g4 : DataW.trod enc Tryz.prog w 0 (fun _ => true) true n 3 (([v0, v1, v2, v3, v4, v5, v6].drop 4).take (Tryz.prog.cellsOf 3)) = some y4 := hf 4 _ rfl
  rw [show Tryz.prog.cellsOf 3 = 1 from by kernel_rfl] at g4
  obtain ⟨z4, e4, o4⟩ := ((gA Tryz.underlying3) : bM enc Tryz.prog w 3 (fun n : Int => [Go.Value.int .i64 n]) (kOk .i64)) _ _ _ g4
  have g5 : DataW.trod enc Tryz.prog w 0 (fun _ => true) true n 3 (([v0, v1, v2, v3, v4, v5, v6].drop 5).take (Tryz.prog.cellsOf 3)) = some y5 := hf 5 _ rfl
  rw [show Tryz.prog.cellsOf 3 = 1 from by kernel_rfl] at g5
  obtain ⟨z5, e5, o5⟩ := ((gA Tryz.underlying3) : bM enc Tryz.prog w 3 (fun n : Int => [Go.Value.int .i64 n]) (kOk .i64)) _ _ _ g5
  have g6 : DataW.trod enc Tryz.prog w 0 (fun _ => true) true n 4 (([v0, v1, v2, v3, v4, v5, v6].drop 6).take (Tryz.prog.cellsOf 4)) = some y6 := hf 6 _ rfl
  rw [show Tryz.prog.cellsOf 4 = 1 from by kernel_rfl] at g6
  obtain ⟨z6, e6, o6⟩ := ((m8 Tryz.underlying4) : bM enc Tryz.prog w 4 (fun n : Bool => [Go.Value.bool n]) bOk) _ _ _ g6
  obtain rfl := List.head_eq_of_cons_eq e0
  obtain rfl := List.head_eq_of_cons_eq e1
  obtain rfl := List.head_eq_of_cons_eq e2
  obtain rfl := List.head_eq_of_cons_eq e3
  obtain rfl := List.head_eq_of_cons_eq e4
  obtain rfl := List.head_eq_of_cons_eq e5
  obtain rfl := List.head_eq_of_cons_eq e6
  exact ⟨⟨z0, z1, z2, z3, z4, z5, z6⟩, rfl, ⟨o0, o1, o2, o3, o4, o5, o6⟩⟩
end
structure bE where
 Op : Int
 Size : Int
 Value : Int
 Offset : Int
 Relative : Bool
 Little : Bool
 Not : Bool
def bE.vals (r : bE) : List Go.Value := [.int .i64 r.Op, .int .i64 r.Size, .int .i64 r.Value, .int .i64 r.Offset, .bool r.Relative, .bool r.Little, .bool r.Not]
structure bE.ok (h : aA) (r : bE) : Prop where
 k0 : (kOk .i64) h r.Op
 k1 : (kOk .i64) h r.Size
 k2 : (kOk .i64) h r.Value
 k3 : (kOk .i64) h r.Offset
 k4 : bOk h r.Relative
 k5 : bOk h r.Little
 k6 : bOk h r.Not
theorem bE.ok_fr (h h' : aA) (r : bE) (f : Fr (fun _ => False) h h') (o : bE.ok h r) : bE.ok h' r :=
 ⟨o.k0, o.k1, o.k2, o.k3, o.k4, o.k5, o.k6⟩
section
open Go.ChangeShapes Go.WideShapes Go.ChangeAt Go.RowKit
variable {H : Type} {enc : TypeId × Go.Value → H} {w : World}
set_option maxRecDepth 100000 in
theorem bE.op : bM enc Tryz.prog w sw bE.vals bE.ok := fun fuel cs x h => by
 obtain ⟨xs, n, rfl, hx, hl, hxl, hf⟩ := DataW.trod_struct Tryz.underlying146 h
 rw [show Tryz.prog.cellsOf 146 = 7 from by kernel_rfl] at hl
 match xs, hxl, cs, hl with
 | [y0, y1, y2, y3, y4, y5, y6], _, [v0, v1, v2, v3, v4, v5, v6], _ =>
  have g0 : DataW.trod enc Tryz.prog w 0 (fun _ => true) true n 3 (([v0, v1, v2, v3, v4, v5, v6].drop 0).take (Tryz.prog.cellsOf 3)) = some y0 := hf 0 _ rfl
  rw [show Tryz.prog.cellsOf 3 = 1 from by kernel_rfl] at g0
  obtain ⟨z0, e0, o0⟩ := ((gA Tryz.underlying3) : bM enc Tryz.prog w 3 (fun n : Int => [Go.Value.int .i64 n]) (kOk .i64)) _ _ _ g0
  have g1 : DataW.trod enc Tryz.prog w 0 (fun _ => true) true n 3 (([v0, v1, v2, v3, v4, v5, v6].drop 1).take (Tryz.prog.cellsOf 3)) = some y1 := hf 1 _ rfl
  rw [show Tryz.prog.cellsOf 3 = 1 from by kernel_rfl] at g1
  obtain ⟨z1, e1, o1⟩ := ((gA Tryz.underlying3) : bM enc Tryz.prog w 3 (fun n : Int => [Go.Value.int .i64 n]) (kOk .i64)) _ _ _ g1
  have g2 : DataW.trod enc Tryz.prog w 0 (fun _ => true) true n 3 (([v0, v1, v2, v3, v4, v5, v6].drop 2).take (Tryz.prog.cellsOf 3)) = some y2 := hf 2 _ rfl
  rw [show Tryz.prog.cellsOf 3 = 1 from by kernel_rfl] at g2
  obtain ⟨z2, e2, o2⟩ := ((gA Tryz.underlying3) : bM enc Tryz.prog w 3 (fun n : Int => [Go.Value.int .i64 n]) (kOk .i64)) _ _ _ g2
  have g3 : DataW.trod enc Tryz.prog w 0 (fun _ => true) true n 3 (([v0, v1, v2, v3, v4, v5, v6].drop 3).take (Tryz.prog.cellsOf 3)) = some y3 := hf 3 _ rfl
  rw [show Tryz.prog.cellsOf 3 = 1 from by kernel_rfl] at g3
  obtain ⟨z3, e3, o3⟩ := ((gA Tryz.underlying3) : bM enc Tryz.prog w 3 (fun n : Int => [Go.Value.int .i64 n]) (kOk .i64)) _ _ _ g3
  have g4 : DataW.trod enc Tryz.prog w 0 (fun _ => true) true n 4 (([v0, v1, v2, v3, v4, v5, v6].drop 4).take (Tryz.prog.cellsOf 4)) = some y4 := hf 4 _ rfl
  rw [show Tryz.prog.cellsOf 4 = 1 from by kernel_rfl] at g4
  obtain ⟨z4, e4, o4⟩ := ((m8 Tryz.underlying4) : bM enc Tryz.prog w 4 (fun n : Bool => [Go.Value.bool n]) bOk) _ _ _ g4
  have g5 : DataW.trod enc Tryz.prog w 0 (fun _ => true) true n 4 (([v0, v1, v2, v3, v4, v5, v6].drop 5).take (Tryz.prog.cellsOf 4)) = some y5 := hf 5 _ rfl
  rw [show Tryz.prog.cellsOf 4 = 1 from by kernel_rfl] at g5
  obtain ⟨z5, e5, o5⟩ := ((m8 Tryz.underlying4) : bM enc Tryz.prog w 4 (fun n : Bool => [Go.Value.bool n]) bOk) _ _ _ g5
  have g6 : DataW.trod enc Tryz.prog w 0 (fun _ => true) true n 4 (([v0, v1, v2, v3, v4, v5, v6].drop 6).take (Tryz.prog.cellsOf 4)) = some y6 := hf 6 _ rfl
  rw [show Tryz.prog.cellsOf 4 = 1 from by kernel_rfl] at g6
  obtain ⟨z6, e6, o6⟩ := ((m8 Tryz.underlying4) : bM enc Tryz.prog w 4 (fun n : Bool => [Go.Value.bool n]) bOk) _ _ _ g6
  obtain rfl := List.head_eq_of_cons_eq e0
  obtain rfl := List.head_eq_of_cons_eq e1
  obtain rfl := List.head_eq_of_cons_eq e2
  obtain rfl := List.head_eq_of_cons_eq e3
  obtain rfl := List.head_eq_of_cons_eq e4
  obtain rfl := List.head_eq_of_cons_eq e5
  obtain rfl := List.head_eq_of_cons_eq e6
  exact ⟨⟨z0, z1, z2, z3, z4, z5, z6⟩, rfl, ⟨o0, o1, o2, o3, o4, o5, o6⟩⟩
end
structure aT where
 Op : Int
 Name : List UInt8
def aT.vals (r : aT) : List Go.Value := [.int .i64 r.Op, .string (bs r.Name)]
structure aT.ok (h : aA) (r : aT) : Prop where
 k0 : (kOk .i64) h r.Op
 k1 : sOk h r.Name
theorem aT.ok_fr (h h' : aA) (r : aT) (f : Fr (fun _ => False) h h') (o : aT.ok h r) : aT.ok h' r :=
 ⟨o.k0, o.k1⟩
section
open Go.ChangeShapes Go.WideShapes Go.ChangeAt Go.RowKit
variable {H : Type} {enc : TypeId × Go.Value → H} {w : World}
set_option maxRecDepth 100000 in
theorem aT.op : bM enc Tryz.prog w sE aT.vals aT.ok := fun fuel cs x h => by
 obtain ⟨xs, n, rfl, hx, hl, hxl, hf⟩ := DataW.trod_struct Tryz.underlying149 h
 rw [show Tryz.prog.cellsOf 149 = 2 from by kernel_rfl] at hl
 match xs, hxl, cs, hl with
 | [y0, y1], _, [v0, v1], _ =>
  have g0 : DataW.trod enc Tryz.prog w 0 (fun _ => true) true n 3 (([v0, v1].drop 0).take (Tryz.prog.cellsOf 3)) = some y0 := hf 0 _ rfl
  rw [show Tryz.prog.cellsOf 3 = 1 from by kernel_rfl] at g0
  obtain ⟨z0, e0, o0⟩ := ((gA Tryz.underlying3) : bM enc Tryz.prog w 3 (fun n : Int => [Go.Value.int .i64 n]) (kOk .i64)) _ _ _ g0
  have g1 : DataW.trod enc Tryz.prog w 0 (fun _ => true) true n 9 (([v0, v1].drop 1).take (Tryz.prog.cellsOf 9)) = some y1 := hf 1 _ rfl
  rw [show Tryz.prog.cellsOf 9 = 1 from by kernel_rfl] at g1
  obtain ⟨z1, e1, o1⟩ := ((yQ Tryz.underlying9) : bM enc Tryz.prog w 9 (fun l : List UInt8 => [Go.Value.string (bs l)]) sOk) _ _ _ g1
  obtain rfl := List.head_eq_of_cons_eq e0
  obtain rfl := List.head_eq_of_cons_eq e1
  exact ⟨⟨z0, z1⟩, rfl, ⟨o0, o1⟩⟩
end
structure bA where
 Kind : Int
 By : Int
 Count : Int
 Seconds : Int
def bA.vals (r : bA) : List Go.Value := [.int .i64 r.Kind, .int .i64 r.By, .int .i64 r.Count, .int .i64 r.Seconds]
structure bA.ok (h : aA) (r : bA) : Prop where
 k0 : (kOk .i64) h r.Kind
 k1 : (kOk .i64) h r.By
 k2 : (kOk .i64) h r.Count
 k3 : (kOk .i64) h r.Seconds
theorem bA.ok_fr (h h' : aA) (r : bA) (f : Fr (fun _ => False) h h') (o : bA.ok h r) : bA.ok h' r :=
 ⟨o.k0, o.k1, o.k2, o.k3⟩
section
open Go.ChangeShapes Go.WideShapes Go.ChangeAt Go.RowKit
variable {H : Type} {enc : TypeId × Go.Value → H} {w : World}
set_option maxRecDepth 100000 in
theorem bA.op : bM enc Tryz.prog w sO bA.vals bA.ok := fun fuel cs x h => by
 obtain ⟨xs, n, rfl, hx, hl, hxl, hf⟩ := DataW.trod_struct Tryz.underlying59 h
 rw [show Tryz.prog.cellsOf 59 = 4 from by kernel_rfl] at hl
 match xs, hxl, cs, hl with
 | [y0, y1, y2, y3], _, [v0, v1, v2, v3], _ =>
  have g0 : DataW.trod enc Tryz.prog w 0 (fun _ => true) true n 3 (([v0, v1, v2, v3].drop 0).take (Tryz.prog.cellsOf 3)) = some y0 := hf 0 _ rfl
  rw [show Tryz.prog.cellsOf 3 = 1 from by kernel_rfl] at g0
  obtain ⟨z0, e0, o0⟩ := ((gA Tryz.underlying3) : bM enc Tryz.prog w 3 (fun n : Int => [Go.Value.int .i64 n]) (kOk .i64)) _ _ _ g0
  have g1 : DataW.trod enc Tryz.prog w 0 (fun _ => true) true n 3 (([v0, v1, v2, v3].drop 1).take (Tryz.prog.cellsOf 3)) = some y1 := hf 1 _ rfl
  rw [show Tryz.prog.cellsOf 3 = 1 from by kernel_rfl] at g1
  obtain ⟨z1, e1, o1⟩ := ((gA Tryz.underlying3) : bM enc Tryz.prog w 3 (fun n : Int => [Go.Value.int .i64 n]) (kOk .i64)) _ _ _ g1
  have g2 : DataW.trod enc Tryz.prog w 0 (fun _ => true) true n 3 (([v0, v1, v2, v3].drop 2).take (Tryz.prog.cellsOf 3)) = some y2 := hf 2 _ rfl
  rw [show Tryz.prog.cellsOf 3 = 1 from by kernel_rfl] at g2
  obtain ⟨z2, e2, o2⟩ := ((gA Tryz.underlying3) : bM enc Tryz.prog w 3 (fun n : Int => [Go.Value.int .i64 n]) (kOk .i64)) _ _ _ g2
  have g3 : DataW.trod enc Tryz.prog w 0 (fun _ => true) true n 3 (([v0, v1, v2, v3].drop 3).take (Tryz.prog.cellsOf 3)) = some y3 := hf 3 _ rfl
  rw [show Tryz.prog.cellsOf 3 = 1 from by kernel_rfl] at g3
  obtain ⟨z3, e3, o3⟩ := ((gA Tryz.underlying3) : bM enc Tryz.prog w 3 (fun n : Int => [Go.Value.int .i64 n]) (kOk .i64)) _ _ _ g3
  obtain rfl := List.head_eq_of_cons_eq e0
  obtain rfl := List.head_eq_of_cons_eq e1
  obtain rfl := List.head_eq_of_cons_eq e2
  obtain rfl := List.head_eq_of_cons_eq e3
  exact ⟨⟨z0, z1, z2, z3⟩, rfl, ⟨o0, o1, o2, o3⟩⟩
end
structure aK where
 Action : Int
 Proto : Int
 Src : Sl aI
 Dst : Sl aI
 SrcPorts : Sl aG
 DstPorts : Sl aG
 Both : Bool
 Sid : Int
 Rev : Int
 Priority : Int
 Msg : List UInt8
 Dir : Int
 Kind : Int
 Transforms : Sl Int
 Contents : Sl aF
 Tests : Sl bE
 Flow : Sl aT
 Threshold : bA
def aK.vals (r : aK) : List Go.Value := [.int .i64 r.Action, .int .i64 r.Proto, .slice r.Src.p r.Src.xs.length r.Src.cap, .slice r.Dst.p r.Dst.xs.length r.Dst.cap, .slice r.SrcPorts.p r.SrcPorts.xs.length r.SrcPorts.cap, .slice r.DstPorts.p r.DstPorts.xs.length r.DstPorts.cap, .bool r.Both, .int .i64 r.Sid, .int .i64 r.Rev, .int .i64 r.Priority, .string (bs r.Msg), .int .i64 r.Dir, .int .i64 r.Kind, .slice r.Transforms.p r.Transforms.xs.length r.Transforms.cap, .slice r.Contents.p r.Contents.xs.length r.Contents.cap, .slice r.Tests.p r.Tests.xs.length r.Tests.cap, .slice r.Flow.p r.Flow.xs.length r.Flow.cap, .int .i64 r.Threshold.Kind, .int .i64 r.Threshold.By, .int .i64 r.Threshold.Count, .int .i64 r.Threshold.Seconds]
structure aK.ok (h : aA) (r : aK) : Prop where
 k0 : (kOk .i64) h r.Action
 k1 : (kOk .i64) h r.Proto
 k2 : (bF 6 aI.vals aI.ok) h r.Src
 k3 : (bF 6 aI.vals aI.ok) h r.Dst
 k4 : (bF 4 aG.vals aG.ok) h r.SrcPorts
 k5 : (bF 4 aG.vals aG.ok) h r.DstPorts
 k6 : bOk h r.Both
 k7 : (kOk .i64) h r.Sid
 k8 : (kOk .i64) h r.Rev
 k9 : (kOk .i64) h r.Priority
 k10 : sOk h r.Msg
 k11 : (kOk .i64) h r.Dir
 k12 : (kOk .i64) h r.Kind
 k13 : (bF 1 (fun n : Int => [Go.Value.int .i64 n]) (kOk .i64)) h r.Transforms
 k14 : (bF 7 aF.vals aF.ok) h r.Contents
 k15 : (bF 7 bE.vals bE.ok) h r.Tests
 k16 : (bF 2 aT.vals aT.ok) h r.Flow
 k17 : bA.ok h r.Threshold
theorem aK.ok_fr (h h' : aA) (r : aK) (f : Fr (fun _ => False) h h') (o : aK.ok h r) : aK.ok h' r :=
 ⟨o.k0, o.k1, (oI aI.ok_fr) _ _ _ f o.k2, (oI aI.ok_fr) _ _ _ f o.k3, (oI aG.ok_fr) _ _ _ f o.k4, (oI aG.ok_fr) _ _ _ f o.k5, o.k6, o.k7, o.k8, o.k9, o.k10, o.k11, o.k12, (oI xz) _ _ _ f o.k13, (oI aF.ok_fr) _ _ _ f o.k14, (oI bE.ok_fr) _ _ _ f o.k15, (oI aT.ok_fr) _ _ _ f o.k16, bA.ok_fr _ _ _ f o.k17⟩
section
open Go.ChangeShapes Go.WideShapes Go.ChangeAt Go.RowKit
variable {H : Type} {enc : TypeId × Go.Value → H} {w : World}
set_option maxRecDepth 100000 in
theorem aK.op : bM enc Tryz.prog w cO aK.vals aK.ok := fun fuel cs x h => by
 obtain ⟨xs, n, rfl, hx, hl, hxl, hf⟩ := DataW.trod_struct Tryz.underlying61 h
 rw [show Tryz.prog.cellsOf 61 = 21 from by kernel_rfl] at hl
 match xs, hxl, cs, hl with
 | [y0, y1, y2, y3, y4, y5, y6, y7, y8, y9, y10, y11, y12, y13, y14, y15, y16, y17], _, [v0, v1, v2, v3, v4, v5, v6, v7, v8, v9, v10, v11, v12, v13, v14, v15, v16, v17, v18, v19, v20], _ =>
  have g0 : DataW.trod enc Tryz.prog w 0 (fun _ => true) true n 3 (([v0, v1, v2, v3, v4, v5, v6, v7, v8, v9, v10, v11, v12, v13, v14, v15, v16, v17, v18, v19, v20].drop 0).take (Tryz.prog.cellsOf 3)) = some y0 := hf 0 _ rfl
  rw [show Tryz.prog.cellsOf 3 = 1 from by kernel_rfl] at g0
  obtain ⟨z0, e0, o0⟩ := ((gA Tryz.underlying3) : bM enc Tryz.prog w 3 (fun n : Int => [Go.Value.int .i64 n]) (kOk .i64)) _ _ _ g0
  have g1 : DataW.trod enc Tryz.prog w 0 (fun _ => true) true n 3 (([v0, v1, v2, v3, v4, v5, v6, v7, v8, v9, v10, v11, v12, v13, v14, v15, v16, v17, v18, v19, v20].drop 1).take (Tryz.prog.cellsOf 3)) = some y1 := hf 1 _ rfl
  rw [show Tryz.prog.cellsOf 3 = 1 from by kernel_rfl] at g1
  obtain ⟨z1, e1, o1⟩ := ((gA Tryz.underlying3) : bM enc Tryz.prog w 3 (fun n : Int => [Go.Value.int .i64 n]) (kOk .i64)) _ _ _ g1
  have g2 : DataW.trod enc Tryz.prog w 0 (fun _ => true) true n 53 (([v0, v1, v2, v3, v4, v5, v6, v7, v8, v9, v10, v11, v12, v13, v14, v15, v16, v17, v18, v19, v20].drop 2).take (Tryz.prog.cellsOf 53)) = some y2 := hf 2 _ rfl
  rw [show Tryz.prog.cellsOf 53 = 1 from by kernel_rfl] at g2
  obtain ⟨z2, e2, o2⟩ := ((rF Tryz.underlying53 (by kernel_rfl) (fun _ => rfl) aI.op) : bM enc Tryz.prog w 53 (fun s : Sl aI => [s.v]) (bF 6 aI.vals aI.ok)) _ _ _ g2
  have g3 : DataW.trod enc Tryz.prog w 0 (fun _ => true) true n 53 (([v0, v1, v2, v3, v4, v5, v6, v7, v8, v9, v10, v11, v12, v13, v14, v15, v16, v17, v18, v19, v20].drop 3).take (Tryz.prog.cellsOf 53)) = some y3 := hf 3 _ rfl
  rw [show Tryz.prog.cellsOf 53 = 1 from by kernel_rfl] at g3
  obtain ⟨z3, e3, o3⟩ := ((rF Tryz.underlying53 (by kernel_rfl) (fun _ => rfl) aI.op) : bM enc Tryz.prog w 53 (fun s : Sl aI => [s.v]) (bF 6 aI.vals aI.ok)) _ _ _ g3
  have g4 : DataW.trod enc Tryz.prog w 0 (fun _ => true) true n 54 (([v0, v1, v2, v3, v4, v5, v6, v7, v8, v9, v10, v11, v12, v13, v14, v15, v16, v17, v18, v19, v20].drop 4).take (Tryz.prog.cellsOf 54)) = some y4 := hf 4 _ rfl
  rw [show Tryz.prog.cellsOf 54 = 1 from by kernel_rfl] at g4
  obtain ⟨z4, e4, o4⟩ := ((rF Tryz.underlying54 (by kernel_rfl) (fun _ => rfl) aG.op) : bM enc Tryz.prog w 54 (fun s : Sl aG => [s.v]) (bF 4 aG.vals aG.ok)) _ _ _ g4
  have g5 : DataW.trod enc Tryz.prog w 0 (fun _ => true) true n 54 (([v0, v1, v2, v3, v4, v5, v6, v7, v8, v9, v10, v11, v12, v13, v14, v15, v16, v17, v18, v19, v20].drop 5).take (Tryz.prog.cellsOf 54)) = some y5 := hf 5 _ rfl
  rw [show Tryz.prog.cellsOf 54 = 1 from by kernel_rfl] at g5
  obtain ⟨z5, e5, o5⟩ := ((rF Tryz.underlying54 (by kernel_rfl) (fun _ => rfl) aG.op) : bM enc Tryz.prog w 54 (fun s : Sl aG => [s.v]) (bF 4 aG.vals aG.ok)) _ _ _ g5
  have g6 : DataW.trod enc Tryz.prog w 0 (fun _ => true) true n 4 (([v0, v1, v2, v3, v4, v5, v6, v7, v8, v9, v10, v11, v12, v13, v14, v15, v16, v17, v18, v19, v20].drop 6).take (Tryz.prog.cellsOf 4)) = some y6 := hf 6 _ rfl
  rw [show Tryz.prog.cellsOf 4 = 1 from by kernel_rfl] at g6
  obtain ⟨z6, e6, o6⟩ := ((m8 Tryz.underlying4) : bM enc Tryz.prog w 4 (fun n : Bool => [Go.Value.bool n]) bOk) _ _ _ g6
  have g7 : DataW.trod enc Tryz.prog w 0 (fun _ => true) true n 3 (([v0, v1, v2, v3, v4, v5, v6, v7, v8, v9, v10, v11, v12, v13, v14, v15, v16, v17, v18, v19, v20].drop 7).take (Tryz.prog.cellsOf 3)) = some y7 := hf 7 _ rfl
  rw [show Tryz.prog.cellsOf 3 = 1 from by kernel_rfl] at g7
  obtain ⟨z7, e7, o7⟩ := ((gA Tryz.underlying3) : bM enc Tryz.prog w 3 (fun n : Int => [Go.Value.int .i64 n]) (kOk .i64)) _ _ _ g7
  have g8 : DataW.trod enc Tryz.prog w 0 (fun _ => true) true n 3 (([v0, v1, v2, v3, v4, v5, v6, v7, v8, v9, v10, v11, v12, v13, v14, v15, v16, v17, v18, v19, v20].drop 8).take (Tryz.prog.cellsOf 3)) = some y8 := hf 8 _ rfl
  rw [show Tryz.prog.cellsOf 3 = 1 from by kernel_rfl] at g8
  obtain ⟨z8, e8, o8⟩ := ((gA Tryz.underlying3) : bM enc Tryz.prog w 3 (fun n : Int => [Go.Value.int .i64 n]) (kOk .i64)) _ _ _ g8
  have g9 : DataW.trod enc Tryz.prog w 0 (fun _ => true) true n 3 (([v0, v1, v2, v3, v4, v5, v6, v7, v8, v9, v10, v11, v12, v13, v14, v15, v16, v17, v18, v19, v20].drop 9).take (Tryz.prog.cellsOf 3)) = some y9 := hf 9 _ rfl
  rw [show Tryz.prog.cellsOf 3 = 1 from by kernel_rfl] at g9
  obtain ⟨z9, e9, o9⟩ := ((gA Tryz.underlying3) : bM enc Tryz.prog w 3 (fun n : Int => [Go.Value.int .i64 n]) (kOk .i64)) _ _ _ g9
  have g10 : DataW.trod enc Tryz.prog w 0 (fun _ => true) true n 9 (([v0, v1, v2, v3, v4, v5, v6, v7, v8, v9, v10, v11, v12, v13, v14, v15, v16, v17, v18, v19, v20].drop 10).take (Tryz.prog.cellsOf 9)) = some y10 := hf 10 _ rfl
  rw [show Tryz.prog.cellsOf 9 = 1 from by kernel_rfl] at g10
  obtain ⟨z10, e10, o10⟩ := ((yQ Tryz.underlying9) : bM enc Tryz.prog w 9 (fun l : List UInt8 => [Go.Value.string (bs l)]) sOk) _ _ _ g10
  have g11 : DataW.trod enc Tryz.prog w 0 (fun _ => true) true n 3 (([v0, v1, v2, v3, v4, v5, v6, v7, v8, v9, v10, v11, v12, v13, v14, v15, v16, v17, v18, v19, v20].drop 11).take (Tryz.prog.cellsOf 3)) = some y11 := hf 11 _ rfl
  rw [show Tryz.prog.cellsOf 3 = 1 from by kernel_rfl] at g11
  obtain ⟨z11, e11, o11⟩ := ((gA Tryz.underlying3) : bM enc Tryz.prog w 3 (fun n : Int => [Go.Value.int .i64 n]) (kOk .i64)) _ _ _ g11
  have g12 : DataW.trod enc Tryz.prog w 0 (fun _ => true) true n 3 (([v0, v1, v2, v3, v4, v5, v6, v7, v8, v9, v10, v11, v12, v13, v14, v15, v16, v17, v18, v19, v20].drop 12).take (Tryz.prog.cellsOf 3)) = some y12 := hf 12 _ rfl
  rw [show Tryz.prog.cellsOf 3 = 1 from by kernel_rfl] at g12
  obtain ⟨z12, e12, o12⟩ := ((gA Tryz.underlying3) : bM enc Tryz.prog w 3 (fun n : Int => [Go.Value.int .i64 n]) (kOk .i64)) _ _ _ g12
  have g13 : DataW.trod enc Tryz.prog w 0 (fun _ => true) true n 46 (([v0, v1, v2, v3, v4, v5, v6, v7, v8, v9, v10, v11, v12, v13, v14, v15, v16, v17, v18, v19, v20].drop 13).take (Tryz.prog.cellsOf 46)) = some y13 := hf 13 _ rfl
  rw [show Tryz.prog.cellsOf 46 = 1 from by kernel_rfl] at g13
  obtain ⟨z13, e13, o13⟩ := ((rF Tryz.underlying46 (by kernel_rfl) (fun _ => rfl) (gA Tryz.underlying3)) : bM enc Tryz.prog w 46 (fun s : Sl Int => [s.v]) (bF 1 (fun n : Int => [Go.Value.int .i64 n]) (kOk .i64))) _ _ _ g13
  have g14 : DataW.trod enc Tryz.prog w 0 (fun _ => true) true n 55 (([v0, v1, v2, v3, v4, v5, v6, v7, v8, v9, v10, v11, v12, v13, v14, v15, v16, v17, v18, v19, v20].drop 14).take (Tryz.prog.cellsOf 55)) = some y14 := hf 14 _ rfl
  rw [show Tryz.prog.cellsOf 55 = 1 from by kernel_rfl] at g14
  obtain ⟨z14, e14, o14⟩ := ((rF Tryz.underlying55 (by kernel_rfl) (fun _ => rfl) aF.op) : bM enc Tryz.prog w 55 (fun s : Sl aF => [s.v]) (bF 7 aF.vals aF.ok)) _ _ _ g14
  have g15 : DataW.trod enc Tryz.prog w 0 (fun _ => true) true n 56 (([v0, v1, v2, v3, v4, v5, v6, v7, v8, v9, v10, v11, v12, v13, v14, v15, v16, v17, v18, v19, v20].drop 15).take (Tryz.prog.cellsOf 56)) = some y15 := hf 15 _ rfl
  rw [show Tryz.prog.cellsOf 56 = 1 from by kernel_rfl] at g15
  obtain ⟨z15, e15, o15⟩ := ((rF Tryz.underlying56 (by kernel_rfl) (fun _ => rfl) bE.op) : bM enc Tryz.prog w 56 (fun s : Sl bE => [s.v]) (bF 7 bE.vals bE.ok)) _ _ _ g15
  have g16 : DataW.trod enc Tryz.prog w 0 (fun _ => true) true n 57 (([v0, v1, v2, v3, v4, v5, v6, v7, v8, v9, v10, v11, v12, v13, v14, v15, v16, v17, v18, v19, v20].drop 16).take (Tryz.prog.cellsOf 57)) = some y16 := hf 16 _ rfl
  rw [show Tryz.prog.cellsOf 57 = 1 from by kernel_rfl] at g16
  obtain ⟨z16, e16, o16⟩ := ((rF Tryz.underlying57 (by kernel_rfl) (fun _ => rfl) aT.op) : bM enc Tryz.prog w 57 (fun s : Sl aT => [s.v]) (bF 2 aT.vals aT.ok)) _ _ _ g16
  have g17 : DataW.trod enc Tryz.prog w 0 (fun _ => true) true n 59 (([v0, v1, v2, v3, v4, v5, v6, v7, v8, v9, v10, v11, v12, v13, v14, v15, v16, v17, v18, v19, v20].drop 17).take (Tryz.prog.cellsOf 59)) = some y17 := hf 17 _ rfl
  rw [show Tryz.prog.cellsOf 59 = 4 from by kernel_rfl] at g17
  obtain ⟨z17, e17, o17⟩ := (bA.op : bM enc Tryz.prog w 59 bA.vals bA.ok) _ _ _ g17
  obtain rfl := List.head_eq_of_cons_eq e0
  obtain rfl := List.head_eq_of_cons_eq e1
  obtain rfl := List.head_eq_of_cons_eq e2
  obtain rfl := List.head_eq_of_cons_eq e3
  obtain rfl := List.head_eq_of_cons_eq e4
  obtain rfl := List.head_eq_of_cons_eq e5
  obtain rfl := List.head_eq_of_cons_eq e6
  obtain rfl := List.head_eq_of_cons_eq e7
  obtain rfl := List.head_eq_of_cons_eq e8
  obtain rfl := List.head_eq_of_cons_eq e9
  obtain rfl := List.head_eq_of_cons_eq e10
  obtain rfl := List.head_eq_of_cons_eq e11
  obtain rfl := List.head_eq_of_cons_eq e12
  obtain rfl := List.head_eq_of_cons_eq e13
  obtain rfl := List.head_eq_of_cons_eq e14
  obtain rfl := List.head_eq_of_cons_eq e15
  obtain rfl := List.head_eq_of_cons_eq e16
  have e17 : [v17, v18, v19, v20] = bA.vals z17 := e17
  simp only [bA.vals, List.cons.injEq, and_true] at e17
  obtain ⟨rfl, rfl, rfl, rfl⟩ := e17
  exact ⟨⟨z0, z1, z2, z3, z4, z5, z6, z7, z8, z9, z10, z11, z12, z13, z14, z15, z16, z17⟩, rfl, ⟨o0, o1, o2, o3, o4, o5, o6, o7, o8, o9, o10, o11, o12, o13, o14, o15, o16, o17⟩⟩
end
structure aH where
 Lo : aL
 Hi : aL
def aH.vals (r : aH) : List Go.Value := [.bool r.Lo.V6, .int .u64 r.Lo.Hi, .int .u64 r.Lo.Lo, .bool r.Hi.V6, .int .u64 r.Hi.Hi, .int .u64 r.Hi.Lo]
structure aH.ok (h : aA) (r : aH) : Prop where
 k0 : aL.ok h r.Lo
 k1 : aL.ok h r.Hi
theorem aH.ok_fr (h h' : aA) (r : aH) (f : Fr (fun _ => False) h h') (o : aH.ok h r) : aH.ok h' r :=
 ⟨aL.ok_fr _ _ _ f o.k0, aL.ok_fr _ _ _ f o.k1⟩
section
open Go.ChangeShapes Go.WideShapes Go.ChangeAt Go.RowKit
variable {H : Type} {enc : TypeId × Go.Value → H} {w : World}
set_option maxRecDepth 100000 in
theorem aH.op : bM enc Tryz.prog w ml aH.vals aH.ok := fun fuel cs x h => by
 obtain ⟨xs, n, rfl, hx, hl, hxl, hf⟩ := DataW.trod_struct Tryz.underlying152 h
 rw [show Tryz.prog.cellsOf 152 = 6 from by kernel_rfl] at hl
 match xs, hxl, cs, hl with
 | [y0, y1], _, [v0, v1, v2, v3, v4, v5], _ =>
  have g0 : DataW.trod enc Tryz.prog w 0 (fun _ => true) true n 25 (([v0, v1, v2, v3, v4, v5].drop 0).take (Tryz.prog.cellsOf 25)) = some y0 := hf 0 _ rfl
  rw [show Tryz.prog.cellsOf 25 = 3 from by kernel_rfl] at g0
  obtain ⟨z0, e0, o0⟩ := (aL.op : bM enc Tryz.prog w 25 aL.vals aL.ok) _ _ _ g0
  have g1 : DataW.trod enc Tryz.prog w 0 (fun _ => true) true n 25 (([v0, v1, v2, v3, v4, v5].drop 3).take (Tryz.prog.cellsOf 25)) = some y1 := hf 1 _ rfl
  rw [show Tryz.prog.cellsOf 25 = 3 from by kernel_rfl] at g1
  obtain ⟨z1, e1, o1⟩ := (aL.op : bM enc Tryz.prog w 25 aL.vals aL.ok) _ _ _ g1
  have e0 : [v0, v1, v2] = aL.vals z0 := e0
  simp only [aL.vals, List.cons.injEq, and_true] at e0
  obtain ⟨rfl, rfl, rfl⟩ := e0
  have e1 : [v3, v4, v5] = aL.vals z1 := e1
  simp only [aL.vals, List.cons.injEq, and_true] at e1
  obtain ⟨rfl, rfl, rfl⟩ := e1
  exact ⟨⟨z0, z1⟩, rfl, ⟨o0, o1⟩⟩
end
structure aM where
 Lo : Int
 Hi : Int
def aM.vals (r : aM) : List Go.Value := [.int .i64 r.Lo, .int .i64 r.Hi]
structure aM.ok (h : aA) (r : aM) : Prop where
 k0 : (kOk .i64) h r.Lo
 k1 : (kOk .i64) h r.Hi
theorem aM.ok_fr (h h' : aA) (r : aM) (f : Fr (fun _ => False) h h') (o : aM.ok h r) : aM.ok h' r :=
 ⟨o.k0, o.k1⟩
section
open Go.ChangeShapes Go.WideShapes Go.ChangeAt Go.RowKit
variable {H : Type} {enc : TypeId × Go.Value → H} {w : World}
set_option maxRecDepth 100000 in
theorem aM.op : bM enc Tryz.prog w pR aM.vals aM.ok := fun fuel cs x h => by
 obtain ⟨xs, n, rfl, hx, hl, hxl, hf⟩ := DataW.trod_struct Tryz.underlying155 h
 rw [show Tryz.prog.cellsOf 155 = 2 from by kernel_rfl] at hl
 match xs, hxl, cs, hl with
 | [y0, y1], _, [v0, v1], _ =>
  have g0 : DataW.trod enc Tryz.prog w 0 (fun _ => true) true n 3 (([v0, v1].drop 0).take (Tryz.prog.cellsOf 3)) = some y0 := hf 0 _ rfl
  rw [show Tryz.prog.cellsOf 3 = 1 from by kernel_rfl] at g0
  obtain ⟨z0, e0, o0⟩ := ((gA Tryz.underlying3) : bM enc Tryz.prog w 3 (fun n : Int => [Go.Value.int .i64 n]) (kOk .i64)) _ _ _ g0
  have g1 : DataW.trod enc Tryz.prog w 0 (fun _ => true) true n 3 (([v0, v1].drop 1).take (Tryz.prog.cellsOf 3)) = some y1 := hf 1 _ rfl
  rw [show Tryz.prog.cellsOf 3 = 1 from by kernel_rfl] at g1
  obtain ⟨z1, e1, o1⟩ := ((gA Tryz.underlying3) : bM enc Tryz.prog w 3 (fun n : Int => [Go.Value.int .i64 n]) (kOk .i64)) _ _ _ g1
  obtain rfl := List.head_eq_of_cons_eq e0
  obtain rfl := List.head_eq_of_cons_eq e1
  exact ⟨⟨z0, z1⟩, rfl, ⟨o0, o1⟩⟩
end
structure aE where
 Rule : aK
 Src : Sl aH
 Dst : Sl aH
 SrcPorts : Sl aM
 DstPorts : Sl aM
def aE.vals (r : aE) : List Go.Value := [.int .i64 r.Rule.Action, .int .i64 r.Rule.Proto, .slice r.Rule.Src.p r.Rule.Src.xs.length r.Rule.Src.cap, .slice r.Rule.Dst.p r.Rule.Dst.xs.length r.Rule.Dst.cap, .slice r.Rule.SrcPorts.p r.Rule.SrcPorts.xs.length r.Rule.SrcPorts.cap, .slice r.Rule.DstPorts.p r.Rule.DstPorts.xs.length r.Rule.DstPorts.cap, .bool r.Rule.Both, .int .i64 r.Rule.Sid, .int .i64 r.Rule.Rev, .int .i64 r.Rule.Priority, .string (bs r.Rule.Msg), .int .i64 r.Rule.Dir, .int .i64 r.Rule.Kind, .slice r.Rule.Transforms.p r.Rule.Transforms.xs.length r.Rule.Transforms.cap, .slice r.Rule.Contents.p r.Rule.Contents.xs.length r.Rule.Contents.cap, .slice r.Rule.Tests.p r.Rule.Tests.xs.length r.Rule.Tests.cap, .slice r.Rule.Flow.p r.Rule.Flow.xs.length r.Rule.Flow.cap, .int .i64 r.Rule.Threshold.Kind, .int .i64 r.Rule.Threshold.By, .int .i64 r.Rule.Threshold.Count, .int .i64 r.Rule.Threshold.Seconds, .slice r.Src.p r.Src.xs.length r.Src.cap, .slice r.Dst.p r.Dst.xs.length r.Dst.cap, .slice r.SrcPorts.p r.SrcPorts.xs.length r.SrcPorts.cap, .slice r.DstPorts.p r.DstPorts.xs.length r.DstPorts.cap]
structure aE.ok (h : aA) (r : aE) : Prop where
 k0 : aK.ok h r.Rule
 k1 : (bF 6 aH.vals aH.ok) h r.Src
 k2 : (bF 6 aH.vals aH.ok) h r.Dst
 k3 : (bF 2 aM.vals aM.ok) h r.SrcPorts
 k4 : (bF 2 aM.vals aM.ok) h r.DstPorts
theorem aE.ok_fr (h h' : aA) (r : aE) (f : Fr (fun _ => False) h h') (o : aE.ok h r) : aE.ok h' r :=
 ⟨aK.ok_fr _ _ _ f o.k0, (oI aH.ok_fr) _ _ _ f o.k1, (oI aH.ok_fr) _ _ _ f o.k2, (oI aM.ok_fr) _ _ _ f o.k3, (oI aM.ok_fr) _ _ _ f o.k4⟩
section
open Go.ChangeShapes Go.WideShapes Go.ChangeAt Go.RowKit
variable {H : Type} {enc : TypeId × Go.Value → H} {w : World}
set_option maxRecDepth 100000 in
theorem aE.op : bM enc Tryz.prog w bU aE.vals aE.ok := fun fuel cs x h => by
 obtain ⟨xs, n, rfl, hx, hl, hxl, hf⟩ := DataW.trod_struct Tryz.underlying65 h
 rw [show Tryz.prog.cellsOf 65 = 25 from by kernel_rfl] at hl
 match xs, hxl, cs, hl with
 | [y0, y1, y2, y3, y4], _, [v0, v1, v2, v3, v4, v5, v6, v7, v8, v9, v10, v11, v12, v13, v14, v15, v16, v17, v18, v19, v20, v21, v22, v23, v24], _ =>
  have g0 : DataW.trod enc Tryz.prog w 0 (fun _ => true) true n 61 (([v0, v1, v2, v3, v4, v5, v6, v7, v8, v9, v10, v11, v12, v13, v14, v15, v16, v17, v18, v19, v20, v21, v22, v23, v24].drop 0).take (Tryz.prog.cellsOf 61)) = some y0 := hf 0 _ rfl
  rw [show Tryz.prog.cellsOf 61 = 21 from by kernel_rfl] at g0
  obtain ⟨z0, e0, o0⟩ := (aK.op : bM enc Tryz.prog w 61 aK.vals aK.ok) _ _ _ g0
  have g1 : DataW.trod enc Tryz.prog w 0 (fun _ => true) true n 62 (([v0, v1, v2, v3, v4, v5, v6, v7, v8, v9, v10, v11, v12, v13, v14, v15, v16, v17, v18, v19, v20, v21, v22, v23, v24].drop 21).take (Tryz.prog.cellsOf 62)) = some y1 := hf 1 _ rfl
  rw [show Tryz.prog.cellsOf 62 = 1 from by kernel_rfl] at g1
  obtain ⟨z1, e1, o1⟩ := ((rF Tryz.underlying62 (by kernel_rfl) (fun _ => rfl) aH.op) : bM enc Tryz.prog w 62 (fun s : Sl aH => [s.v]) (bF 6 aH.vals aH.ok)) _ _ _ g1
  have g2 : DataW.trod enc Tryz.prog w 0 (fun _ => true) true n 62 (([v0, v1, v2, v3, v4, v5, v6, v7, v8, v9, v10, v11, v12, v13, v14, v15, v16, v17, v18, v19, v20, v21, v22, v23, v24].drop 22).take (Tryz.prog.cellsOf 62)) = some y2 := hf 2 _ rfl
  rw [show Tryz.prog.cellsOf 62 = 1 from by kernel_rfl] at g2
  obtain ⟨z2, e2, o2⟩ := ((rF Tryz.underlying62 (by kernel_rfl) (fun _ => rfl) aH.op) : bM enc Tryz.prog w 62 (fun s : Sl aH => [s.v]) (bF 6 aH.vals aH.ok)) _ _ _ g2
  have g3 : DataW.trod enc Tryz.prog w 0 (fun _ => true) true n 63 (([v0, v1, v2, v3, v4, v5, v6, v7, v8, v9, v10, v11, v12, v13, v14, v15, v16, v17, v18, v19, v20, v21, v22, v23, v24].drop 23).take (Tryz.prog.cellsOf 63)) = some y3 := hf 3 _ rfl
  rw [show Tryz.prog.cellsOf 63 = 1 from by kernel_rfl] at g3
  obtain ⟨z3, e3, o3⟩ := ((rF Tryz.underlying63 (by kernel_rfl) (fun _ => rfl) aM.op) : bM enc Tryz.prog w 63 (fun s : Sl aM => [s.v]) (bF 2 aM.vals aM.ok)) _ _ _ g3
  have g4 : DataW.trod enc Tryz.prog w 0 (fun _ => true) true n 63 (([v0, v1, v2, v3, v4, v5, v6, v7, v8, v9, v10, v11, v12, v13, v14, v15, v16, v17, v18, v19, v20, v21, v22, v23, v24].drop 24).take (Tryz.prog.cellsOf 63)) = some y4 := hf 4 _ rfl
  rw [show Tryz.prog.cellsOf 63 = 1 from by kernel_rfl] at g4
  obtain ⟨z4, e4, o4⟩ := ((rF Tryz.underlying63 (by kernel_rfl) (fun _ => rfl) aM.op) : bM enc Tryz.prog w 63 (fun s : Sl aM => [s.v]) (bF 2 aM.vals aM.ok)) _ _ _ g4
  have e0 : [v0, v1, v2, v3, v4, v5, v6, v7, v8, v9, v10, v11, v12, v13, v14, v15, v16, v17, v18, v19, v20] = aK.vals z0 := e0
  simp only [aK.vals, List.cons.injEq, and_true] at e0
  obtain ⟨rfl, rfl, rfl, rfl, rfl, rfl, rfl, rfl, rfl, rfl, rfl, rfl, rfl, rfl, rfl, rfl, rfl, rfl, rfl, rfl, rfl⟩ := e0
  obtain rfl := List.head_eq_of_cons_eq e1
  obtain rfl := List.head_eq_of_cons_eq e2
  obtain rfl := List.head_eq_of_cons_eq e3
  obtain rfl := List.head_eq_of_cons_eq e4
  exact ⟨⟨z0, z1, z2, z3, z4⟩, rfl, ⟨o0, o1, o2, o3, o4⟩⟩
end
structure bI where
 Proto : Int
 Src : aL
 Dst : aL
 Sport : Int
 Dport : Int
def bI.vals (r : bI) : List Go.Value := [.int .i64 r.Proto, .bool r.Src.V6, .int .u64 r.Src.Hi, .int .u64 r.Src.Lo, .bool r.Dst.V6, .int .u64 r.Dst.Hi, .int .u64 r.Dst.Lo, .int .i64 r.Sport, .int .i64 r.Dport]
structure jb where
 Kind : Int
 Dir : Int
 Index : Int
 Data : List UInt8
def jb.vals (r : jb) : List Go.Value := [.int .i64 r.Kind, .int .i64 r.Dir, .int .i64 r.Index, .string (bs r.Data)]
structure bG where
 Text : List UInt8
 Nocase : Bool
def bG.vals (r : bG) : List Go.Value := [.string (bs r.Text), .bool r.Nocase]
structure bG.ok (h : aA) (r : bG) : Prop where
 k0 : sOk h r.Text
 k1 : bOk h r.Nocase
theorem bG.ok_fr (h h' : aA) (r : bG) (f : Fr (fun _ => False) h h') (o : bG.ok h r) : bG.ok h' r :=
 ⟨o.k0, o.k1⟩
structure bD where
 Kind : Int
 Transforms : Sl Int
 Patterns : Sl bG
 Rules : Sl (Sl Int)
 Always : Sl Int
def bD.vals (r : bD) : List Go.Value := [.int .i64 r.Kind, .slice r.Transforms.p r.Transforms.xs.length r.Transforms.cap, .slice r.Patterns.p r.Patterns.xs.length r.Patterns.cap, .slice r.Rules.p r.Rules.xs.length r.Rules.cap, .slice r.Always.p r.Always.xs.length r.Always.cap]
structure bD.ok (h : aA) (r : bD) : Prop where
 k0 : (kOk .i64) h r.Kind
 k1 : (bF 1 (fun n : Int => [Go.Value.int .i64 n]) (kOk .i64)) h r.Transforms
 k2 : (bF 2 bG.vals bG.ok) h r.Patterns
 k3 : (bF 1 (fun s : Sl Int => [s.v]) (bF 1 (fun n : Int => [Go.Value.int .i64 n]) (kOk .i64))) h r.Rules
 k4 : (bF 1 (fun n : Int => [Go.Value.int .i64 n]) (kOk .i64)) h r.Always
theorem bD.ok_fr (h h' : aA) (r : bD) (f : Fr (fun _ => False) h h') (o : bD.ok h r) : bD.ok h' r :=
 ⟨o.k0, (oI xz) _ _ _ f o.k1, (oI bG.ok_fr) _ _ _ f o.k2, (oI (oI xz)) _ _ _ f o.k3, (oI xz) _ _ _ f o.k4⟩
end Go.Proofs.YtjmfpeiidlpngaaGreatDoor
namespace Go.Proofs.YtjmfpeiidlpngaaGreatDoor.Au
set_option linter.unusedSimpArgs false
set_option linter.unusedVariables false
set_option maxRecDepth 20000
open Go
open Go.IntKind (wrap)
abbrev Cn := aF
abbrev Ts := bE
def Av (d : Nm) (p k : Nat) : Nm := (d.drop p).take k
def atB (c : Cn) (d : Nm) (p : Int) : Bool :=
 decide (0 ≤ p ∧ p + c.Pattern.length ≤ d.length) && (if c.Nocase = true then decide (cX (Av d p.toNat c.Pattern.length) = cX c.Pattern) else decide (Av d p.toNat c.Pattern.length = c.Pattern))
def atT (t : Ts) (cur : Int) : Int := if t.Relative = true then t.Offset + cur else t.Offset
def Kg (t : Ts) (d : Nm) (cur : Int) : Prop := (t.Size = 1 ∨ t.Size = 2 ∨ t.Size = 4) ∧ 0 ≤ atT t cur ∧ atT t cur + t.Size ≤ d.length
instance (t : Ts) (d : Nm) (cur : Int) : Decidable (Kg t d cur) := by unfold Kg; exact inferInstance
theorem uz {d : Nm} {i : Nat} (h : i < d.length) : d.getD i 0 = d[i] := by rw [List.getD_eq_getElem?_getD, List.getElem?_eq_getElem h]; rfl
end Go.Proofs.YtjmfpeiidlpngaaGreatDoor.Au
namespace Go.Proofs.YtjmfpeiidlpngaaGreatDoor.Au
set_option linter.unusedSimpArgs false
set_option linter.unusedVariables false
set_option maxRecDepth 20000
open Go
open Go.IntKind (wrap)
def yo (a : aL) : Bool := a.V6 || (a.Hi == 0 && decide (a.Lo ≤ 4294967295))
def ltA (a b : aL) : Bool := if a.V6 ≠ b.V6 then b.V6 else if a.Hi ≠ b.Hi then decide (a.Hi < b.Hi) else decide (a.Lo < b.Lo)
def FH (r : aH) : Bool := yo r.Lo && (yo r.Hi && ((r.Lo.V6 == r.Hi.V6) && !ltA r.Hi r.Lo))
def inR (a : aL) (r : aH) : Bool := FH r && ((r.Lo.V6 == a.V6) && (!ltA a r.Lo && !ltA r.Hi a))
def HG (l : List aH) (a : aL) : Bool := yo a && l.any (inR a)
def IB (l : List aM) (n : Int) : Bool := decide (0 ≤ n ∧ n ≤ 4294967296) && l.any fun x => decide (x.Lo ≤ n) && decide (n ≤ x.Hi)
def Ak (b : aE) (s d : aL) (sp dp : Int) : Bool := HG b.Src.xs s && (IB b.SrcPorts.xs sp && (HG b.Dst.xs d && IB b.DstPorts.xs dp))
def p7 (b : aE) (f : bI) (dir : Int) : Bool :=
 decide (b.Rule.Proto = f.Proto ∧ (dir = 1 ∨ dir = 2) ∧ (b.Rule.Dir = 0 ∨ b.Rule.Dir = dir)) && (Ak b f.Src f.Dst f.Sport f.Dport || (b.Rule.Both && Ak b f.Dst f.Src f.Dport f.Sport))
def eqA (a b : aL) : Bool := (a.V6 == b.V6) && ((a.Hi == b.Hi) && (a.Lo == b.Lo))
theorem xJ {a b : aL} : eqA a b = true ↔ a = b := by
 obtain ⟨v1, x1, y1⟩ := a
 obtain ⟨v2, x2, y2⟩ := b
 unfold eqA
 simp
def HN (a b : aL) : Int := if eqA a b = true then 0 else if ltA a b = true then -1 else 1
theorem HI (a : aL) : ltA a a = false := by
 unfold ltA
 rw [if_neg (fun h => h rfl), if_neg (fun h => h rfl)]
 exact decide_eq_false (Int.lt_irrefl _)
theorem JQ {a b : aL} (h : a.V6 ≠ b.V6) : ltA a b = b.V6 := by unfold ltA; rw [if_pos h]
theorem FE {a b : aL} (h : a.V6 = b.V6) (hx : a.Hi ≠ b.Hi) : ltA a b = decide (a.Hi < b.Hi) := by unfold ltA; rw [if_neg (fun hh => hh h), if_pos hx]
theorem Hc {a b : aL} (h : a.V6 = b.V6) (hx : a.Hi = b.Hi) : ltA a b = decide (a.Lo < b.Lo) := by unfold ltA; rw [if_neg (fun hh => hh h), if_neg (fun hh => hh hx)]
theorem Dm (a b : aL) : decide (HN a b ≤ 0) = !ltA b a := by
 unfold HN
 by_cases h : a = b
 ·subst h; rw [if_pos (xJ.2 rfl), HI]; rfl
 rw [if_neg (fun hh => h (xJ.1 hh))]
 by_cases hv : a.V6 = b.V6
 ·by_cases hx : a.Hi = b.Hi
  ·have hy : a.Lo ≠ b.Lo := fun e => h (by
    obtain ⟨v1, x1, y1⟩ := a
    obtain ⟨v2, x2, y2⟩ := b
    obtain rfl : v1 = v2 := hv
    obtain rfl : x1 = x2 := hx
    obtain rfl : y1 = y2 := e
    rfl)
   rw [Hc hv hx, Hc hv.symm hx.symm]
   by_cases hl : a.Lo < b.Lo
   ·rw [decide_eq_true hl, if_pos rfl, decide_eq_false (p := b.Lo < a.Lo) (by omega)]; rfl
   ·rw [decide_eq_false hl, if_neg (by decide), decide_eq_true (p := b.Lo < a.Lo) (by omega)]; rfl
  ·rw [FE hv hx, FE hv.symm (Ne.symm hx)]
   by_cases hl : a.Hi < b.Hi
   ·rw [decide_eq_true hl, if_pos rfl, decide_eq_false (p := b.Hi < a.Hi) (by omega)]; rfl
   ·rw [decide_eq_false hl, if_neg (by decide), decide_eq_true (p := b.Hi < a.Hi) (by omega)]; rfl
 ·rw [JQ hv, JQ (Ne.symm hv)]
  revert hv
  cases a.V6 <;> cases b.V6 <;> intro hv <;> first | exact absurd rfl hv | rfl
section
variable {h : aA} {Q : Value → aA → Prop}
theorem yk [Gh] (a : aL) (hk : ∀ h', Fr (fun _ => False) h h' → Q (.bool (yo a)) h') : aD Tryz.prog jD #[.agg a.vals.toArray] h Q := by
 apply xx
 unfold sZ
 refine aZ (vs := a.vals) fun t1 h1 f1 e1 o1 => ?_
 have c1 : aW h1 t1 a.vals := o1.cells
 have hk := hk h1 f1
 unfold yo at hk
 refine aN (c1.at0 rfl) (ifB (fun e => ?_) fun e => aB (c1.at (j := 1) rfl) (ifE (fun e2 => aB (c1.at (j := 2) rfl) ?_) fun e2 => ?_))
 ·rw [e] at hk; exact hk
 ·rw [e, e2] at hk; simpa using hk
 ·rw [e, Bool.false_or, beq_eq_false_iff_ne.2 e2, Bool.false_and] at hk; exact hk
theorem wM [Gh] (a b : aL) (hk : ∀ h', Fr (fun _ => False) h h' → Q (.int .i64 (HN a b)) h') : aD Tryz.prog iD #[.agg a.vals.toArray, .agg b.vals.toArray] h Q := by
 apply wu
 unfold qJ
 refine aZ (vs := a.vals) fun t2 h1 f1 e1 o1 => aZ (vs := b.vals) fun t3 h2 f2 e2 o2 => ?_
 have c1 : aW h2 t2 a.vals := o1.cells.fr0 f2
 have c2 : aW h2 t3 b.vals := o2.cells
 have hk := hk h2 (f1.trans f2)
 unfold HN at hk
 refine aN (c1.at0 rfl) (aB (c1.at (j := 1) rfl) (aB (c1.at (j := 2) rfl) (aN (c2.at0 rfl) (aB (c2.at (j := 1) rfl) (aB (c2.at (j := 2) rfl) ?_)))))
 by_cases h : a = b
 ·rw [if_pos (xJ.2 h)] at hk
  rw [if_pos (by rw [h]; simp)]; exact hk
 rw [if_neg (fun hh => h (xJ.1 hh))] at hk
 rw [if_neg (fun hh => h (by
  simp only [Bool.and_true, Bool.and_eq_true, beq_iff_eq] at hh
  obtain ⟨v1, x1, y1⟩ := a
  obtain ⟨v2, x2, y2⟩ := b
  obtain ⟨rfl, rfl, rfl⟩ := hh
  rfl))]
 refine aN (c1.at0 rfl) (aN (c2.at0 rfl) ?_)
 by_cases hv : a.V6 = b.V6
 ·rw [if_neg (by simp [hv])]
  refine aB (c1.at (j := 1) rfl) (aB (c2.at (j := 1) rfl) (rM (fun hx => ?_) fun hx => ?_))
  ·rw [FE hv hx] at hk
   refine aB (c1.at (j := 1) rfl) (aB (c2.at (j := 1) rfl) (ifD (fun hl => ?_) fun hl => ?_))
   ·rw [decide_eq_true hl, if_pos rfl] at hk; exact hk
   ·rw [decide_eq_false hl, if_neg (by decide)] at hk; exact hk
  ·rw [Hc hv hx] at hk
   refine aB (c1.at (j := 2) rfl) (aB (c2.at (j := 2) rfl) (ifD (fun hl => ?_) fun hl => ?_))
   ·rw [decide_eq_true hl, if_pos rfl] at hk; exact hk
   ·rw [decide_eq_false hl, if_neg (by decide)] at hk; exact hk
 ·rw [JQ hv] at hk
  rw [if_pos (by simpa using hv)]
  refine aN (c2.at0 rfl) (ifB (fun e => ?_) fun e => ?_)
  ·rw [if_pos e] at hk; exact hk
  ·rw [if_neg (by rw [e]; decide)] at hk; exact hk
theorem Jf [Gh] (r : aH) (hk : ∀ h', Fr (fun _ => False) h h' → Q (.bool (FH r)) h') : aD Tryz.prog oQ #[.agg r.vals.toArray] h Q := by
 apply zb
 unfold tM
 unfold FH at hk
 refine aZ (vs := r.vals) fun t1 h1 f1 e1 o1 => ?_
 have c1 : aW h1 t1 r.vals := o1.cells
 refine aN (c1.at0 rfl) (aB (c1.at (j := 1) rfl) (aB (c1.at (j := 2) rfl) ?_))
 refine yk r.Lo fun h2 f2 => ⟨_, rfl, ifB (fun e => ?_) fun e => ?_⟩
 ·rw [e, Bool.true_and] at hk
  have c2 := c1.fr0 f2
  refine aN (c2.at (j := 3) rfl) (aB (c2.at (j := 4) rfl) (aB (c2.at (j := 5) rfl) ?_))
  refine yk r.Hi fun h3 f3 => ⟨_, rfl, ifB (fun e2 => ?_) fun e2 => ?_⟩
  ·rw [e2, Bool.true_and] at hk
   have c3 := c2.fr0 f3
   refine aN (c3.at0 rfl) (aN (c3.at (j := 3) rfl) (ifB (fun e3 => ?_) fun e3 => ?_))
   ·rw [e3, Bool.true_and] at hk
    refine aN (c3.at0 rfl) (aB (c3.at (j := 1) rfl) (aB (c3.at (j := 2) rfl) (aN (c3.at (j := 3) rfl) (aB (c3.at (j := 4) rfl) (aB (c3.at (j := 5) rfl) ?_)))))
    refine wM r.Lo r.Hi fun h4 f4 => ⟨_, rfl, ?_⟩
    rw [Dm]
    exact hk h4 (((f1.trans f2).trans f3).trans f4)
   ·rw [e3, Bool.false_and] at hk; exact hk h3 ((f1.trans f2).trans f3)
  ·rw [e2, Bool.false_and] at hk; exact hk h3 ((f1.trans f2).trans f3)
 ·rw [e, Bool.false_and] at hk; exact hk h2 (f1.trans f2)
theorem Cl {α : Type} (l : List α) (P : α → Bool) (i : Nat) (hi : i < l.length) : (l.take (i + 1)).any P = ((l.take i).any P || P l[i]) := by
 rw [show l.take (i + 1) = l.take i ++ [l[i]] by rw [List.take_append_getElem], List.any_append]; simp
theorem DP {α : Type} (l : List α) (P : α → Bool) (i : Nat) (hi : i < l.length) (h : P l[i] = true) : l.any P = true := List.any_eq_true.2 ⟨l[i], List.getElem_mem hi, h⟩
theorem IX [Gh] (l : Sl aH) (o : bF 6 aH.vals aH.ok h l) (F : Value) (P : aH → Bool) (hF : ∀ h', Fr (fun _ => False) h h' → ∀ (x : aH) (Q : Value → aA → Prop), (∀ h'', Fr (fun _ => False) h' h'' → Q (.bool (P x)) h'') → lQ Tryz.prog F #[.agg x.vals.toArray] h' Q)
  (hk : ∀ h', Fr (fun _ => False) h h' → Q (.bool (l.xs.any P)) h') : aD Tryz.prog cJ #[.slice l.p l.xs.length l.cap, F] h Q := by
 apply jY
 unfold fB
 apply kQ
 unfold gI
 have hcap := o.cap
 refine aJ.go (fun n st h' => ∃ i : Nat, st = (i : Int) ∧ i ≤ l.xs.length ∧ n = l.xs.length - i ∧ Fr (fun _ => False) h h' ∧ (l.xs.take i).any P = false) l.xs.length ⟨0, rfl, by omega, rfl, Fr.refl _ _, rfl⟩ ?_
 rintro n - h1 ⟨i, rfl, hi, rfl, f1, ha⟩ Kn hK
 unfold cQ
 refine ifD (fun e => ?_) fun e => ?_
 ·have hil : i < l.xs.length := by omega
  refine dH (bF.fr0 aH.ok_fr f1 o) i rfl hil fun ad c _ => ?_
  rw [Int.toNat_natCast]
  refine aN (c.at0 rfl) (aB (c.at (j := 1) rfl) (aB (c.at (j := 2) rfl) (aN (c.at (j := 3) rfl) (aB (c.at (j := 4) rfl) (aB (c.at (j := 5) rfl) ?_)))))
  refine hF h1 f1 l.xs[i] _ fun h2 f2 => ⟨_, rfl, ifB (fun e2 => ⟨_, rfl, ?_⟩) fun e2 => ?_⟩
  ·rw [decide_eq_true (by omega)]
   have := hk h2 (f1.trans f2)
   rw [DP l.xs P i hil e2] at this; exact this
  ·rw [wr (by omega) (by omega)]
   exact hK (l.xs.length - (i + 1)) _ _ (by omega) ⟨i + 1, rfl, hil, rfl, f1.trans f2, by rw [Cl _ _ _ hil, ha, e2]; rfl⟩
 ·have : i = l.xs.length := by omega
  subst this
  rw [List.take_length] at ha
  have := hk h1 f1
  rw [ha] at this
  exact ⟨_, rfl, this⟩
theorem Jy [Gh] (l : Sl aM) (o : bF 2 aM.vals aM.ok h l) (F : Value) (P : aM → Bool) (hF : ∀ h', Fr (fun _ => False) h h' → ∀ (x : aM) (Q : Value → aA → Prop), (∀ h'', Fr (fun _ => False) h' h'' → Q (.bool (P x)) h'') → lQ Tryz.prog F #[.agg x.vals.toArray] h' Q)
  (hk : ∀ h', Fr (fun _ => False) h h' → Q (.bool (l.xs.any P)) h') : aD Tryz.prog cN #[.slice l.p l.xs.length l.cap, F] h Q := by
 apply kE
 unfold fT
 apply lE
 unfold gV
 have hcap := o.cap
 refine aJ.go (fun n st h' => ∃ i : Nat, st = (i : Int) ∧ i ≤ l.xs.length ∧ n = l.xs.length - i ∧ Fr (fun _ => False) h h' ∧ (l.xs.take i).any P = false) l.xs.length ⟨0, rfl, by omega, rfl, Fr.refl _ _, rfl⟩ ?_
 rintro n - h1 ⟨i, rfl, hi, rfl, f1, ha⟩ Kn hK
 unfold cZ
 refine ifD (fun e => ?_) fun e => ?_
 ·have hil : i < l.xs.length := by omega
  refine dH (bF.fr0 aM.ok_fr f1 o) i rfl hil fun ad c _ => ?_
  rw [Int.toNat_natCast]
  refine aB (c.at0 rfl) (aB (c.at (j := 1) rfl) ?_)
  refine hF h1 f1 l.xs[i] _ fun h2 f2 => ⟨_, rfl, ifB (fun e2 => ⟨_, rfl, ?_⟩) fun e2 => ?_⟩
  ·rw [decide_eq_true (by omega)]
   have := hk h2 (f1.trans f2)
   rw [DP l.xs P i hil e2] at this; exact this
  ·rw [wr (by omega) (by omega)]
   exact hK (l.xs.length - (i + 1)) _ _ (by omega) ⟨i + 1, rfl, hil, rfl, f1.trans f2, by rw [Cl _ _ _ hil, ha, e2]; rfl⟩
 ·have : i = l.xs.length := by omega
  subst this
  rw [List.take_length] at ha
  have := hk h1 f1
  rw [ha] at this
  exact ⟨_, rfl, this⟩
theorem xn [Gh] (l : Sl aH) (a : aL) (o : bF 6 aH.vals aH.ok h l) (hk : ∀ h', Fr (fun _ => False) h h' → Q (.bool (HG l.xs a)) h') : aD Tryz.prog jt #[.slice l.p l.xs.length l.cap, .agg a.vals.toArray] h Q := by
 apply vk
 unfold pW
 unfold HG at hk
 refine aZ (vs := a.vals) fun t3 h1 f1 e1 o1 => ?_
 have c1 : aW h1 t3 a.vals := o1.cells
 refine aN (c1.at0 rfl) (aB (c1.at (j := 1) rfl) (aB (c1.at (j := 2) rfl) ?_))
 refine yk a fun h2 f2 => ⟨_, rfl, ifB (fun e => ?_) fun e => ?_⟩
 ·rw [e, Bool.true_and] at hk
  have f12 := f1.trans f2
  have c2 := c1.fr0 f2
  refine IX l (bF.fr0 aH.ok_fr f12 o) _ (inR a) (fun h3 f3 x K hK => ?_) fun h3 f3 => ⟨_, rfl, hk h3 (f12.trans f3)⟩
  rw [cF]
  show aD Tryz.prog nH #[.agg x.vals.toArray, .pointer (some t3)] h3 K
  apply uc
  unfold ox
  have c3 := c2.fr0 f3
  unfold inR at hK
  refine aZ (vs := x.vals) fun t2 h4 f4 e4 o4 => ?_
  have c4 : aW h4 t2 x.vals := o4.cells
  have a4 := c3.fr0 f4
  refine aN (c4.at0 rfl) (aB (c4.at (j := 1) rfl) (aB (c4.at (j := 2) rfl) (aN (c4.at (j := 3) rfl) (aB (c4.at (j := 4) rfl) (aB (c4.at (j := 5) rfl) ?_)))))
  refine Jf x fun h5 f5 => ⟨_, rfl, ifB (fun e5 => ?_) fun e5 => ?_⟩
  ·rw [e5, Bool.true_and] at hK
   have c5 := c4.fr0 f5
   have a5 := a4.fr0 f5
   refine aN (c5.at0 rfl) (aN (a5.at0 rfl) (ifB (fun e6 => ?_) fun e6 => ?_))
   ·rw [e6, Bool.true_and] at hK
    refine aN (c5.at0 rfl) (aB (c5.at (j := 1) rfl) (aB (c5.at (j := 2) rfl) (aN (a5.at0 rfl) (aB (a5.at (j := 1) rfl) (aB (a5.at (j := 2) rfl) ?_)))))
    refine wM x.Lo a fun h6 f6 => ⟨_, rfl, ?_⟩
    rw [Dm]
    have c6 := c5.fr0 f6
    have a6 := a5.fr0 f6
    refine ifB (fun e7 => ?_) fun e7 => ?_
    ·rw [e7, Bool.true_and] at hK
     refine aN (a6.at0 rfl) (aB (a6.at (j := 1) rfl) (aB (a6.at (j := 2) rfl) (aN (c6.at (j := 3) rfl) (aB (c6.at (j := 4) rfl) (aB (c6.at (j := 5) rfl) ?_)))))
     refine wM a x.Hi fun h7 f7 => ⟨_, rfl, ?_⟩
     rw [Dm]
     exact hK h7 (((f4.trans f5).trans f6).trans f7)
    ·rw [e7, Bool.false_and] at hK; exact hK h6 ((f4.trans f5).trans f6)
   ·rw [e6, Bool.false_and] at hK; exact hK h5 (f4.trans f5)
  ·rw [e5, Bool.false_and] at hK; exact hK h5 (f4.trans f5)
 ·rw [e, Bool.false_and] at hk; exact hk h2 (f1.trans f2)
theorem xk [Gh] (l : Sl aM) (n : Int) (o : bF 2 aM.vals aM.ok h l) (hk : ∀ h', Fr (fun _ => False) h h' → Q (.bool (IB l.xs n)) h') : aD Tryz.prog jd #[.slice l.p l.xs.length l.cap, .int .i64 n] h Q := by
 apply uH
 unfold pi
 unfold IB at hk
 refine aZ (vs := [.int .i64 n]) fun t3 h1 f1 e1 o1 => ?_
 have c1 := o1.cells
 refine aB (c1.at0 rfl) (ifD (fun e => ?_) fun e => ?_)
 ·refine aB (c1.at0 rfl) (ifD (fun e2 => ?_) fun e2 => ?_)
  ·rw [decide_eq_true ⟨by omega, e2⟩, Bool.true_and] at hk
   refine Jy l (bF.fr0 aM.ok_fr f1 o) _ _ (fun h3 f3 x K hK => ?_) fun h3 f3 => ⟨_, rfl, hk h3 (f1.trans f3)⟩
   rw [cF]
   show aD Tryz.prog mF #[.agg x.vals.toArray, .pointer (some t3)] h3 K
   apply tt
   unfold nh
   refine aZ (vs := x.vals) fun t2 h4 f4 e4 o4 => ?_
   have c4 : aW h4 t2 x.vals := o4.cells
   have a4 := (c1.fr0 f3).fr0 f4
   refine aB (c4.at0 rfl) (aB (a4.at0 rfl) (ifD (fun e5 => ?_) fun e5 => ?_))
   ·rw [decide_eq_true e5, Bool.true_and] at hK
    exact aB (a4.at0 rfl) (aB (c4.at (j := 1) rfl) (hK h4 f4))
   ·rw [decide_eq_false e5, Bool.false_and] at hK; exact hK h4 f4
  ·rw [decide_eq_false (fun hh => e2 hh.2), Bool.false_and] at hk; exact hk h1 f1
 ·rw [decide_eq_false (fun hh => e hh.1), Bool.false_and] at hk; exact hk h1 f1
end
end Go.Proofs.YtjmfpeiidlpngaaGreatDoor.Au
namespace Go.Proofs.YtjmfpeiidlpngaaGreatDoor.Au
set_option linter.unusedSimpArgs false
set_option linter.unusedVariables false
set_option maxRecDepth 20000
open Go
open Go.IntKind (wrap)
section
variable {h : aA} {Q : Value → aA → Prop}
theorem FJ [Gh] (b : aE) (s d : aL) (sp dp : Int) {t4 : Addr} (cb : aW h t4 b.vals) (ok : aE.ok h b) (hk : ∀ h', Fr (fun _ => False) h h' → Q (.bool (Ak b s d sp dp)) h') :
  aD Tryz.prog gZ #[.agg s.vals.toArray, .agg d.vals.toArray, .int .i64 sp, .int .i64 dp, .pointer (some t4)] h Q := by
 apply tm
 unfold nG
 unfold Ak at hk
 refine aZ (vs := s.vals) fun t5 h1 f1 e1 o1 => aZ (vs := d.vals) fun t6 h2 f2 e2 o2 => ?_
 have f12 := f1.trans f2
 have cs : aW h2 t5 s.vals := o1.cells.fr0 f2
 have cd : aW h2 t6 d.vals := o2.cells
 have c2 := cb.fr0 f12
 have k2 := aE.ok_fr _ _ _ f12 ok
 refine aC (c2.at (j := 21) rfl) (aN (cs.at0 rfl) (aB (cs.at (j := 1) rfl) (aB (cs.at (j := 2) rfl) ?_)))
 refine xn b.Src s k2.k1 fun h3 f3 => ⟨_, rfl, ifB (fun e => ?_) fun e => ?_⟩
 ·rw [e, Bool.true_and] at hk
  have c3 := c2.fr0 f3
  have k3 := aE.ok_fr _ _ _ f3 k2
  refine aC (c3.at (j := 23) rfl) (xk b.SrcPorts sp k3.k3 fun h4 f4 => ⟨_, rfl, ifB (fun e2 => ?_) fun e2 => ?_⟩)
  ·rw [e2, Bool.true_and] at hk
   have c4 := c3.fr0 f4
   have k4 := aE.ok_fr _ _ _ f4 k3
   have cd4 := (cd.fr0 f3).fr0 f4
   refine aC (c4.at (j := 22) rfl) (aN (cd4.at0 rfl) (aB (cd4.at (j := 1) rfl) (aB (cd4.at (j := 2) rfl) ?_)))
   refine xn b.Dst d k4.k2 fun h5 f5 => ⟨_, rfl, ifB (fun e3 => ?_) fun e3 => ?_⟩
   ·rw [e3, Bool.true_and] at hk
    have c5 := c4.fr0 f5
    have k5 := aE.ok_fr _ _ _ f5 k4
    exact aC (c5.at (j := 24) rfl) (xk b.DstPorts dp k5.k4 fun h6 f6 => ⟨_, rfl, hk h6 ((((f12.trans f3).trans f4).trans f5).trans f6)⟩)
   ·rw [e3, Bool.false_and] at hk; exact hk h5 (((f12.trans f3).trans f4).trans f5)
  ·rw [e2, Bool.false_and] at hk; exact hk h4 ((f12.trans f3).trans f4)
 ·rw [e, Bool.false_and] at hk; exact hk h3 (f12.trans f3)
theorem Kj {b : aE} {f : bI} {dir : Int} (h : ¬ (b.Rule.Proto = f.Proto ∧ (dir = 1 ∨ dir = 2) ∧ (b.Rule.Dir = 0 ∨ b.Rule.Dir = dir))) : p7 b f dir = false := by
 unfold p7; rw [decide_eq_false h]; rfl
theorem I8 {b : aE} {f : bI} {dir : Int} (h : b.Rule.Proto = f.Proto ∧ (dir = 1 ∨ dir = 2) ∧ (b.Rule.Dir = 0 ∨ b.Rule.Dir = dir)) : p7 b f dir = (Ak b f.Src f.Dst f.Sport f.Dport || (b.Rule.Both && Ak b f.Dst f.Src f.Dport f.Sport)) := by
 unfold p7; rw [decide_eq_true h]; rfl
theorem EC [Gh] (b : aE) (f : bI) (dir : Int) (ok : aE.ok h b) (hk : ∀ h', Fr (fun _ => False) h h' → Q (.bool (p7 b f dir)) h') :
  aD Tryz.prog kP #[.agg b.vals.toArray, .agg f.vals.toArray, .int .i64 dir] h Q := by
 apply uF
 unfold ph
 refine aZ (vs := b.vals) fun t3 h1 f1 e1 o1 => aZ (vs := f.vals) fun t4 h2 f2 e2 o2 => ?_
 have f12 := f1.trans f2
 have cb : aW h2 t3 b.vals := o1.cells.fr0 f2
 have cf : aW h2 t4 f.vals := o2.cells
 refine (aB (cb.at0 rfl) (aB (cb.at rfl) (aC (cb.at rfl) (aC (cb.at rfl) (aC (cb.at rfl) (aC (cb.at rfl) (aN (cb.at rfl) (aB (cb.at rfl) (aB (cb.at rfl) (aB (cb.at rfl) (bH (cb.at rfl) (aB (cb.at rfl) (aB (cb.at rfl) (aC (cb.at rfl) (aC (cb.at rfl) (aC (cb.at rfl) (aC (cb.at rfl) (aB (cb.at rfl) (aB (cb.at rfl) (aB (cb.at rfl) (aB (cb.at rfl) ?_)))))))))))))))))))))
 refine aZ (vs := [.int .i64 0, .int .i64 0, .slice none 0 0, .slice none 0 0, .slice none 0 0, .slice none 0 0, .bool false, .int .i64 0, .int .i64 0, .int .i64 0, .string (bs []), .int .i64 0, .int .i64 0, .slice none 0 0, .slice none 0 0, .slice none 0 0, .slice none 0 0, .int .i64 0, .int .i64 0, .int .i64 0, .int .i64 0]) fun t7 h3 f3 e3 o3 => ?_
 refine jr o3 (ws := b.Rule.vals) (by rfl) (by rfl) fun h4 f4 s4 o4 => ?_
 have f24 : Fr (fun _ => False) h2 h4 := f3.tr f4 fun x hx hh => by omega
 have f14 := f12.trans f24
 have cb4 := cb.fr0 f24
 have cf4 := cf.fr0 f24
 have cr : aW h4 t7 b.Rule.vals := o4.cells
 have k4 := aE.ok_fr _ _ _ f14 ok
 have no : ¬ (b.Rule.Proto = f.Proto ∧ (dir = 1 ∨ dir = 2) ∧ (b.Rule.Dir = 0 ∨ b.Rule.Dir = dir)) → Q (.bool false) h4 := fun hn => by
  have := hk h4 f14
  rw [Kj hn] at this; exact this
 have b1 : b.Rule.Proto = f.Proto → (dir = 1 ∨ dir = 2) → (b.Rule.Dir = 0 ∨ b.Rule.Dir = dir) → cS t4 t7 t3 Q h4 := fun q1 q2 q3 => by
  rw [I8 ⟨q1, q2, q3⟩] at hk
  unfold cS
  refine aN (cf4.at (j := 1) rfl) (aB (cf4.at (j := 2) rfl) (aB (cf4.at (j := 3) rfl) (aN (cf4.at (j := 4) rfl) (aB (cf4.at (j := 5) rfl) (aB (cf4.at (j := 6) rfl) (aB (cf4.at (j := 7) rfl) (aB (cf4.at (j := 8) rfl) ?_)))))))
  refine FJ b f.Src f.Dst f.Sport f.Dport cb4 k4 fun h5 f5 => ⟨_, rfl, ifB (fun e => ?_) fun e => ?_⟩
  ·have := hk h5 (f14.trans f5)
   rw [e] at this; exact this
  ·rw [e, Bool.false_or] at hk
   have cr5 := cr.fr0 f5
   have cf5 := cf4.fr0 f5
   have cb5 := cb4.fr0 f5
   have k5 := aE.ok_fr _ _ _ f5 k4
   refine aN (cr5.at (j := 6) rfl) (ifB (fun e2 => ?_) fun e2 => ?_)
   ·rw [e2, Bool.true_and] at hk
    refine aN (cf5.at (j := 4) rfl) (aB (cf5.at (j := 5) rfl) (aB (cf5.at (j := 6) rfl) (aN (cf5.at (j := 1) rfl) (aB (cf5.at (j := 2) rfl) (aB (cf5.at (j := 3) rfl) (aB (cf5.at (j := 8) rfl) (aB (cf5.at (j := 7) rfl) ?_)))))))
    exact FJ b f.Dst f.Src f.Dport f.Sport cb5 k5 fun h6 f6 => ⟨_, rfl, hk h6 ((f14.trans f5).trans f6)⟩
   ·rw [e2, Bool.false_and] at hk; exact hk h5 (f14.trans f5)
 refine aB (cr.at (j := 1) rfl) (aB (cf4.at0 rfl) (rM (fun e => no fun hh => e hh.1) fun q1 => ?_))
 refine rM (fun d1 => rM (fun d2 => no fun hh => hh.2.1.elim d1 d2) fun d2 => ?_) fun d1 => ?_
 ·refine aB (cr.at (j := 11) rfl) (rM (fun e2 => aB (cr.at (j := 11) rfl) (rM (fun e3 => no fun hh => hh.2.2.elim e2 e3) fun e3 => b1 q1 (.inr d2) (.inr e3))) fun e2 => b1 q1 (.inr d2) (.inl e2))
 ·refine aB (cr.at (j := 11) rfl) (rM (fun e2 => aB (cr.at (j := 11) rfl) (rM (fun e3 => no fun hh => hh.2.2.elim e2 e3) fun e3 => b1 q1 (.inl d1) (.inr e3))) fun e2 => b1 q1 (.inl d1) (.inl e2))
end
end Go.Proofs.YtjmfpeiidlpngaaGreatDoor.Au
namespace Go.Proofs.YtjmfpeiidlpngaaGreatDoor
set_option linter.unusedSimpArgs false
set_option linter.unusedVariables false
set_option maxRecDepth 20000
open Go
open Go.IntKind (wrap)
theorem BE : gM Tryz.prog kA pH Tryz.t139 (.agg #[.bool false, .string (bs []), .bool false, .int .u64 0, .int .u64 0, .int .i64 0]) := ⟨Tryz.underlying53, by kernel_rfl, by kernel_rfl, by kernel_rfl, by decide +kernel⟩
theorem m7 (x : aI) : (aI.vals x).length = 6 := rfl
theorem zg (x : aI) : (aI.vals x).all ee = true := rfl
theorem sK [Gh] (s : Sl aI) {h : aA} (os : bF 6 aI.vals aI.ok h s) (hl : s.xs.length ≤ 2 ^ 20) {Q : Value → aA → Prop}
  (hk : ∀ p' c' h', Fr (fun _ => False) h h' → Row 6 aI.vals h' p' c' s.xs → (∀ x, InA p' x → h.size ≤ x) → Q (.slice p' s.xs.length c') h') :
  aD Tryz.prog bX #[.slice s.p s.xs.length s.cap] h Q := by
 apply kg
 unfold fI
 cases hp : s.p with
 | none =>
  rw [if_pos (by rfl)]
  have he : s.xs = [] := by
   cases hx : s.xs with
   | nil => rfl
   | cons a l =>
    obtain ⟨ad, h1, _⟩ := os.at_ 0 (by rw [hx]; simp)
    rw [hp] at h1; cases h1
  have := hk none 0 h (Fr.refl _ _) (by rw [he]; exact Row.nil) fun x hx => (dR hx).elim
  rw [he] at this; exact this
 | some ad =>
  rw [if_neg (by simp)]
  refine aZ (vs := []) fun t5 h1 f1 e1 o1 => ?_
  have z1 := f1.size
  have R0 : Row 6 aI.vals h1 (some t5) 0 [] := Row.of_own (L := []) m7 o1
  have src := (bF.fr0 aI.ok_fr f1 os).src m7
  rw [hp] at src
  refine R0.appL BE Tryz.underlying53 (by intro k e; cases e) (by kernel_rfl) (by decide +kernel) m7 zg src (by simp; omega) fun p' cap' h' R' f hn => ⟨_, _, _, rfl, ?_⟩
  refine hk p' cap' h' (f1.tr f fun x hx hh => ?_) R' fun x hx => ?_
  ·obtain ⟨a', h1, h2⟩ := hh; cases h1; omega
  ·rcases hn x hx with hh | hh
   ·obtain ⟨a', h1, h2⟩ := hh; cases h1; omega
   ·omega
theorem Cf : gM Tryz.prog kC mP Tryz.t142 (.agg #[.bool false, .string (bs []), .int .i64 0, .int .i64 0]) := ⟨Tryz.underlying54, by kernel_rfl, by kernel_rfl, by kernel_rfl, by decide +kernel⟩
theorem mQ (x : aG) : (aG.vals x).length = 4 := rfl
theorem zn (x : aG) : (aG.vals x).all ee = true := rfl
theorem sQ [Gh] (s : Sl aG) {h : aA} (os : bF 4 aG.vals aG.ok h s) (hl : s.xs.length ≤ 2 ^ 20) {Q : Value → aA → Prop}
  (hk : ∀ p' c' h', Fr (fun _ => False) h h' → Row 4 aG.vals h' p' c' s.xs → (∀ x, InA p' x → h.size ≤ x) → Q (.slice p' s.xs.length c') h') :
  aD Tryz.prog bW #[.slice s.p s.xs.length s.cap] h Q := by
 apply kr
 unfold fH
 cases hp : s.p with
 | none =>
  rw [if_pos (by rfl)]
  have he : s.xs = [] := by
   cases hx : s.xs with
   | nil => rfl
   | cons a l =>
    obtain ⟨ad, h1, _⟩ := os.at_ 0 (by rw [hx]; simp)
    rw [hp] at h1; cases h1
  have := hk none 0 h (Fr.refl _ _) (by rw [he]; exact Row.nil) fun x hx => (dR hx).elim
  rw [he] at this; exact this
 | some ad =>
  rw [if_neg (by simp)]
  refine aZ (vs := []) fun t5 h1 f1 e1 o1 => ?_
  have z1 := f1.size
  have R0 : Row 4 aG.vals h1 (some t5) 0 [] := Row.of_own (L := []) mQ o1
  have src := (bF.fr0 aG.ok_fr f1 os).src mQ
  rw [hp] at src
  refine R0.appL Cf Tryz.underlying54 (by intro k e; cases e) (by kernel_rfl) (by decide +kernel) mQ zn src (by simp; omega) fun p' cap' h' R' f hn => ⟨_, _, _, rfl, ?_⟩
  refine hk p' cap' h' (f1.tr f fun x hx hh => ?_) R' fun x hx => ?_
  ·obtain ⟨a', h1, h2⟩ := hh; cases h1; omega
  ·rcases hn x hx with hh | hh
   ·obtain ⟨a', h1, h2⟩ := hh; cases h1; omega
   ·omega
theorem CH : gM Tryz.prog li jn Tryz.t133 (.agg #[.string (bs []), .bool false, .bool false, .bool false, .int .i64 0, .int .i64 0, .bool false]) := ⟨Tryz.underlying55, by kernel_rfl, by kernel_rfl, by kernel_rfl, by decide +kernel⟩
theorem qB (x : aF) : (aF.vals x).length = 7 := rfl
theorem Bi (x : aF) : (aF.vals x).all ee = true := rfl
theorem yV [Gh] (s : Sl aF) {h : aA} (os : bF 7 aF.vals aF.ok h s) (hl : s.xs.length ≤ 2 ^ 20) {Q : Value → aA → Prop}
  (hk : ∀ p' c' h', Fr (fun _ => False) h h' → Row 7 aF.vals h' p' c' s.xs → (∀ x, InA p' x → h.size ≤ x) → Q (.slice p' s.xs.length c') h') :
  aD Tryz.prog cP #[.slice s.p s.xs.length s.cap] h Q := by
 apply kF
 unfold fZ
 cases hp : s.p with
 | none =>
  rw [if_pos (by rfl)]
  have he : s.xs = [] := by
   cases hx : s.xs with
   | nil => rfl
   | cons a l =>
    obtain ⟨ad, h1, _⟩ := os.at_ 0 (by rw [hx]; simp)
    rw [hp] at h1; cases h1
  have := hk none 0 h (Fr.refl _ _) (by rw [he]; exact Row.nil) fun x hx => (dR hx).elim
  rw [he] at this; exact this
 | some ad =>
  rw [if_neg (by simp)]
  refine aZ (vs := []) fun t5 h1 f1 e1 o1 => ?_
  have z1 := f1.size
  have R0 : Row 7 aF.vals h1 (some t5) 0 [] := Row.of_own (L := []) qB o1
  have src := (bF.fr0 aF.ok_fr f1 os).src qB
  rw [hp] at src
  refine R0.appL CH Tryz.underlying55 (by intro k e; cases e) (by kernel_rfl) (by decide +kernel) qB Bi src (by simp; omega) fun p' cap' h' R' f hn => ⟨_, _, _, rfl, ?_⟩
  refine hk p' cap' h' (f1.tr f fun x hx hh => ?_) R' fun x hx => ?_
  ·obtain ⟨a', h1, h2⟩ := hh; cases h1; omega
  ·rcases hn x hx with hh | hh
   ·obtain ⟨a', h1, h2⟩ := hh; cases h1; omega
   ·omega
theorem HX : gM Tryz.prog ov sw Tryz.t146 (.agg #[.int .i64 0, .int .i64 0, .int .i64 0, .int .i64 0, .bool false, .bool false, .bool false]) := ⟨Tryz.underlying56, by kernel_rfl, by kernel_rfl, by kernel_rfl, by decide +kernel⟩
theorem ww (x : bE) : (bE.vals x).length = 7 := rfl
theorem Fk (x : bE) : (bE.vals x).all ee = true := rfl
theorem B7 [Gh] (s : Sl bE) {h : aA} (os : bF 7 bE.vals bE.ok h s) (hl : s.xs.length ≤ 2 ^ 20) {Q : Value → aA → Prop}
  (hk : ∀ p' c' h', Fr (fun _ => False) h h' → Row 7 bE.vals h' p' c' s.xs → (∀ x, InA p' x → h.size ≤ x) → Q (.slice p' s.xs.length c') h') :
  aD Tryz.prog eu #[.slice s.p s.xs.length s.cap] h Q := by
 apply m0
 unfold iW
 cases hp : s.p with
 | none =>
  rw [if_pos (by rfl)]
  have he : s.xs = [] := by
   cases hx : s.xs with
   | nil => rfl
   | cons a l =>
    obtain ⟨ad, h1, _⟩ := os.at_ 0 (by rw [hx]; simp)
    rw [hp] at h1; cases h1
  have := hk none 0 h (Fr.refl _ _) (by rw [he]; exact Row.nil) fun x hx => (dR hx).elim
  rw [he] at this; exact this
 | some ad =>
  rw [if_neg (by simp)]
  refine aZ (vs := []) fun t5 h1 f1 e1 o1 => ?_
  have z1 := f1.size
  have R0 : Row 7 bE.vals h1 (some t5) 0 [] := Row.of_own (L := []) ww o1
  have src := (bF.fr0 bE.ok_fr f1 os).src ww
  rw [hp] at src
  refine R0.appL HX Tryz.underlying56 (by intro k e; cases e) (by kernel_rfl) (by decide +kernel) ww Fk src (by simp; omega) fun p' cap' h' R' f hn => ⟨_, _, _, rfl, ?_⟩
  refine hk p' cap' h' (f1.tr f fun x hx hh => ?_) R' fun x hx => ?_
  ·obtain ⟨a', h1, h2⟩ := hh; cases h1; omega
  ·rcases hn x hx with hh | hh
   ·obtain ⟨a', h1, h2⟩ := hh; cases h1; omega
   ·omega
theorem Et : gM Tryz.prog lV sE Tryz.t149 (.agg #[.int .i64 0, .string (bs [])]) := ⟨Tryz.underlying57, by kernel_rfl, by kernel_rfl, by kernel_rfl, by decide +kernel⟩
theorem sC (x : aT) : (aT.vals x).length = 2 := rfl
theorem BQ (x : aT) : (aT.vals x).all ee = true := rfl
theorem zj [Gh] (s : Sl aT) {h : aA} (os : bF 2 aT.vals aT.ok h s) (hl : s.xs.length ≤ 2 ^ 20) {Q : Value → aA → Prop}
  (hk : ∀ p' c' h', Fr (fun _ => False) h h' → Row 2 aT.vals h' p' c' s.xs → (∀ x, InA p' x → h.size ≤ x) → Q (.slice p' s.xs.length c') h') :
  aD Tryz.prog cY #[.slice s.p s.xs.length s.cap] h Q := by
 apply lD
 unfold gU
 cases hp : s.p with
 | none =>
  rw [if_pos (by rfl)]
  have he : s.xs = [] := by
   cases hx : s.xs with
   | nil => rfl
   | cons a l =>
    obtain ⟨ad, h1, _⟩ := os.at_ 0 (by rw [hx]; simp)
    rw [hp] at h1; cases h1
  have := hk none 0 h (Fr.refl _ _) (by rw [he]; exact Row.nil) fun x hx => (dR hx).elim
  rw [he] at this; exact this
 | some ad =>
  rw [if_neg (by simp)]
  refine aZ (vs := []) fun t5 h1 f1 e1 o1 => ?_
  have z1 := f1.size
  have R0 : Row 2 aT.vals h1 (some t5) 0 [] := Row.of_own (L := []) sC o1
  have src := (bF.fr0 aT.ok_fr f1 os).src sC
  rw [hp] at src
  refine R0.appL Et Tryz.underlying57 (by intro k e; cases e) (by kernel_rfl) (by decide +kernel) sC BQ src (by simp; omega) fun p' cap' h' R' f hn => ⟨_, _, _, rfl, ?_⟩
  refine hk p' cap' h' (f1.tr f fun x hx hh => ?_) R' fun x hx => ?_
  ·obtain ⟨a', h1, h2⟩ := hh; cases h1; omega
  ·rcases hn x hx with hh | hh
   ·obtain ⟨a', h1, h2⟩ := hh; cases h1; omega
   ·omega
theorem Hs : gM Tryz.prog mK ml Tryz.t152 (.agg #[.bool false, .int .u64 0, .int .u64 0, .bool false, .int .u64 0, .int .u64 0]) := ⟨Tryz.underlying62, by kernel_rfl, by kernel_rfl, by kernel_rfl, by decide +kernel⟩
theorem rx (x : aH) : (aH.vals x).length = 6 := rfl
theorem CS (x : aH) : (aH.vals x).all ee = true := rfl
theorem vv [Gh] (s : Sl aH) {h : aA} (os : bF 6 aH.vals aH.ok h s) (hl : s.xs.length ≤ 2 ^ 20) {Q : Value → aA → Prop}
  (hk : ∀ p' c' h', Fr (fun _ => False) h h' → Row 6 aH.vals h' p' c' s.xs → (∀ x, InA p' x → h.size ≤ x) → Q (.slice p' s.xs.length c') h') :
  aD Tryz.prog cH #[.slice s.p s.xs.length s.cap] h Q := by
 apply mg
 unfold iw
 cases hp : s.p with
 | none =>
  rw [if_pos (by rfl)]
  have he : s.xs = [] := by
   cases hx : s.xs with
   | nil => rfl
   | cons a l =>
    obtain ⟨ad, h1, _⟩ := os.at_ 0 (by rw [hx]; simp)
    rw [hp] at h1; cases h1
  have := hk none 0 h (Fr.refl _ _) (by rw [he]; exact Row.nil) fun x hx => (dR hx).elim
  rw [he] at this; exact this
 | some ad =>
  rw [if_neg (by simp)]
  refine aZ (vs := []) fun t5 h1 f1 e1 o1 => ?_
  have z1 := f1.size
  have R0 : Row 6 aH.vals h1 (some t5) 0 [] := Row.of_own (L := []) rx o1
  have src := (bF.fr0 aH.ok_fr f1 os).src rx
  rw [hp] at src
  refine R0.appL Hs Tryz.underlying62 (by intro k e; cases e) (by kernel_rfl) (by decide +kernel) rx CS src (by simp; omega) fun p' cap' h' R' f hn => ⟨_, _, _, rfl, ?_⟩
  refine hk p' cap' h' (f1.tr f fun x hx hh => ?_) R' fun x hx => ?_
  ·obtain ⟨a', h1, h2⟩ := hh; cases h1; omega
  ·rcases hn x hx with hh | hh
   ·obtain ⟨a', h1, h2⟩ := hh; cases h1; omega
   ·omega
theorem Iv : gM Tryz.prog oe pR Tryz.t155 (.agg #[.int .i64 0, .int .i64 0]) := ⟨Tryz.underlying63, by kernel_rfl, by kernel_rfl, by kernel_rfl, by decide +kernel⟩
theorem tX (x : aM) : (aM.vals x).length = 2 := rfl
theorem EK (x : aM) : (aM.vals x).all ee = true := rfl
theorem xa [Gh] (s : Sl aM) {h : aA} (os : bF 2 aM.vals aM.ok h s) (hl : s.xs.length ≤ 2 ^ 20) {Q : Value → aA → Prop}
  (hk : ∀ p' c' h', Fr (fun _ => False) h h' → Row 2 aM.vals h' p' c' s.xs → (∀ x, InA p' x → h.size ≤ x) → Q (.slice p' s.xs.length c') h') :
  aD Tryz.prog cM #[.slice s.p s.xs.length s.cap] h Q := by
 apply mX
 unfold iR
 cases hp : s.p with
 | none =>
  rw [if_pos (by rfl)]
  have he : s.xs = [] := by
   cases hx : s.xs with
   | nil => rfl
   | cons a l =>
    obtain ⟨ad, h1, _⟩ := os.at_ 0 (by rw [hx]; simp)
    rw [hp] at h1; cases h1
  have := hk none 0 h (Fr.refl _ _) (by rw [he]; exact Row.nil) fun x hx => (dR hx).elim
  rw [he] at this; exact this
 | some ad =>
  rw [if_neg (by simp)]
  refine aZ (vs := []) fun t5 h1 f1 e1 o1 => ?_
  have z1 := f1.size
  have R0 : Row 2 aM.vals h1 (some t5) 0 [] := Row.of_own (L := []) tX o1
  have src := (bF.fr0 aM.ok_fr f1 os).src tX
  rw [hp] at src
  refine R0.appL Iv Tryz.underlying63 (by intro k e; cases e) (by kernel_rfl) (by decide +kernel) tX EK src (by simp; omega) fun p' cap' h' R' f hn => ⟨_, _, _, rfl, ?_⟩
  refine hk p' cap' h' (f1.tr f fun x hx hh => ?_) R' fun x hx => ?_
  ·obtain ⟨a', h1, h2⟩ := hh; cases h1; omega
  ·rcases hn x hx with hh | hh
   ·obtain ⟨a', h1, h2⟩ := hh; cases h1; omega
   ·omega
theorem Jt : gM Tryz.prog bK qd Tryz.t3 (.int .i64 0) := ⟨Tryz.underlying46, by kernel_rfl, by kernel_rfl, by kernel_rfl, by decide +kernel⟩
theorem xK (x : Int) : ((fun n : Int => [Value.int .i64 n]) x).length = 1 := rfl
theorem Hx (x : Int) : ((fun n : Int => [Value.int .i64 n]) x).all ee = true := rfl
theorem x9 [Gh] (s : Sl Int) {h : aA} (os : bF 1 (fun n : Int => [Value.int .i64 n]) (kOk .i64) h s) (hl : s.xs.length ≤ 2 ^ 20) {Q : Value → aA → Prop}
  (hk : ∀ p' c' h', Fr (fun _ => False) h h' → Row 1 (fun n : Int => [Value.int .i64 n]) h' p' c' s.xs → (∀ x, InA p' x → h.size ≤ x) → Q (.slice p' s.xs.length c') h') :
  aD Tryz.prog cR #[.slice s.p s.xs.length s.cap] h Q := by
 apply nb
 unfold jL
 cases hp : s.p with
 | none =>
  rw [if_pos (by rfl)]
  have he : s.xs = [] := by
   cases hx : s.xs with
   | nil => rfl
   | cons a l =>
    obtain ⟨ad, h1, _⟩ := os.at_ 0 (by rw [hx]; simp)
    rw [hp] at h1; cases h1
  have := hk none 0 h (Fr.refl _ _) (by rw [he]; exact Row.nil) fun x hx => (dR hx).elim
  rw [he] at this; exact this
 | some ad =>
  rw [if_neg (by simp)]
  refine aZ (vs := []) fun t5 h1 f1 e1 o1 => ?_
  have z1 := f1.size
  have R0 : Row 1 (fun n : Int => [Value.int .i64 n]) h1 (some t5) 0 [] := Row.of_own (L := []) xK o1
  have src := (bF.fr0 xz f1 os).src xK
  rw [hp] at src
  refine R0.appL Jt Tryz.underlying46 (by intro k e; cases e) (by kernel_rfl) (by decide +kernel) xK Hx src (by simp; omega) fun p' cap' h' R' f hn => ⟨_, _, _, rfl, ?_⟩
  refine hk p' cap' h' (f1.tr f fun x hx hh => ?_) R' fun x hx => ?_
  ·obtain ⟨a', h1, h2⟩ := hh; cases h1; omega
  ·rcases hn x hx with hh | hh
   ·obtain ⟨a', h1, h2⟩ := hh; cases h1; omega
   ·omega
theorem x8 {h h' : aA} {r : aL} (o : aL.ok h r) : aL.ok h' r :=
 ⟨o.k0, o.k1, o.k2⟩
theorem Dh {h h' : aA} {r : bL} (o : bL.ok h r) : bL.ok h' r :=
 ⟨x8 o.k0, o.k1⟩
theorem vw {h h' : aA} {r : aI} (o : aI.ok h r) : aI.ok h' r :=
 ⟨o.k0, o.k1, Dh o.k2⟩
theorem vY {h h' : aA} {r : aG} (o : aG.ok h r) : aG.ok h' r :=
 ⟨o.k0, o.k1, o.k2, o.k3⟩
theorem BX {h h' : aA} {r : aF} (o : aF.ok h r) : aF.ok h' r :=
 ⟨o.k0, o.k1, o.k2, o.k3, o.k4, o.k5, o.k6⟩
theorem GN {h h' : aA} {r : bE} (o : bE.ok h r) : bE.ok h' r :=
 ⟨o.k0, o.k1, o.k2, o.k3, o.k4, o.k5, o.k6⟩
theorem Db {h h' : aA} {r : aT} (o : aT.ok h r) : aT.ok h' r :=
 ⟨o.k0, o.k1⟩
theorem zC {h h' : aA} {r : aH} (o : aH.ok h r) : aH.ok h' r :=
 ⟨x8 o.k0, x8 o.k1⟩
theorem B9 {h h' : aA} {r : aM} (o : aM.ok h r) : aM.ok h' r :=
 ⟨o.k0, o.k1⟩
theorem zh {h h' : aA} {r : bA} (o : bA.ok h r) : bA.ok h' r :=
 ⟨o.k0, o.k1, o.k2, o.k3⟩
theorem HB {h h' : aA} {n : Int} (o : kOk .i64 h n) : kOk .i64 h' n := o
def St (B : Nat → Prop) (h : aA) (b : aE) : Prop := ∀ h', Fr (fun x => ¬ B x) h h' → aE.ok h' b
theorem St.now {B : Nat → Prop} {h : aA} {b : aE} (s : St B h b) : aE.ok h b := s h (Fr.refl _ _)
theorem St.fr {B B' S : Nat → Prop} {h h' : aA} {b : aE} (s : St B h b) (f : Fr S h h') (h1 : ∀ x, x < h.size → B x → ¬ S x) (h2 : ∀ x, x < h.size → B x → B' x) : St B' h' b := fun h'' f2 =>
 s h'' ⟨Nat.le_trans f.size f2.size, fun x hx hn => by
  have hB : B x := Classical.byContradiction hn
  rw [f2.same x (Nat.lt_of_lt_of_le hx f.size) (fun hh => hh (h2 x hx hB)), f.same x hx (h1 x hx hB)]⟩
def rG {α : Type} (s : Sl α) : Sl α := ⟨none, 0, s.xs⟩
def IM (r : aK) : aK := { r with Src := rG r.Src, Dst := rG r.Dst, SrcPorts := rG r.SrcPorts, DstPorts := rG r.DstPorts, Transforms := rG r.Transforms, Contents := rG r.Contents, Tests := rG r.Tests, Flow := rG r.Flow }
def wipe (b : aE) : aE := { Rule := IM b.Rule, Src := rG b.Src, Dst := rG b.Dst, SrcPorts := rG b.SrcPorts, DstPorts := rG b.DstPorts }
structure I9 (b : aE) : Prop where
 l2 : b.Rule.Src.xs.length ≤ 2 ^ 20
 l3 : b.Rule.Dst.xs.length ≤ 2 ^ 20
 l4 : b.Rule.SrcPorts.xs.length ≤ 2 ^ 20
 l5 : b.Rule.DstPorts.xs.length ≤ 2 ^ 20
 l13 : b.Rule.Transforms.xs.length ≤ 2 ^ 20
 l14 : b.Rule.Contents.xs.length ≤ 2 ^ 20
 l15 : b.Rule.Tests.xs.length ≤ 2 ^ 20
 l16 : b.Rule.Flow.xs.length ≤ 2 ^ 20
 l21 : b.Src.xs.length ≤ 2 ^ 20
 l22 : b.Dst.xs.length ≤ 2 ^ 20
 l23 : b.SrcPorts.xs.length ≤ 2 ^ 20
 l24 : b.DstPorts.xs.length ≤ 2 ^ 20
set_option maxHeartbeats 2000000 in
theorem Cv [Gh] (b : aE) {h : aA} (ok : aE.ok h b) (L : I9 b) {Q : Value → aA → Prop} (hk : ∀ (b' : aE) h', Fr (fun _ => False) h h' → St (fun x => h.size ≤ x) h' b' → wipe b' = wipe b → Q (.agg b'.vals.toArray) h') :
  aD Tryz.prog kw #[.agg b.vals.toArray] h Q := by
 apply wH
 unfold rN
 refine aZ (vs := b.vals) fun t1 h1 f1 e1 o1 => ?_
 have z1 := f1.size
 have lt1 := o1.lt
 refine aZ (vs := [.int .i64 0, .int .i64 0, .slice none 0 0, .slice none 0 0, .slice none 0 0, .slice none 0 0, .bool false, .int .i64 0, .int .i64 0, .int .i64 0, .string (bs []), .int .i64 0, .int .i64 0, .slice none 0 0, .slice none 0 0, .slice none 0 0, .slice none 0 0, .int .i64 0, .int .i64 0, .int .i64 0, .int .i64 0, .slice none 0 0, .slice none 0 0, .slice none 0 0, .slice none 0 0]) fun t2 h2 f2 e2 o2 => ?_
 have z2 := f2.size
 have lt2 := o2.lt
 have F0 : Fr (fun _ => False) h h2 := f1.trans f2
 have c0 : Own h2 t1 b.vals bU := o1.fr0 f2
 have d0 := o2
 have k0 := aE.ok_fr _ _ _ F0 ok
 refine aC (c0.cells.at (j := 2) rfl) (aC (c0.cells.at (j := 3) rfl) ?_)
 refine sK b.Rule.Src k0.k0.k2 L.l2 fun p2 q2 ha0 fa0 R2 n2 => ⟨_, _, _, rfl, aC ((c0.fr0 fa0).cells.at (j := 3) rfl) rfl, ?_⟩
 have za0 := fa0.size
 refine sK b.Rule.Dst (aE.ok_fr _ _ _ fa0 k0).k0.k3 L.l3 fun p3 q3 hb0 fb0 R3 n3 => ⟨_, _, _, rfl, ?_⟩
 have zb0 := fb0.size
 refine cK ((c0.fr0 fa0).fr0 fb0) 2 (by show 2 < 25; omega) rfl fun hc0 fc0 zc0 oc0 => ?_
 refine cK oc0 3 (by show 3 < 25; omega) rfl fun hd0 fd0 zd0 od0 => ?_
 have zz0 := fc0.size
 have zy0 := fd0.size
 have g0 : Fr (fun x => x = t1.block) hb0 hd0 := fc0.trans fd0
 have F1 : Fr (fun _ => False) h hd0 := ((F0.trans fa0).trans fb0).tr g0 fun x hx hh => by omega
 have R2 := (R2.fr0 fb0).fr g0 fun x hx hh => by have := n2 x hx; omega
 have R3 := R3.fr g0 fun x hx hh => by have := n3 x hx; omega
 have c1 : Own hd0 t1 (aE.vals (⟨⟨b.Rule.Action, b.Rule.Proto, ⟨p2, q2, b.Rule.Src.xs⟩, ⟨p3, q3, b.Rule.Dst.xs⟩, b.Rule.SrcPorts, b.Rule.DstPorts, b.Rule.Both, b.Rule.Sid, b.Rule.Rev, b.Rule.Priority, b.Rule.Msg, b.Rule.Dir, b.Rule.Kind, b.Rule.Transforms, b.Rule.Contents, b.Rule.Tests, b.Rule.Flow, b.Rule.Threshold⟩, b.Src, b.Dst, b.SrcPorts, b.DstPorts⟩ : aE)) bU := od0
 have d1 := ((d0.fr0 fa0).fr0 fb0).fr g0 fun hh => by omega
 have k1 := aE.ok_fr _ _ _ F1 ok
 refine aC (c1.cells.at (j := 4) rfl) (aC (c1.cells.at (j := 5) rfl) ?_)
 refine sQ b.Rule.SrcPorts k1.k0.k4 L.l4 fun p4 q4 ha1 fa1 R4 n4 => ⟨_, _, _, rfl, aC ((c1.fr0 fa1).cells.at (j := 5) rfl) rfl, ?_⟩
 have za1 := fa1.size
 refine sQ b.Rule.DstPorts (aE.ok_fr _ _ _ fa1 k1).k0.k5 L.l5 fun p5 q5 hb1 fb1 R5 n5 => ⟨_, _, _, rfl, ?_⟩
 have zb1 := fb1.size
 refine cK ((c1.fr0 fa1).fr0 fb1) 4 (by show 4 < 25; omega) rfl fun hc1 fc1 zc1 oc1 => ?_
 refine cK oc1 5 (by show 5 < 25; omega) rfl fun hd1 fd1 zd1 od1 => ?_
 have zz1 := fc1.size
 have zy1 := fd1.size
 have g1 : Fr (fun x => x = t1.block) hb1 hd1 := fc1.trans fd1
 have F2 : Fr (fun _ => False) h hd1 := ((F1.trans fa1).trans fb1).tr g1 fun x hx hh => by omega
 have R4 := (R4.fr0 fb1).fr g1 fun x hx hh => by have := n4 x hx; omega
 have R5 := R5.fr g1 fun x hx hh => by have := n5 x hx; omega
 have R2 := ((R2.fr0 fa1).fr0 fb1).fr g1 fun x hx hh => by have := n2 x hx; omega
 have R3 := ((R3.fr0 fa1).fr0 fb1).fr g1 fun x hx hh => by have := n3 x hx; omega
 have c2 : Own hd1 t1 (aE.vals (⟨⟨b.Rule.Action, b.Rule.Proto, ⟨p2, q2, b.Rule.Src.xs⟩, ⟨p3, q3, b.Rule.Dst.xs⟩, ⟨p4, q4, b.Rule.SrcPorts.xs⟩, ⟨p5, q5, b.Rule.DstPorts.xs⟩, b.Rule.Both, b.Rule.Sid, b.Rule.Rev, b.Rule.Priority, b.Rule.Msg, b.Rule.Dir, b.Rule.Kind, b.Rule.Transforms, b.Rule.Contents, b.Rule.Tests, b.Rule.Flow, b.Rule.Threshold⟩, b.Src, b.Dst, b.SrcPorts, b.DstPorts⟩ : aE)) bU := od1
 have d2 := ((d1.fr0 fa1).fr0 fb1).fr g1 fun hh => by omega
 have k2 := aE.ok_fr _ _ _ F2 ok
 refine aC (c2.cells.at (j := 13) rfl) (aC (c2.cells.at (j := 14) rfl) ?_)
 refine x9 b.Rule.Transforms k2.k0.k13 L.l13 fun p13 q13 ha2 fa2 R13 n13 => ⟨_, _, _, rfl, aC ((c2.fr0 fa2).cells.at (j := 14) rfl) rfl, ?_⟩
 have za2 := fa2.size
 refine yV b.Rule.Contents (aE.ok_fr _ _ _ fa2 k2).k0.k14 L.l14 fun p14 q14 hb2 fb2 R14 n14 => ⟨_, _, _, rfl, ?_⟩
 have zb2 := fb2.size
 refine cK ((c2.fr0 fa2).fr0 fb2) 13 (by show 13 < 25; omega) rfl fun hc2 fc2 zc2 oc2 => ?_
 refine cK oc2 14 (by show 14 < 25; omega) rfl fun hd2 fd2 zd2 od2 => ?_
 have zz2 := fc2.size
 have zy2 := fd2.size
 have g2 : Fr (fun x => x = t1.block) hb2 hd2 := fc2.trans fd2
 have F3 : Fr (fun _ => False) h hd2 := ((F2.trans fa2).trans fb2).tr g2 fun x hx hh => by omega
 have R13 := (R13.fr0 fb2).fr g2 fun x hx hh => by have := n13 x hx; omega
 have R14 := R14.fr g2 fun x hx hh => by have := n14 x hx; omega
 have R2 := ((R2.fr0 fa2).fr0 fb2).fr g2 fun x hx hh => by have := n2 x hx; omega
 have R3 := ((R3.fr0 fa2).fr0 fb2).fr g2 fun x hx hh => by have := n3 x hx; omega
 have R4 := ((R4.fr0 fa2).fr0 fb2).fr g2 fun x hx hh => by have := n4 x hx; omega
 have R5 := ((R5.fr0 fa2).fr0 fb2).fr g2 fun x hx hh => by have := n5 x hx; omega
 have c3 : Own hd2 t1 (aE.vals (⟨⟨b.Rule.Action, b.Rule.Proto, ⟨p2, q2, b.Rule.Src.xs⟩, ⟨p3, q3, b.Rule.Dst.xs⟩, ⟨p4, q4, b.Rule.SrcPorts.xs⟩, ⟨p5, q5, b.Rule.DstPorts.xs⟩, b.Rule.Both, b.Rule.Sid, b.Rule.Rev, b.Rule.Priority, b.Rule.Msg, b.Rule.Dir, b.Rule.Kind, ⟨p13, q13, b.Rule.Transforms.xs⟩, ⟨p14, q14, b.Rule.Contents.xs⟩, b.Rule.Tests, b.Rule.Flow, b.Rule.Threshold⟩, b.Src, b.Dst, b.SrcPorts, b.DstPorts⟩ : aE)) bU := od2
 have d3 := ((d2.fr0 fa2).fr0 fb2).fr g2 fun hh => by omega
 have k3 := aE.ok_fr _ _ _ F3 ok
 refine aC (c3.cells.at (j := 15) rfl) (aC (c3.cells.at (j := 16) rfl) ?_)
 refine B7 b.Rule.Tests k3.k0.k15 L.l15 fun p15 q15 ha3 fa3 R15 n15 => ⟨_, _, _, rfl, aC ((c3.fr0 fa3).cells.at (j := 16) rfl) rfl, ?_⟩
 have za3 := fa3.size
 refine zj b.Rule.Flow (aE.ok_fr _ _ _ fa3 k3).k0.k16 L.l16 fun p16 q16 hb3 fb3 R16 n16 => ⟨_, _, _, rfl, ?_⟩
 have zb3 := fb3.size
 refine cK ((c3.fr0 fa3).fr0 fb3) 15 (by show 15 < 25; omega) rfl fun hc3 fc3 zc3 oc3 => ?_
 refine cK oc3 16 (by show 16 < 25; omega) rfl fun hd3 fd3 zd3 od3 => ?_
 have zz3 := fc3.size
 have zy3 := fd3.size
 have g3 : Fr (fun x => x = t1.block) hb3 hd3 := fc3.trans fd3
 have F4 : Fr (fun _ => False) h hd3 := ((F3.trans fa3).trans fb3).tr g3 fun x hx hh => by omega
 have R15 := (R15.fr0 fb3).fr g3 fun x hx hh => by have := n15 x hx; omega
 have R16 := R16.fr g3 fun x hx hh => by have := n16 x hx; omega
 have R2 := ((R2.fr0 fa3).fr0 fb3).fr g3 fun x hx hh => by have := n2 x hx; omega
 have R3 := ((R3.fr0 fa3).fr0 fb3).fr g3 fun x hx hh => by have := n3 x hx; omega
 have R4 := ((R4.fr0 fa3).fr0 fb3).fr g3 fun x hx hh => by have := n4 x hx; omega
 have R5 := ((R5.fr0 fa3).fr0 fb3).fr g3 fun x hx hh => by have := n5 x hx; omega
 have R13 := ((R13.fr0 fa3).fr0 fb3).fr g3 fun x hx hh => by have := n13 x hx; omega
 have R14 := ((R14.fr0 fa3).fr0 fb3).fr g3 fun x hx hh => by have := n14 x hx; omega
 have c4 : Own hd3 t1 (aE.vals (⟨⟨b.Rule.Action, b.Rule.Proto, ⟨p2, q2, b.Rule.Src.xs⟩, ⟨p3, q3, b.Rule.Dst.xs⟩, ⟨p4, q4, b.Rule.SrcPorts.xs⟩, ⟨p5, q5, b.Rule.DstPorts.xs⟩, b.Rule.Both, b.Rule.Sid, b.Rule.Rev, b.Rule.Priority, b.Rule.Msg, b.Rule.Dir, b.Rule.Kind, ⟨p13, q13, b.Rule.Transforms.xs⟩, ⟨p14, q14, b.Rule.Contents.xs⟩, ⟨p15, q15, b.Rule.Tests.xs⟩, ⟨p16, q16, b.Rule.Flow.xs⟩, b.Rule.Threshold⟩, b.Src, b.Dst, b.SrcPorts, b.DstPorts⟩ : aE)) bU := od3
 have d4 := ((d3.fr0 fa3).fr0 fb3).fr g3 fun hh => by omega
 have k4 := aE.ok_fr _ _ _ F4 ok
 refine aC (c4.cells.at (j := 21) rfl) (aC (c4.cells.at (j := 22) rfl) ?_)
 refine vv b.Src k4.k1 L.l21 fun p21 q21 ha4 fa4 R21 n21 => ⟨_, _, _, rfl, aC ((c4.fr0 fa4).cells.at (j := 22) rfl) rfl, ?_⟩
 have za4 := fa4.size
 refine vv b.Dst (aE.ok_fr _ _ _ fa4 k4).k2 L.l22 fun p22 q22 hb4 fb4 R22 n22 => ⟨_, _, _, rfl, ?_⟩
 have zb4 := fb4.size
 refine cK ((c4.fr0 fa4).fr0 fb4) 21 (by show 21 < 25; omega) rfl fun hc4 fc4 zc4 oc4 => ?_
 refine cK oc4 22 (by show 22 < 25; omega) rfl fun hd4 fd4 zd4 od4 => ?_
 have zz4 := fc4.size
 have zy4 := fd4.size
 have g4 : Fr (fun x => x = t1.block) hb4 hd4 := fc4.trans fd4
 have F5 : Fr (fun _ => False) h hd4 := ((F4.trans fa4).trans fb4).tr g4 fun x hx hh => by omega
 have R21 := (R21.fr0 fb4).fr g4 fun x hx hh => by have := n21 x hx; omega
 have R22 := R22.fr g4 fun x hx hh => by have := n22 x hx; omega
 have R2 := ((R2.fr0 fa4).fr0 fb4).fr g4 fun x hx hh => by have := n2 x hx; omega
 have R3 := ((R3.fr0 fa4).fr0 fb4).fr g4 fun x hx hh => by have := n3 x hx; omega
 have R4 := ((R4.fr0 fa4).fr0 fb4).fr g4 fun x hx hh => by have := n4 x hx; omega
 have R5 := ((R5.fr0 fa4).fr0 fb4).fr g4 fun x hx hh => by have := n5 x hx; omega
 have R13 := ((R13.fr0 fa4).fr0 fb4).fr g4 fun x hx hh => by have := n13 x hx; omega
 have R14 := ((R14.fr0 fa4).fr0 fb4).fr g4 fun x hx hh => by have := n14 x hx; omega
 have R15 := ((R15.fr0 fa4).fr0 fb4).fr g4 fun x hx hh => by have := n15 x hx; omega
 have R16 := ((R16.fr0 fa4).fr0 fb4).fr g4 fun x hx hh => by have := n16 x hx; omega
 have c5 : Own hd4 t1 (aE.vals (⟨⟨b.Rule.Action, b.Rule.Proto, ⟨p2, q2, b.Rule.Src.xs⟩, ⟨p3, q3, b.Rule.Dst.xs⟩, ⟨p4, q4, b.Rule.SrcPorts.xs⟩, ⟨p5, q5, b.Rule.DstPorts.xs⟩, b.Rule.Both, b.Rule.Sid, b.Rule.Rev, b.Rule.Priority, b.Rule.Msg, b.Rule.Dir, b.Rule.Kind, ⟨p13, q13, b.Rule.Transforms.xs⟩, ⟨p14, q14, b.Rule.Contents.xs⟩, ⟨p15, q15, b.Rule.Tests.xs⟩, ⟨p16, q16, b.Rule.Flow.xs⟩, b.Rule.Threshold⟩, ⟨p21, q21, b.Src.xs⟩, ⟨p22, q22, b.Dst.xs⟩, b.SrcPorts, b.DstPorts⟩ : aE)) bU := od4
 have d5 := ((d4.fr0 fa4).fr0 fb4).fr g4 fun hh => by omega
 have k5 := aE.ok_fr _ _ _ F5 ok
 refine aC (c5.cells.at (j := 23) rfl) (aC (c5.cells.at (j := 24) rfl) ?_)
 refine xa b.SrcPorts k5.k3 L.l23 fun p23 q23 ha5 fa5 R23 n23 => ⟨_, _, _, rfl, aC ((c5.fr0 fa5).cells.at (j := 24) rfl) rfl, ?_⟩
 have za5 := fa5.size
 refine xa b.DstPorts (aE.ok_fr _ _ _ fa5 k5).k4 L.l24 fun p24 q24 hb5 fb5 R24 n24 => ⟨_, _, _, rfl, ?_⟩
 have zb5 := fb5.size
 refine cK ((c5.fr0 fa5).fr0 fb5) 23 (by show 23 < 25; omega) rfl fun hc5 fc5 zc5 oc5 => ?_
 refine cK oc5 24 (by show 24 < 25; omega) rfl fun hd5 fd5 zd5 od5 => ?_
 have zz5 := fc5.size
 have zy5 := fd5.size
 have g5 : Fr (fun x => x = t1.block) hb5 hd5 := fc5.trans fd5
 have F6 : Fr (fun _ => False) h hd5 := ((F5.trans fa5).trans fb5).tr g5 fun x hx hh => by omega
 have R23 := (R23.fr0 fb5).fr g5 fun x hx hh => by have := n23 x hx; omega
 have R24 := R24.fr g5 fun x hx hh => by have := n24 x hx; omega
 have R2 := ((R2.fr0 fa5).fr0 fb5).fr g5 fun x hx hh => by have := n2 x hx; omega
 have R3 := ((R3.fr0 fa5).fr0 fb5).fr g5 fun x hx hh => by have := n3 x hx; omega
 have R4 := ((R4.fr0 fa5).fr0 fb5).fr g5 fun x hx hh => by have := n4 x hx; omega
 have R5 := ((R5.fr0 fa5).fr0 fb5).fr g5 fun x hx hh => by have := n5 x hx; omega
 have R13 := ((R13.fr0 fa5).fr0 fb5).fr g5 fun x hx hh => by have := n13 x hx; omega
 have R14 := ((R14.fr0 fa5).fr0 fb5).fr g5 fun x hx hh => by have := n14 x hx; omega
 have R15 := ((R15.fr0 fa5).fr0 fb5).fr g5 fun x hx hh => by have := n15 x hx; omega
 have R16 := ((R16.fr0 fa5).fr0 fb5).fr g5 fun x hx hh => by have := n16 x hx; omega
 have R21 := ((R21.fr0 fa5).fr0 fb5).fr g5 fun x hx hh => by have := n21 x hx; omega
 have R22 := ((R22.fr0 fa5).fr0 fb5).fr g5 fun x hx hh => by have := n22 x hx; omega
 have c6 : Own hd5 t1 (aE.vals (⟨⟨b.Rule.Action, b.Rule.Proto, ⟨p2, q2, b.Rule.Src.xs⟩, ⟨p3, q3, b.Rule.Dst.xs⟩, ⟨p4, q4, b.Rule.SrcPorts.xs⟩, ⟨p5, q5, b.Rule.DstPorts.xs⟩, b.Rule.Both, b.Rule.Sid, b.Rule.Rev, b.Rule.Priority, b.Rule.Msg, b.Rule.Dir, b.Rule.Kind, ⟨p13, q13, b.Rule.Transforms.xs⟩, ⟨p14, q14, b.Rule.Contents.xs⟩, ⟨p15, q15, b.Rule.Tests.xs⟩, ⟨p16, q16, b.Rule.Flow.xs⟩, b.Rule.Threshold⟩, ⟨p21, q21, b.Src.xs⟩, ⟨p22, q22, b.Dst.xs⟩, ⟨p23, q23, b.SrcPorts.xs⟩, ⟨p24, q24, b.DstPorts.xs⟩⟩ : aE)) bU := od5
 have d6 := ((d5.fr0 fa5).fr0 fb5).fr g5 fun hh => by omega
 clear k0 k1 k2 k3 k4 k5
 refine (aB (c6.cells.at0 rfl) (aB (c6.cells.at rfl) (aC (c6.cells.at rfl) (aC (c6.cells.at rfl) (aC (c6.cells.at rfl) (aC (c6.cells.at rfl) (aN (c6.cells.at rfl) (aB (c6.cells.at rfl) (aB (c6.cells.at rfl) (aB (c6.cells.at rfl) (bH (c6.cells.at rfl) (aB (c6.cells.at rfl) (aB (c6.cells.at rfl) (aC (c6.cells.at rfl) (aC (c6.cells.at rfl) (aC (c6.cells.at rfl) (aC (c6.cells.at rfl) (aB (c6.cells.at rfl) (aB (c6.cells.at rfl) (aB (c6.cells.at rfl) (aB (c6.cells.at rfl) (aC (c6.cells.at rfl) (aC (c6.cells.at rfl) (aC (c6.cells.at rfl) (aC (c6.cells.at rfl) ?_)))))))))))))))))))))))))
 refine jr d6 (ws := aE.vals (⟨⟨b.Rule.Action, b.Rule.Proto, ⟨p2, q2, b.Rule.Src.xs⟩, ⟨p3, q3, b.Rule.Dst.xs⟩, ⟨p4, q4, b.Rule.SrcPorts.xs⟩, ⟨p5, q5, b.Rule.DstPorts.xs⟩, b.Rule.Both, b.Rule.Sid, b.Rule.Rev, b.Rule.Priority, b.Rule.Msg, b.Rule.Dir, b.Rule.Kind, ⟨p13, q13, b.Rule.Transforms.xs⟩, ⟨p14, q14, b.Rule.Contents.xs⟩, ⟨p15, q15, b.Rule.Tests.xs⟩, ⟨p16, q16, b.Rule.Flow.xs⟩, b.Rule.Threshold⟩, ⟨p21, q21, b.Src.xs⟩, ⟨p22, q22, b.Dst.xs⟩, ⟨p23, q23, b.SrcPorts.xs⟩, ⟨p24, q24, b.DstPorts.xs⟩⟩ : aE)) (by rfl) (by rfl) fun h9 f9 z9 o9 => ?_
 have zz9 := f9.size
 have F9 : Fr (fun _ => False) h h9 := F6.tr f9 fun x hx hh => by omega
 have k9 := aE.ok_fr _ _ _ F9 ok
 refine (aB (o9.cells.at0 rfl) (aB (o9.cells.at rfl) (aC (o9.cells.at rfl) (aC (o9.cells.at rfl) (aC (o9.cells.at rfl) (aC (o9.cells.at rfl) (aN (o9.cells.at rfl) (aB (o9.cells.at rfl) (aB (o9.cells.at rfl) (aB (o9.cells.at rfl) (bH (o9.cells.at rfl) (aB (o9.cells.at rfl) (aB (o9.cells.at rfl) (aC (o9.cells.at rfl) (aC (o9.cells.at rfl) (aC (o9.cells.at rfl) (aC (o9.cells.at rfl) (aB (o9.cells.at rfl) (aB (o9.cells.at rfl) (aB (o9.cells.at rfl) (aB (o9.cells.at rfl) (aC (o9.cells.at rfl) (aC (o9.cells.at rfl) (aC (o9.cells.at rfl) (aC (o9.cells.at rfl) ?_)))))))))))))))))))))))))
 refine hk (⟨⟨b.Rule.Action, b.Rule.Proto, ⟨p2, q2, b.Rule.Src.xs⟩, ⟨p3, q3, b.Rule.Dst.xs⟩, ⟨p4, q4, b.Rule.SrcPorts.xs⟩, ⟨p5, q5, b.Rule.DstPorts.xs⟩, b.Rule.Both, b.Rule.Sid, b.Rule.Rev, b.Rule.Priority, b.Rule.Msg, b.Rule.Dir, b.Rule.Kind, ⟨p13, q13, b.Rule.Transforms.xs⟩, ⟨p14, q14, b.Rule.Contents.xs⟩, ⟨p15, q15, b.Rule.Tests.xs⟩, ⟨p16, q16, b.Rule.Flow.xs⟩, b.Rule.Threshold⟩, ⟨p21, q21, b.Src.xs⟩, ⟨p22, q22, b.Dst.xs⟩, ⟨p23, q23, b.SrcPorts.xs⟩, ⟨p24, q24, b.DstPorts.xs⟩⟩ : aE) h9 F9 (fun h10 f10 => ?_) rfl
 exact ⟨⟨k9.k0.k0, k9.k0.k1, ((R2.fr f9 fun x hx hh => by have := n2 x hx; omega).fr f10 fun x hx hh => hh (by have := n2 x hx; omega)).sl m7 (by decide) k9.k0.k2.cap (fun x hx => by obtain ⟨m, hm, rfl⟩ := List.mem_iff_getElem.1 hx; obtain ⟨_, _, _, hx⟩ := k9.k0.k2.at_ m hm; exact vw hx), ((R3.fr f9 fun x hx hh => by have := n3 x hx; omega).fr f10 fun x hx hh => hh (by have := n3 x hx; omega)).sl m7 (by decide) k9.k0.k3.cap (fun x hx => by obtain ⟨m, hm, rfl⟩ := List.mem_iff_getElem.1 hx; obtain ⟨_, _, _, hx⟩ := k9.k0.k3.at_ m hm; exact vw hx), ((R4.fr f9 fun x hx hh => by have := n4 x hx; omega).fr f10 fun x hx hh => hh (by have := n4 x hx; omega)).sl mQ (by decide) k9.k0.k4.cap (fun x hx => by obtain ⟨m, hm, rfl⟩ := List.mem_iff_getElem.1 hx; obtain ⟨_, _, _, hx⟩ := k9.k0.k4.at_ m hm; exact vY hx), ((R5.fr f9 fun x hx hh => by have := n5 x hx; omega).fr f10 fun x hx hh => hh (by have := n5 x hx; omega)).sl mQ (by decide) k9.k0.k5.cap (fun x hx => by obtain ⟨m, hm, rfl⟩ := List.mem_iff_getElem.1 hx; obtain ⟨_, _, _, hx⟩ := k9.k0.k5.at_ m hm; exact vY hx), k9.k0.k6, k9.k0.k7, k9.k0.k8, k9.k0.k9, k9.k0.k10, k9.k0.k11, k9.k0.k12, ((R13.fr f9 fun x hx hh => by have := n13 x hx; omega).fr f10 fun x hx hh => hh (by have := n13 x hx; omega)).sl xK (by decide) k9.k0.k13.cap (fun x hx => by obtain ⟨m, hm, rfl⟩ := List.mem_iff_getElem.1 hx; obtain ⟨_, _, _, hx⟩ := k9.k0.k13.at_ m hm; exact HB hx), ((R14.fr f9 fun x hx hh => by have := n14 x hx; omega).fr f10 fun x hx hh => hh (by have := n14 x hx; omega)).sl qB (by decide) k9.k0.k14.cap (fun x hx => by obtain ⟨m, hm, rfl⟩ := List.mem_iff_getElem.1 hx; obtain ⟨_, _, _, hx⟩ := k9.k0.k14.at_ m hm; exact BX hx), ((R15.fr f9 fun x hx hh => by have := n15 x hx; omega).fr f10 fun x hx hh => hh (by have := n15 x hx; omega)).sl ww (by decide) k9.k0.k15.cap (fun x hx => by obtain ⟨m, hm, rfl⟩ := List.mem_iff_getElem.1 hx; obtain ⟨_, _, _, hx⟩ := k9.k0.k15.at_ m hm; exact GN hx), ((R16.fr f9 fun x hx hh => by have := n16 x hx; omega).fr f10 fun x hx hh => hh (by have := n16 x hx; omega)).sl sC (by decide) k9.k0.k16.cap (fun x hx => by obtain ⟨m, hm, rfl⟩ := List.mem_iff_getElem.1 hx; obtain ⟨_, _, _, hx⟩ := k9.k0.k16.at_ m hm; exact Db hx), zh k9.k0.k17⟩, ((R21.fr f9 fun x hx hh => by have := n21 x hx; omega).fr f10 fun x hx hh => hh (by have := n21 x hx; omega)).sl rx (by decide) k9.k1.cap (fun x hx => by obtain ⟨m, hm, rfl⟩ := List.mem_iff_getElem.1 hx; obtain ⟨_, _, _, hx⟩ := k9.k1.at_ m hm; exact zC hx), ((R22.fr f9 fun x hx hh => by have := n22 x hx; omega).fr f10 fun x hx hh => hh (by have := n22 x hx; omega)).sl rx (by decide) k9.k2.cap (fun x hx => by obtain ⟨m, hm, rfl⟩ := List.mem_iff_getElem.1 hx; obtain ⟨_, _, _, hx⟩ := k9.k2.at_ m hm; exact zC hx), ((R23.fr f9 fun x hx hh => by have := n23 x hx; omega).fr f10 fun x hx hh => hh (by have := n23 x hx; omega)).sl tX (by decide) k9.k3.cap (fun x hx => by obtain ⟨m, hm, rfl⟩ := List.mem_iff_getElem.1 hx; obtain ⟨_, _, _, hx⟩ := k9.k3.at_ m hm; exact B9 hx), ((R24.fr f9 fun x hx hh => by have := n24 x hx; omega).fr f10 fun x hx hh => hh (by have := n24 x hx; omega)).sl tX (by decide) k9.k4.cap (fun x hx => by obtain ⟨m, hm, rfl⟩ := List.mem_iff_getElem.1 hx; obtain ⟨_, _, _, hx⟩ := k9.k4.at_ m hm; exact B9 hx)⟩
end Go.Proofs.YtjmfpeiidlpngaaGreatDoor
namespace Go.Proofs.YtjmfpeiidlpngaaGreatDoor
set_option linter.unusedSimpArgs false
set_option linter.unusedVariables false
set_option maxRecDepth 20000
open Go
abbrev Ent (κ : Type) := κ × Value × Nat
section
variable {P : Program} {κ : Type} {enc : κ → Value}
def mkE (enc : κ → Value) (e : Ent κ) : MapEntry := ⟨enc e.1, e.2.1, e.2.2⟩
def prE (e : Ent κ) : κ × Value := (e.1, e.2.1)
def rU [DecidableEq κ] (a : κ) : List (Ent κ) → Nat → Option (Nat × Value)
 | [], _ => none
 | e :: es, i => if a = e.1 then some (i, e.2.1) else rU a es (i + 1)
structure IC (P : Program) (kt : TypeId) {κ : Type} [DecidableEq κ] (enc : κ → Value) : Prop where
 same : ∀ a, Instr.sameBits 10000 (enc a) (enc a) = true
 check : ∀ (b : Bool) (a : κ) {h : aA} {K : Unit → aA → Prop}, K () h → wpH P (Instr.checkKey b 10000 kt (enc a)) K h
 find : ∀ (a : κ) (es : List (Ent κ)) {h : aA} {K : Option (Nat × Value) → aA → Prop}, K (rU a es 0) h → wpH P (Instr.findKey kt (enc a) (es.map (mkE enc))) K h
structure Km {κ : Type} (es : List (Ent κ)) (clock : Nat) : Prop where
 keys : (es.map (·.1)).Nodup
 borns : (es.map (·.2.2)).Nodup
 lt : ∀ e ∈ es, e.2.2 < clock
def D8 (enc : κ → Value) (h : aA) (r : Nat) (es : List (Ent κ)) (clock : Nat) : Prop := h[r]? = some (.map (es.map (mkE enc)).toArray clock)
def uL (enc : κ → Value) (h : aA) (r : Nat) (m : List (κ × Value)) : Prop := ∃ es clock, D8 enc h r es clock ∧ Km es clock ∧ es.map prE = m
def oy {κ : Type} [DecidableEq κ] (m : List (κ × Value)) (a : κ) : Option Value := (m.find? fun e => decide (e.1 = a)).map (·.2)
def B1 {κ : Type} [DecidableEq κ] (m : List (κ × Value)) (a : κ) (v : Value) : List (κ × Value) := if (oy m a).isSome then m.map (fun e => if e.1 = a then (e.1, v) else e) else m ++ [(a, v)]
theorem uL.fr {S : Nat → Prop} {h h' : aA} {r : Nat} {m : List (κ × Value)} (I : uL enc h r m) (f : Fr S h h') (hn : ¬ S r) : uL enc h' r m := by
 obtain ⟨es, c, h1, h2, h3⟩ := I; exact ⟨es, c, f.get h1 hn, h2, h3⟩
theorem uL.lt {h : aA} {r : Nat} {m : List (κ × Value)} (I : uL enc h r m) : r < h.size := by
 obtain ⟨es, c, h1, _⟩ := I; exact pD h1
section
variable [DecidableEq κ]
theorem zL (a : κ) : ∀ (es : List (Ent κ)) (i : Nat), (rU a es i).map (·.2) = oy (es.map prE) a
 | [], _ => rfl
 | e :: es, i => by
  unfold rU oy
  rw [List.map_cons, List.find?_cons]
  by_cases h : a = e.1
  ·rw [if_pos h]; simp [prE, h]
  ·rw [if_neg h, zL a es (i + 1)]
   have : decide ((prE e).1 = a) = false := by rw [decide_eq_false_iff_not]; exact fun (h' : e.1 = a) => h h'.symm
   rw [this]; rfl
theorem zB (a : κ) : ∀ (es : List (Ent κ)) (i j : Nat) (v : Value), rU a es i = some (j, v) → ∃ k, ∃ hk : k < es.length, j = i + k ∧ es[k].1 = a ∧ es[k].2.1 = v
 | [], _, _, _, h => by cases h
 | e :: es, i, j, v, h => by
  unfold rU at h
  by_cases ha : a = e.1
  ·rw [if_pos ha] at h
   simp only [Option.some.injEq, Prod.mk.injEq] at h
   exact ⟨0, by simp, by omega, ha.symm, h.2⟩
  ·rw [if_neg ha] at h
   obtain ⟨k, hk, e1, e2, e3⟩ := zB a es (i + 1) j v h
   exact ⟨k + 1, by simp; omega, by omega, e2, e3⟩
theorem vr (a : κ) : ∀ (es : List (Ent κ)) (i : Nat), rU a es i = none → ∀ e ∈ es, e.1 ≠ a
 | [], _, _, _, he => by cases he
 | e :: es, i, h, x, hx => by
  unfold rU at h
  by_cases ha : a = e.1
  ·rw [if_pos ha] at h; cases h
  ·rw [if_neg ha] at h
   rcases List.mem_cons.1 hx with rfl | hx
   ·exact fun h => ha h.symm
   ·exact vr a es (i + 1) h x hx
end
theorem yc {h : aA} {r : Nat} {o : Obj} (ho : h[r]? = some o) (hn : wW o = true) {K : Obj → aA → Prop} (hk : K o h) : wpH P (getObj r) K h := ⟨o, ho, hn, hk⟩
theorem yu {h : aA} {r : Nat} {o o' : Obj} (ho : h[r]? = some o') (hn : wW o' = true) {K : Unit → aA → Prop} (hk : K () (h.setIfInBounds r o)) : wpH P (setObj r o) K h := ⟨⟨o', ho, hn⟩, hk⟩
theorem vO [DecidableEq κ] {mt kt et : TypeId} (T : IC P kt enc) (hu : P.underlying mt = some (.map kt et)) {z : Value} (hz : ∀ {h : aA} {K : Value → aA → Prop}, K z h → wpH P (zeroValue et) K h)
  {h : aA} {r : Nat} {m : List (κ × Value)} (I : uL enc h r m) (a : κ) (ok : Bool) {K : Value → aA → Prop}
  (hk : K (if ok then .tuple #[(oy m a).getD z, .bool (oy m a).isSome] else (oy m a).getD z) h) : yB P mt (.map (some r)) (enc a) ok h K := by
 obtain ⟨es, c, h1, h2, rfl⟩ := I
 unfold yB Instr.lookup
 simp only [bind]
 rw [aO]; refine bP hu ?_
 simp only
 rw [aO]; refine yc h1 rfl ?_
 simp only [pure, Sem.bind]
 rw [aO]; refine T.check _ a ?_
 rw [aO]
 refine T.find a es ?_
 rw [← zL a es 0] at hk
 cases hf : rU a es 0 with
 | none =>
  rw [hf] at hk
  simp only
  rw [aO]; refine hz ?_
  exact hk
 | some x =>
  rw [hf] at hk
  exact hk
theorem Kq {es : List (Ent κ)} {k : Nat} (hk : k < es.length) (f : MapEntry → MapEntry) (e' : Ent κ) (h : f (mkE enc es[k]) = mkE enc e') : ((es.map (mkE enc)).toArray.modify k f) = ((es.set k e').map (mkE enc)).toArray := by
 apply Array.ext_getElem?
 intro i
 rw [Array.getElem?_modify, List.getElem?_toArray, List.getElem?_toArray, List.getElem?_map, List.getElem?_map, List.getElem?_set]
 by_cases e : k = i
 ·subst e
  rw [if_pos rfl, if_pos rfl, if_pos hk, List.getElem?_eq_getElem hk]
  simp [h]
 ·rw [if_neg e, if_neg e]
theorem Bf {α β : Type} (f : α → β) (l : List α) (k : Nat) (x : α) : (l.set k x).map f = (l.map f).set k (f x) := List.map_set
theorem xS {α : Type} (l : List α) (k : Nat) (hk : k < l.length) : l.set k l[k] = l := by
 apply List.ext_getElem (by simp)
 intro i h1 h2
 rw [List.getElem_set]
 split
 ·rename_i e; subst e; rfl
 ·rfl
theorem H8 [DecidableEq κ] {m : List (κ × Value)} (nd : (m.map (·.1)).Nodup) {k : Nat} (hk : k < m.length) {a : κ} (ha : m[k].1 = a) (v : Value) : m.map (fun e => if e.1 = a then (e.1, v) else e) = m.set k (a, v) := by
 apply List.ext_getElem (by simp)
 intro i h1 h2
 have hi : i < m.length := by simpa using h1
 rw [List.getElem_map, List.getElem_set]
 split
 ·rename_i e
  split
  ·rw [e]
  ·rename_i hne
   have : i = k := by
    have := (List.getElem_inj (h₀ := by simpa using hi) (h₁ := by simpa using hk) nd).1 (by simp only [List.getElem_map]; rw [e, ha])
    exact this
   exact absurd this.symm hne
 ·rename_i e
  split
  ·rename_i e2; subst e2; exact absurd ha e
  ·rfl
theorem rp [DecidableEq κ] {m : List (κ × Value)} {a : κ} : (oy m a).isSome = true ↔ ∃ e ∈ m, e.1 = a := by
 unfold oy
 rw [Option.isSome_map, List.find?_isSome]
 simp
theorem zY [DecidableEq κ] {mt kt et : TypeId} (T : IC P kt enc) (hu : P.underlying mt = some (.map kt et)) {h : aA} {r : Nat} {m : List (κ × Value)} (I : uL enc h r m) (a : κ) (v : Value) {K : aA → Prop}
  (hk : ∀ h', Fr (fun b => b = r) h h' → h'.size = h.size → uL enc h' r (B1 m a v) → K h') : qC P mt (.map (some r)) (enc a) v h K := by
 obtain ⟨es, c, h1, h2, rfl⟩ := I
 unfold qC Instr.mapUpdate
 simp only [bind]
 rw [aO]; refine bP hu ?_
 simp only
 rw [aO]; refine yc h1 rfl ?_
 simp only
 rw [aO]; refine T.check _ a ?_
 rw [aO]
 refine T.find a es ?_
 cases hf : rU a es 0 with
 | none =>
  simp only
  refine yu h1 rfl (hk _ (Fr.set _ _ rfl) (by simp) ⟨es ++ [(a, v, c)], c + 1, ?_, ?_, ?_⟩)
  ·unfold D8
   rw [lk h1]; simp [mkE]
  ·have hn := vr a es 0 hf
   refine ⟨?_, ?_, ?_⟩
   ·rw [List.map_append, List.nodup_append]
    refine ⟨h2.keys, by simp, fun x hx y hy => ?_⟩
    obtain ⟨e, he, rfl⟩ := List.mem_map.1 hx
    simp at hy; subst hy
    exact hn e he
   ·rw [List.map_append, List.nodup_append]
    refine ⟨h2.borns, by simp, fun x hx y hy => ?_⟩
    obtain ⟨e, he, rfl⟩ := List.mem_map.1 hx
    simp at hy; subst hy
    have := h2.lt e he; omega
   ·intro e he
    rcases List.mem_append.1 he with he | he
    ·have := h2.lt e he; omega
    ·simp at he; subst he; simp
  ·have hn := vr a es 0 hf
   have : ¬ (oy (es.map prE) a).isSome = true := fun h => by
    obtain ⟨e, he, ha⟩ := rp.1 h
    obtain ⟨x, hx, rfl⟩ := List.mem_map.1 he
    exact hn x hx ha
   unfold B1
   rw [if_neg this]; simp [prE]
 | some x =>
  obtain ⟨j, y⟩ := x
  obtain ⟨k, hkl, ej, ea, ev⟩ := zB a es 0 j y hf
  have ej : j = k := by omega
  subst ej
  simp only
  rw [aO]
  have hkey : (((es.map (mkE enc)).toArray[j]?).map (·.key)).getD (enc a) = enc a := by
   simp [hkl, mkE, ea]
  unfold Instr.keyThatStays
  rw [hkey, T.same]
  simp only [if_true]
  refine yu h1 rfl (hk _ (Fr.set _ _ rfl) (by simp) ⟨es.set j (a, v, es[j].2.2), c, ?_, ?_, ?_⟩)
  ·unfold D8
   rw [lk h1, Kq hkl _ (a, v, es[j].2.2) (by simp [mkE])]
  ·refine ⟨?_, ?_, fun e he => ?_⟩
   ·rw [Bf]; show ((es.map (·.1)).set j a).Nodup
    have : (es.map (·.1)).set j a = es.map (·.1) := by
     have := xS (es.map (·.1)) j (by simpa using hkl)
     simp only [List.getElem_map, ea] at this; exact this
    rw [this]; exact h2.keys
   ·rw [Bf]; show ((es.map (·.2.2)).set j es[j].2.2).Nodup
    have : (es.map (·.2.2)).set j es[j].2.2 = es.map (·.2.2) := by
     have := xS (es.map (·.2.2)) j (by simpa using hkl)
     simp only [List.getElem_map] at this; exact this
    rw [this]; exact h2.borns
   ·rcases List.mem_or_eq_of_mem_set he with he | rfl
    ·exact h2.lt e he
    ·exact (h2.lt _ (List.getElem_mem hkl) : es[j].2.2 < c)
  ·have hs : (oy (es.map prE) a).isSome = true := rp.2 ⟨prE es[j], List.mem_map_of_mem (List.getElem_mem hkl), ea⟩
   unfold B1
   rw [if_pos hs, H8 (k := j) (a := a) (by rw [List.map_map]; exact h2.keys) (by simpa using hkl) (by simp [prE, ea]) v, Bf]
   rfl
theorem BF {h : aA} {K : Nat → aA → Prop} (enc : κ → Value) (hk : ∀ r h', Fr (fun _ => False) h h' → r = h.size → uL enc h' r [] → K r h') : CU h K :=
 hk _ _ (Fr.push _ _ _) rfl ⟨[], 0, cW, ⟨by simp, by simp, fun _ h => by cases h⟩, rfl⟩
end
end Go.Proofs.YtjmfpeiidlpngaaGreatDoor
namespace Go.Proofs.YtjmfpeiidlpngaaGreatDoor
set_option linter.unusedSimpArgs false
set_option linter.unusedVariables false
set_option maxRecDepth 20000
open Go
section
variable {P : Program}
theorem AJ {et : TypeId} {i : TypeInfo} {z : Value} (hi : P.info? et = some i) (hz : i.zero = some z) {h : aA} {K : Value → aA → Prop} (hk : K z h) : wpH P (zeroValue et) K h := by
 unfold zeroValue; simp only [bind]; rw [aO]; refine j8 hi ?_
 rw [hz]; exact hk
end
end Go.Proofs.YtjmfpeiidlpngaaGreatDoor
namespace Go.Proofs.YtjmfpeiidlpngaaGreatDoor
set_option linter.unusedSimpArgs false
set_option linter.unusedVariables false
set_option maxRecDepth 20000
open Go
section
variable {P : Program} {kt : TypeId}
theorem CL {v : Value} {d : TypeDesc} (hu : P.underlying kt = some d) (h1 : ∀ l t, d ≠ .array l t) (h2 : ∀ f, d ≠ .struct f) (h3 : ∀ m, d ≠ .interface m) (b : Bool) {h : aA} {K : Unit → aA → Prop} (hk : K () h) : wpH P (Instr.checkKey b (9999 + 1) kt v) K h := by
 unfold Instr.checkKey
 simp only [bind]
 rw [aO]
 refine bP hu ?_
 cases d <;> first | exact hk | exact absurd rfl (h1 _ _) | exact absurd rfl (h2 _) | exact absurd rfl (h3 _)
theorem wi {κ : Type} [DecidableEq κ] {enc : κ → Value} {d : TypeDesc} (hs : ∀ a b, Instr.sameNow d (enc a) (enc b) = some (decide (a = b))) (a : κ) : ∀ (es : List (Ent κ)) (i : Nat), Instr.findNow d (enc a) (es.map (mkE enc)) i = some (rU a es i)
 | [], _ => rfl
 | e :: es, i => by
  rw [List.map_cons]
  unfold Instr.findNow rU
  show (match Instr.sameNow d (enc a) (enc e.1) with | some true => some (some (i, e.2.1)) | some false => Instr.findNow d (enc a) (es.map (mkE enc)) (i + 1) | none => none) = _
  rw [hs]
  by_cases h : a = e.1
  ·rw [decide_eq_true h, if_pos h]
  ·rw [decide_eq_false h, if_neg h]
   exact wi hs a es (i + 1)
theorem EO {κ : Type} [DecidableEq κ] {enc : κ → Value} {d : TypeDesc} (hu : P.underlying kt = some d) (hs : ∀ a b, Instr.sameNow d (enc a) (enc b) = some (decide (a = b))) (a : κ) (es : List (Ent κ)) {h : aA} {K : Option (Nat × Value) → aA → Prop} (hk : K (rU a es 0) h) : wpH P (Instr.findKey kt (enc a) (es.map (mkE enc))) K h := by
 unfold Instr.findKey
 simp only [bind]
 rw [aO]
 refine bP hu ?_
 rw [wi hs a es 0]
 exact hk
def yA (k : IntKind) (n : Int) : Value := .int k n
theorem HA {k : IntKind} (hu : P.underlying kt = some (.int k)) : IC P kt (yA k) :=
  ⟨fun a => by show (k == k && a == a) = true; simp, fun b a {h K} hk => CL hu (fun _ _ h => by cases h) (fun _ h => by cases h) (fun _ h => by cases h) b hk,
   fun a es {h K} hk => EO hu (fun a b => by show (if k = k then some (a == b) else none) = _; rw [if_pos rfl]; congr 1) a es hk⟩
end
section
variable {κ : Type} [DecidableEq κ]
theorem Ev {m : List (κ × Value)} {a : κ} (h : oy m a = none) : ∀ e ∈ m, e.1 ≠ a := fun e he hk => by
 have : (oy m a).isSome = true := rp.2 ⟨e, he, hk⟩
 rw [h] at this; cases this
theorem Fe {m : List (κ × Value)} {a : κ} {v : Value} (h : oy m a = some v) : (a, v) ∈ m := by
 unfold oy at h
 rw [Option.map_eq_some_iff] at h
 obtain ⟨e, h1, h2⟩ := h
 have h3 := List.mem_of_find?_eq_some h1
 have h4 := List.find?_some h1
 rw [decide_eq_true_eq] at h4
 rw [← h4, ← h2]; exact h3
theorem HL {m : List (κ × Value)} {a : κ} (h : ∀ e ∈ m, e.1 ≠ a) (v : Value) : B1 m a v = m ++ [(a, v)] := by
 have hs : ¬ (oy m a).isSome = true := fun hh => by
  obtain ⟨e, he, ek⟩ := rp.1 hh
  exact h e he ek
 unfold B1
 rw [if_neg hs]
end
end Go.Proofs.YtjmfpeiidlpngaaGreatDoor
namespace Go.Proofs.YtjmfpeiidlpngaaGreatDoor.Fp
set_option linter.unusedSimpArgs false
set_option linter.unusedVariables false
set_option maxRecDepth 20000
open Go
def xD (c : UInt8) : Bool := (decide (97 ≤ c.toNat) && decide (c.toNat ≤ 122)) || (decide (65 ≤ c.toNat) && decide (c.toNat ≤ 90)) || (decide (48 ≤ c.toNat) && decide (c.toNat ≤ 57)) || c.toNat == 32
theorem Fv [Gh] (c : UInt8) {h : aA} {Q : Value → aA → Prop} (hk : Q (.bool (xD c)) h) : aD Tryz.prog ko #[.int .u8 c.toNat] h Q := by
 refine uk _ ?_
 simp only [oH]
 unfold xD at hk
 have e32 : ((c.toNat : Int) == 32) = (c.toNat == 32) := by rw [Bool.eq_iff_iff, beq_iff_eq, beq_iff_eq]; omega
 have d1 : decide ((c.toNat : Int) ≥ 97) = decide (97 ≤ c.toNat) := by rw [decide_eq_decide]; omega
 have d2 : decide ((c.toNat : Int) ≤ 122) = decide (c.toNat ≤ 122) := by rw [decide_eq_decide]; omega
 have d3 : decide ((c.toNat : Int) ≥ 65) = decide (65 ≤ c.toNat) := by rw [decide_eq_decide]; omega
 have d4 : decide ((c.toNat : Int) ≤ 90) = decide (c.toNat ≤ 90) := by rw [decide_eq_decide]; omega
 have d5 : decide ((c.toNat : Int) ≥ 48) = decide (48 ≤ c.toNat) := by rw [decide_eq_decide]; omega
 have d6 : decide ((c.toNat : Int) ≤ 57) = decide (c.toNat ≤ 57) := by rw [decide_eq_decide]; omega
 rw [d1, d2, d3, d4, d5, d6, e32]
 revert hk
 cases decide (97 ≤ c.toNat) <;> cases decide (c.toNat ≤ 122) <;> cases decide (65 ≤ c.toNat) <;> cases decide (c.toNat ≤ 90) <;> cases decide (48 ≤ c.toNat) <;> cases decide (c.toNat ≤ 57) <;> intro hk <;> simpa using hk
def nJ (seen : List UInt8) : Array Value := ((List.range 256).map fun i => Value.bool (seen.contains (UInt8.ofNat i))).toArray
theorem CK (seen : List UInt8) : (nJ seen).size = 256 := by simp [nJ]
theorem EJ (seen : List UInt8) (c : UInt8) : (nJ seen)[c.toNat]? = some (.bool (seen.contains c)) := by
 have hc := c.toNat_lt
 unfold nJ
 rw [List.getElem?_toArray, List.getElem?_map, List.getElem?_range (by omega)]
 simp
theorem E0 (seen : List UInt8) (c : UInt8) : (nJ seen).setIfInBounds c.toNat (.bool true) = nJ (c :: seen) := by
 have hc := c.toNat_lt
 apply Array.ext_getElem?
 intro i
 rw [Array.getElem?_setIfInBounds]
 unfold nJ
 rw [List.getElem?_toArray, List.getElem?_map, List.getElem?_toArray, List.getElem?_map]
 by_cases hi : i < 256
 ·rw [List.getElem?_range hi]
  by_cases e : c.toNat = i
  ·subst e; simp [hc]
  ·rw [if_neg e]
   have : (UInt8.ofNat i == c) = false := by
    rw [beq_eq_false_iff_ne]
    intro h; apply e; rw [← h]; simp; omega
   simp only [Option.map_some, List.contains_cons, this, Bool.false_or]
 ·rw [List.getElem?_eq_none (by simp; omega), if_neg (by omega)]; rfl
def ot : List UInt8 → List UInt8 → Int → Int
 | [], _, n => n
 | c :: r, seen, n => ot r (c :: seen) (n + (if seen.contains c then 0 else 16) - (if xD c then 8 else 0))
def sj (s : List UInt8) : Int := if s = [] then 0 else if 1 > ot s [] s.length then 1 else ot s [] s.length
theorem Ih {h : aA} {a : Addr} {T : TypeId} {seen : List UInt8} (o : Own h a (nJ seen).toList T) (c : UInt8) : hcell h (a.add ((c.toNat : Int).toNat * 1)) = some (.bool (seen.contains c)) := by
 rw [Int.toNat_natCast, Nat.mul_one]
 refine o.cells.at ?_
 have := EJ seen c
 simpa using this
theorem Es : (nJ []).toList = List.replicate 256 (Value.bool false) := by
 unfold nJ
 simp only [List.contains_nil]
 rw [List.map_const']; simp
theorem He (seen : List UInt8) (c : UInt8) : (nJ seen).toList.set c.toNat (.bool true) = (nJ (c :: seen)).toList := by
 rw [← E0]; simp
theorem AG (s seen : List UInt8) (n : Int) (k : Nat) (hk : k < s.length) : ot (s.drop k) seen n = ot (s.drop (k + 1)) (s.getD k 0 :: seen) (n + (if seen.contains (s.getD k 0) then 0 else 16) - (if xD (s.getD k 0) then 8 else 0)) := by
 rw [List.drop_eq_getElem_cons hk, ot]
 rw [List.getD_eq_getElem?_getD, List.getElem?_eq_getElem hk]; rfl
theorem Cx {seen : List UInt8} {c : UInt8} (h : seen.contains c = true) : nJ (c :: seen) = nJ seen := by
 unfold nJ
 congr 1
 apply List.map_congr_left
 intro i _
 rw [List.contains_cons]
 by_cases e : UInt8.ofNat i = c
 ·rw [e, h]; simp
 ·have : (UInt8.ofNat i == c) = false := by simpa using e
  rw [this, Bool.false_or]
theorem DD [Gh] (s : List UInt8) (hs : s.length < 2 ^ 40) {h : aA} {Q : Value → aA → Prop} (hk : ∀ h', Fr (fun _ => False) h h' → Q (.int .i64 (sj s)) h') :
  aD Tryz.prog iP #[.string (bs s)] h Q := by
 refine uG _ ?_
 unfold oY
 refine Bw (fun e => ?_) (fun e => ?_)
 ·subst e; exact hk _ (Fr.refl _ _)
 refine aZ fun a h1 f1 ha o1 => ?_
 have o1 : Own h1 a (List.replicate 256 (Value.bool false)) pJ := Ku (by as_aux_lemma => kernel_rfl) o1
 rw [bR]
 rw [← Es] at o1
 refine aJ.mk (fun st h' => ∃ (k : Nat) (seen : List UInt8), st.2 = k ∧ k ≤ s.length ∧ Fr (fun _ => False) h h' ∧ Own h' a (nJ seen).toList pJ ∧ ot (s.drop k) seen st.1 = ot s [] s.length ∧ st.1 ≤ s.length + 16 * k ∧ (s.length : Int) - 8 * k ≤ st.1) (fun st _ => s.length - st.2.toNat)
  ⟨0, [], rfl, by omega, f1, o1, rfl, by simp, by simp⟩ ?_
 rintro ⟨n, i⟩ h2 ⟨k, seen, hi, hkl, f2, o2, hg, hn1, hn2⟩
 simp only at hi hg hn1 hn2
 subst hi
 unfold kH
 refine ifD (fun hlt => ?_) (fun hge => ?_)
 ·have hks : k < s.length := by omega
  have hc := (s.getD k 0).toNat_lt
  refine Br _ _ _ (by omega) (by omega) ?_
  rw [Int.toNat_natCast]
  refine ⟨by omega, by omega, aN (Ih o2 _) ?_⟩
  have rest : ∀ (n' : Int) (h3 : aA), Fr (fun _ => False) h h3 → Own h3 a (nJ (s.getD k 0 :: seen)).toList pJ → n' = n + (if seen.contains (s.getD k 0) then 0 else 16) →
    gC (bs s) a n' k s.length k Q (fun s' h' => (∃ (k : Nat) (seen : List UInt8), s'.2 = k ∧ k ≤ s.length ∧ Fr (fun _ => False) h h' ∧ Own h' a (nJ seen).toList pJ ∧ ot (s.drop k) seen s'.1 = ot s [] s.length ∧ s'.1 ≤ s.length + 16 * k ∧ (s.length : Int) - 8 * k ≤ s'.1) ∧ s.length - s'.2.toNat < s.length - ((k : Int)).toNat) h3 := by
   intro n' h3 f3 o3 en
   unfold gC
   refine Br _ _ _ (by omega) (by omega) ?_
   rw [Int.toNat_natCast]
   refine Fv _ ⟨_, rfl, ?_⟩
   have hb : (if seen.contains (s.getD k 0) then (0 : Int) else 16) ≤ 16 ∧ 0 ≤ (if seen.contains (s.getD k 0) then (0 : Int) else 16) := by split <;> omega
   rw [AG s seen n k hks, ← en] at hg
   rw [wr (x := (k : Int) + 1) (by omega) (by omega)]
   refine ifB (fun hcm => ?_) (fun hcm => ?_)
   ·rw [wr (by omega) (by omega)]
    rw [hcm, if_pos rfl] at hg
    exact ⟨⟨k + 1, _, by simp, by omega, f3, o3, hg, by simp only; omega, by simp only; omega⟩, by simp only; omega⟩
   ·rw [hcm, if_neg (by simp), Int.sub_zero] at hg
    exact ⟨⟨k + 1, _, by simp, by omega, f3, o3, hg, by simp only; omega, by simp only; omega⟩, by simp only; omega⟩
  refine ifN (fun hs0 => ?_) (fun hs1 => ?_)
  ·refine Br _ _ _ (by omega) (by omega) ?_
   rw [Int.toNat_natCast]
   refine ⟨by omega, by omega, ?_⟩
   rw [Int.toNat_natCast, Nat.mul_one]
   refine cK o2 _ (by rw [Array.length_toList, CK]; omega) rfl fun h3 f3 _ o3 => ?_
   rw [He] at o3
   rw [wr (by omega) (by omega)]
   have hab := ha
   refine rest _ h3 (f2.tr f3 (fun x hx e => ?_)) o3 (by rw [hs0]; simp)
   subst e; rw [ha] at hx; exact absurd hx (Nat.lt_irrefl _)
  ·refine rest _ h2 f2 (by rw [Cx hs1]; exact o2) (by rw [hs1]; simp)
 ·have : k = s.length := by omega
  subst this
  unfold kZ
  rw [List.drop_length] at hg
  have : sj s = (if (1 : Int) > n then (1 : Int) else n) := by
   unfold sj
   rw [if_neg e, ← hg]; rfl
  rw [← this]
  exact hk _ f2
end Go.Proofs.YtjmfpeiidlpngaaGreatDoor.Fp
namespace Go.Proofs.YtjmfpeiidlpngaaGreatDoor.Fp
set_option linter.unusedSimpArgs false
set_option linter.unusedVariables false
set_option maxRecDepth 20000
open Go
theorem Ei : gM Tryz.prog rq C4 Tryz.t4 (.bool false) := ⟨Tryz.underlying102, by kernel_rfl, by kernel_rfl, by kernel_rfl, by decide⟩
def jJ (c : UInt8) : UInt8 := if 65 ≤ c.toNat ∧ c.toNat ≤ 90 then c + 32 else c
theorem H5 (c : UInt8) (h1 : 65 ≤ c.toNat) (h2 : c.toNat ≤ 90) : ((jJ c).toNat : Int) = c.toNat + 32 := by
 unfold jJ; rw [if_pos ⟨h1, h2⟩, UInt8.toNat_add]
 have : (32 : UInt8).toNat = 32 := rfl
 rw [this]; omega
def oB (s : List UInt8) (k : Nat) : List UInt8 := (s.take k).map jJ ++ s.drop k
theorem wS (s : List UInt8) (k : Nat) : (oB s k).length = s.length := by unfold oB; simp; omega
theorem CR (s : List UInt8) : oB s 0 = s := by simp [oB]
theorem E1 (s : List UInt8) : oB s s.length = s.map jJ := by simp [oB]
theorem Ax (s : List UInt8) (k : Nat) (hk : k < s.length) : (oB s k)[k]? = some (s.getD k 0) := by
 unfold oB
 rw [List.getElem?_append_right (by simp; omega)]
 simp [Nat.min_eq_left (Nat.le_of_lt hk), hk]
theorem yx (s : List UInt8) (k : Nat) (hk : k < s.length) : oB s (k + 1) = (oB s k).set k (jJ (s.getD k 0)) := by
 apply List.ext_getElem?
 intro i
 unfold oB
 rw [List.getElem?_set]
 by_cases h1 : i < k
 ·rw [List.getElem?_append_left (by simp; omega), if_neg (by omega), List.getElem?_append_left (by simp; omega)]
  simp [h1, Nat.lt_succ_of_lt h1]
 ·by_cases h2 : i = k
  ·subst h2
   rw [List.getElem?_append_left (by simp; omega), if_pos rfl, if_pos (by simp; omega)]
   simp [hk]
  ·rw [List.getElem?_append_right (by simp; omega), if_neg (by omega), List.getElem?_append_right (by simp; omega)]
   simp only [List.length_map, List.length_take, List.getElem?_drop]
   congr 1; omega
def Be (h : aA) (a : Option Addr) (c : Nat) (l : List UInt8) : Prop := qQ h a c 1 (dX l)
theorem Be.at {h : aA} {a : Option Addr} {c : Nat} {l : List UInt8} (o : Be h a c l) {k : Nat} (hk : k < l.length) : ∃ ad, a = some ad ∧ hcell h (ad.add k) = some (.int .u8 (l.getD k 0).toNat) := by
 cases a with
 | none => have := o.1; simp [dX] at this; subst this; simp at hk
 | some ad =>
  refine ⟨ad, rfl, ?_⟩
  refine o.cells.at ?_
  simp [dX, vx, hk]
theorem Be.set {h : aA} {ad : Addr} {c : Nat} {l : List UInt8} (o : Be h (some ad) c l) {k : Nat} (hk : k < l.length) (b : UInt8) {K : aA → Prop}
  (hK : ∀ h', Fr (InA (some ad)) h h' → Be h' (some ad) c (l.set k b) → K h') : st1 h (ad.add k) (.int .u8 b.toNat) K := by
 obtain ⟨h1, h2, ds, t, fr, hfr, hg, hc1, hc2, hc3⟩ := o
 have e : ad.add k = ⟨ad.block, k, none⟩ := by
  obtain ⟨b, o, s⟩ := ad; simp only at h1 h2; subst h1 h2; rw [gG, Nat.zero_add]
 rw [jm] at hc2
 rw [e]
 refine ⟨rfl, by rw [ka hg, Array.getElem?_eq_getElem (by omega)]; rfl, pX hg hfr (by omega), ?_⟩
 rw [rT hg]
 refine hK _ (Fr.set _ _ ⟨ad, rfl, rfl⟩) ⟨h1, h2, _, t, fr, by simpa using hfr, lk hg, by simpa using hc1, by simp [jm]; omega, ?_⟩
 intro i hi
 rw [jm, List.length_set] at hi
 rw [Array.getElem?_setIfInBounds]
 by_cases hik : k = i
 ·subst hik
  rw [if_pos rfl, if_pos (by omega)]
  simp [dX, vx, hi]
 ·rw [if_neg hik, hc3 i (by rw [jm]; exact hi)]
  simp [dX, vx, hik]
theorem HD {s : List UInt8} {h : aA} {a : Option Addr} {c : Nat} (o : Be h a c s) : Be h a c (oB s 0) := by rw [CR]; exact o
theorem FL (s : List UInt8) (k : Nat) (hk : k < s.length) (hn : ¬ (65 ≤ (s.getD k 0).toNat ∧ (s.getD k 0).toNat ≤ 90)) : oB s (k + 1) = oB s k := by
 rw [yx s k hk]
 have : jJ (s.getD k 0) = s.getD k 0 := if_neg hn
 rw [this]
 apply List.ext_getElem?
 intro i
 rw [List.getElem?_set]
 split
 ·rename_i e; subst e
  rw [Ax s k hk, if_pos (by rw [wS]; exact hk)]
 ·rfl
theorem xC [Gh] (s : List UInt8) (hs : s.length < 2 ^ 40) {h : aA} {Q : Value → aA → Prop} (hk : ∀ h', Fr (fun _ => False) h h' → Q (.string (bs (s.map jJ))) h') :
  aD Tryz.prog kX #[.string (bs s)] h Q := by
 refine uS _ ?_
 unfold pm
 refine AA Tryz.underlying9 Tryz.underlying98 Tryz.underlying5 s fun a c h1 f1 ha o1 hc => ⟨_, _, _, rfl, ?_⟩
 refine aJ.mk (fun i h' => ∃ k : Nat, i = k ∧ k ≤ s.length ∧ Fr (fun _ => False) h h' ∧ Be h' a c (oB s k)) (fun i _ => s.length - i.toNat) ⟨0, rfl, by omega, f1, HD o1⟩ ?_
 rintro i h2 ⟨k, rfl, hkl, f2, o2⟩
 unfold kW
 refine ifD (fun hlt => ?_) (fun hge => ?_)
 ·have hks : k < s.length := by omega
  obtain ⟨ad, rfl, hcell⟩ := o2.at (k := k) (by rw [wS]; exact hks)
  have hgd : (oB s k).getD k 0 = s.getD k 0 := by rw [List.getD_eq_getElem?_getD, Ax s k hks]; rfl
  rw [hgd] at hcell
  have hc8 := (s.getD k 0).toNat_lt
  refine bO k rfl hks (aS ?_)
  rw [Int.toNat_natCast, Nat.mul_one]
  refine aB hcell ?_
  have skip : ¬ (65 ≤ (s.getD k 0).toNat ∧ (s.getD k 0).toNat ≤ 90) → (∃ k' : Nat, IntKind.wrap .i64 ((k : Int) + 1) = k' ∧ k' ≤ s.length ∧ Fr (fun _ => False) h h2 ∧ Be h2 (some ad) c (oB s k')) ∧ s.length - (IntKind.wrap .i64 ((k : Int) + 1)).toNat < s.length - ((k : Int)).toNat := fun hn => by
   rw [wr (by omega) (by omega)]
   exact ⟨⟨k + 1, by omega, by omega, f2, by rw [FL s k hks hn]; exact o2⟩, by omega⟩
  refine ifD (fun h65 => ?_) (fun h65 => skip (by omega))
  refine ifD (fun h90 => ?_) (fun h90 => skip (by omega))
  refine bO k rfl hks (aS ?_)
  rw [wr8 (by omega) (by omega), ← H5 _ (by omega) (by omega)]
  refine o2.set (by rw [wS]; exact hks) _ fun h3 f3 o3 => ?_
  rw [← yx s k hks] at o3
  rw [wr (by omega) (by omega)]
  exact ⟨⟨k + 1, by omega, by omega, f2.tr f3 (fun x hx hi => absurd (ha x hi) (by omega)), o3⟩, by omega⟩
 ·have : k = s.length := by omega
  subst this
  rw [E1] at o2
  refine r7 Tryz.underlying98 Tryz.underlying9 Tryz.underlying5 (l := s.map jJ) (by simp) (fun ad hd => by subst hd; exact o2.cells) (fun hd => by subst hd; have := o2.1; simpa [dX] using this) ⟨_, rfl, ?_⟩
  exact hk _ f2
end Go.Proofs.YtjmfpeiidlpngaaGreatDoor.Fp
namespace Go.Proofs.YtjmfpeiidlpngaaGreatDoor.Fp
set_option linter.unusedSimpArgs false
set_option linter.unusedVariables false
set_option maxRecDepth 20000
open Go
abbrev Cn := aF
def Da (c : Cn) : Bool := c.Not || c.Pattern.isEmpty
def xi (c b : Cn) : Bool := decide (sj c.Pattern > sj b.Pattern) || (sj c.Pattern == sj b.Pattern && decide (c.Pattern.length > b.Pattern.length))
def noC : Cn := ⟨[], false, false, false, 0, 0, false⟩
def fJ (all : List Cn) : List Cn → Nat → Int → Int
 | [], _, best => best
 | c :: r, k, best =>
  if Da c then fJ all r (k + 1) best
  else if c.Fast then k
  else if best < 0 then fJ all r (k + 1) k
  else if xi c (all.getD best.toNat noC) then fJ all r (k + 1) k
  else fJ all r (k + 1) best
def gJ (all : List Cn) : Int := fJ all all 0 (-1)
theorem zu (all : List Cn) (k : Nat) (hk : k < all.length) (best : Int) : fJ all (all.drop k) k best =
  if Da all[k] then fJ all (all.drop (k + 1)) (k + 1) best
  else if all[k].Fast then k
  else if best < 0 then fJ all (all.drop (k + 1)) (k + 1) k
  else if xi all[k] (all.getD best.toNat noC) then fJ all (all.drop (k + 1)) (k + 1) k
  else fJ all (all.drop (k + 1)) (k + 1) best := by
 rw [List.drop_eq_getElem_cons hk, fJ]
structure wD (cs : List Cn) : Prop where
 len : cs.length ≤ 70
 pat : ∀ c ∈ cs, c.Pattern.length ≤ 200
theorem Ht [Gh] (r : aK) {h : aA} (ok : r.ok h) (sh : wD r.Contents.xs) {Q : Value → aA → Prop} (hk : ∀ h', Fr (fun _ => False) h h' → Q (.int .i64 (gJ r.Contents.xs)) h') :
  aD Tryz.prog kh #[.agg r.vals.toArray] h Q := by
 apply ui
 unfold oF
 refine aZ fun a h1 f1 ha o1 => ?_
 refine aC (o1.cells.at rfl) ?_
 have oc : bF 7 aF.vals aF.ok h1 r.Contents := bF.fr0 aF.ok_fr f1 ok.k14
 generalize hcs : r.Contents = C at *
 clear ok
 have hlen := sh.len
 refine aJ.mk (fun st h' => ∃ k : Nat, st.2 = k ∧ k ≤ C.xs.length ∧ Fr (fun _ => False) h1 h' ∧ fJ C.xs (C.xs.drop k) k st.1 = gJ C.xs ∧ (st.1 = -1 ∨ ∃ b : Nat, st.1 = b ∧ b < C.xs.length)) (fun st _ => C.xs.length - st.2.toNat)
  ⟨0, rfl, by omega, Fr.refl _ _, rfl, .inl rfl⟩ ?_
 rintro ⟨best, i⟩ h2 ⟨k, hi, hkl, f2, hg, hb⟩
 simp only at hi hg hb
 subst hi
 unfold kf
 refine ifD (fun hlt => ?_) (fun hge => ?_)
 ·have hks : k < C.xs.length := by omega
  have oc2 := bF.fr0 aF.ok_fr f2 oc
  rw [zu _ k hks] at hg
  have hpat := sh.pat _ (List.getElem_mem hks)
  refine dH oc2 k rfl hks fun ad cc okc => ?_
  rw [Int.toNat_natCast]
  refine (bH (cc.at0 rfl) (aN (cc.at rfl) (aN (cc.at rfl) (aN (cc.at rfl) (aB (cc.at rfl) (aB (cc.at rfl) (aN (cc.at rfl) ?_)))))))
  refine qf rfl rfl fun t5 h3 f3 ht5 o5 => ?_
  have f13 := f2.trans f3
  have next : ∀ (b' : Int) (h' : aA), Fr (fun _ => False) h1 h' → fJ C.xs (C.xs.drop (k + 1)) (k + 1) b' = gJ C.xs → (b' = -1 ∨ ∃ b : Nat, b' = b ∧ b < C.xs.length) →
    (∃ k' : Nat, (b', IntKind.wrap .i64 ((k : Int) + 1)).2 = k' ∧ k' ≤ C.xs.length ∧ Fr (fun _ => False) h1 h' ∧ fJ C.xs (C.xs.drop k') k' (b', IntKind.wrap .i64 ((k : Int) + 1)).1 = gJ C.xs ∧ ((b', IntKind.wrap .i64 ((k : Int) + 1)).1 = -1 ∨ ∃ b : Nat, (b', IntKind.wrap .i64 ((k : Int) + 1)).1 = b ∧ b < C.xs.length)) ∧ C.xs.length - ((b', IntKind.wrap .i64 ((k : Int) + 1)).2).toNat < C.xs.length - k := by
   intro b' h' f' hg' hb'
   rw [wr (by omega) (by omega)]
   exact ⟨⟨k + 1, by simp, by omega, f', hg', hb'⟩, by simp only; omega⟩
  refine aN (o5.cells.at rfl) ?_
  refine ifB (fun hn => ?_) (fun hn => ?_)
  ·rw [if_pos (by simp [Da, hn])] at hg
   exact next _ _ f13 hg hb
  refine bH (o5.cells.at0 rfl) ?_
  refine Bw (fun he => ?_) (fun he => ?_)
  ·rw [if_pos (by simp [Da, he])] at hg
   exact next _ _ f13 hg hb
  rw [if_neg (by simp [Da, hn, he])] at hg
  refine aN (o5.cells.at rfl) ?_
  refine ifB (fun hf => ?_) (fun hf => ?_)
  ·rw [if_pos hf] at hg
   have := hk _ (f1.trans f13)
   rw [← hg] at this; exact this
  rw [if_neg (by simp [hf])] at hg
  refine ifD (fun hneg => ?_) (fun hneg => ?_)
  ·rw [if_pos hneg] at hg
   exact next _ _ f13 hg (.inr ⟨k, rfl, hks⟩)
  rw [if_neg hneg] at hg
  obtain ⟨b, rfl, hbl⟩ : ∃ b : Nat, best = b ∧ b < C.xs.length := by
   rcases hb with hb | hb
   ·omega
   ·exact hb
  have o1' : Own h3 a _ _ := Own.fr0 f13 o1
  refine aC (o1'.cells.at rfl) ?_
  have oc3 := bF.fr0 aF.ok_fr f13 oc
  have hbpat := sh.pat _ (List.getElem_mem hbl)
  have eC : r.Contents.p = C.p ∧ r.Contents.xs.length = C.xs.length := by rw [hcs]; exact ⟨rfl, rfl⟩
  refine dH oc3 b rfl hbl fun ad2 cb okb => ?_
  rw [Int.toNat_natCast]
  refine (bH (cb.at0 rfl) (aN (cb.at rfl) (aN (cb.at rfl) (aN (cb.at rfl) (aB (cb.at rfl) (aB (cb.at rfl) (aN (cb.at rfl) ?_)))))))
  refine qf rfl rfl fun t6 h5 f5 ht6 o6 => ?_
  have o5' := Own.fr0 f5 o5
  refine bH (o5'.cells.at0 rfl) (bH (o6.cells.at0 rfl) ?_)
  refine DD _ (by omega) fun h6 f6 => ⟨_, rfl, ?_⟩
  have o6' := Own.fr0 f6 o6
  refine ⟨bH (o6'.cells.at0 rfl) rfl, ?_⟩
  refine DD _ (by omega) fun h7 f7 => ⟨_, rfl, ?_⟩
  have f17 := ((f13.trans f5).trans f6).trans f7
  have hgd : C.xs.getD ((b : Int)).toNat noC = C.xs[b] := by
   rw [Int.toNat_natCast, List.getD_eq_getElem?_getD, List.getElem?_eq_getElem hbl]; rfl
  rw [hgd] at hg
  have win : xi C.xs[k] C.xs[b] = true → fJ C.xs (C.xs.drop (k + 1)) (k + 1) k = gJ C.xs := fun hw => by rw [if_pos hw] at hg; exact hg
  have lose : xi C.xs[k] C.xs[b] = false → fJ C.xs (C.xs.drop (k + 1)) (k + 1) b = gJ C.xs := fun hw => by rw [if_neg (by simp [hw])] at hg; exact hg
  refine ifD (fun hgt => ?_) (fun hgt => ?_)
  ·exact next _ _ f17 (win (by simp [xi, hgt])) (.inr ⟨k, rfl, hks⟩)
  refine ifE (fun heq => ?_) (fun hne => ?_)
  ·have o5'' := Own.fr0 f7 (Own.fr0 f6 o5')
   have o6'' := Own.fr0 f7 o6'
   refine bH (o5''.cells.at0 rfl) (bH (o6''.cells.at0 rfl) ?_)
   rw [bR, bR]
   refine ifD (fun hl => ?_) (fun hl => ?_)
   ·exact next _ _ f17 (win (by unfold xi; rw [heq]; simp; omega)) (.inr ⟨k, rfl, hks⟩)
   ·exact next _ _ f17 (lose (by unfold xi; rw [heq]; simp; omega)) (.inr ⟨b, rfl, hbl⟩)
  ·exact next _ _ f17 (lose (by unfold xi; simp [hne]; omega)) (.inr ⟨b, rfl, hbl⟩)
 ·have : k = C.xs.length := by omega
  subst this
  rw [List.drop_length] at hg
  have := hk _ (f1.trans f2)
  rw [← hg] at this; exact this
end Go.Proofs.YtjmfpeiidlpngaaGreatDoor.Fp
namespace Go.Proofs.YtjmfpeiidlpngaaGreatDoor
set_option linter.unusedSimpArgs false
set_option linter.unusedVariables false
set_option maxRecDepth 20000
open Go
section
variable {P : Program}
theorem vh {b : Builtin} {ts : Array TypeId} {ty : TypeId} {cs : Array Bool} {args : Array Value} {s : Sem Value} {h : aA} {K : Value → aA → Prop}
  (hb : builtin b ts ty cs args = (do pure (.value (← s)))) (hk : wpH P s K h) : dN P b ts ty cs args h K := by
 unfold dN; rw [hb]; simp only [bind]; rw [aO]; exact hk
theorem GA {dT sT ty e T : TypeId} {cs : Array Bool} (hd : P.underlying dT = some (.slice e)) (he : (P.info? e).isSome) (hz : gK P e = 1) {h : aA} {a : Addr} {vs : List Value} (o : Own h a vs T) (l : List UInt8)
  (hl : vs.length = l.length) {c : Nat} {K : Value → aA → Prop} (hk : ∀ h', Fr (fun b => b = a.block) h h' → Own h' a (dX l) T → K (.int .i64 l.length) h') :
  dN P .copy #[dT, sT] ty cs #[.slice (some a) l.length c, .string (bs l)] h K := by
 refine vh (s := Builtin.copy_ #[dT, sT] ty #[.slice (some a) l.length c, .string (bs l)]) rfl ?_
 unfold Builtin.copy_
 simp only [List.getElem?_toArray, List.getElem?_cons_zero, List.getElem?_cons_succ, bind]
 rw [aO]; refine bP hd ?_
 simp only
 unfold Builtin.lenOf
 simp only [pure, Sem.bind]
 rw [aO]; refine rQ he ?_
 have hsz : (bs l).size = l.length := bR l
 have hmin : Nat.min l.length l.length = l.length := Nat.min_self _
 rw [hz, hsz, hmin, aO]
 unfold Builtin.firstCells
 simp only [pure, wpH, Nat.mul_one]
 have hx : ((bs l).extract 0 l.length).data.map (fun b => Value.int .u8 b.toNat) = (dX l).toArray := by
  have : (bs l).extract 0 l.length = bs l := by rw [vm]; simp
  rw [this]; apply Array.ext'; simp [bs, dX, vx]
 rw [hx]
 rw [aO]
 have hadd : ∀ i, a.add i = ⟨a.block, 0 + i, none⟩ := fun i => by rw [o.mk_eq, gG]
 refine rh hadd (dX l) 0 _ h o.blk (.inl rfl) (AK l) (by simp [jm, hl]) ?_
 simp only [wpH, goInt]
 refine hk _ (Fr.set _ _ rfl) ⟨o.off, o.spot, ?_⟩
 rw [lk o.blk]
 rw [vp (dX l) vs (by rw [jm, hl])]
theorem ve {h : aA} {K : ByteArray → aA → Prop} : ∀ (l : List UInt8) (a : Addr) (acc : ByteArray), (∀ j, j < l.length → hcell h (a.add j) = some (.int .u8 (l.getD j 0).toNat)) → K ⟨acc.data ++ l.toArray⟩ h → wpH P (loadBytes a acc l.length) K h
 | [], a, acc, _, hk => by simpa [loadBytes, pure, wpH] using hk
 | x :: l, a, acc, hc, hk => by
  have h0 := hc 0 (by simp)
  unfold loadBytes
  simp only [List.length_cons, bind]
  refine ⟨_, h0, ?_⟩
  have hx : ((((x :: l).getD 0 0).toNat : Int)).toNat.toUInt8 = x := by simp
  simp only [Sem.bind]
  rw [hx]
  refine ve l (a.add 1) (acc.push x) (fun j hj => ?_) ?_
  ·have := hc (j + 1) (by simp; omega)
   have e : (a.add 1).add j = a.add (j + 1) := by
    unfold Addr.add
    obtain ⟨b, o, s⟩ := a
    cases j <;> simp [Nat.add_assoc, Nat.add_comm]
   rw [e, this]; simp
  ·have : (acc.push x).data ++ l.toArray = acc.data ++ (x :: l).toArray := by simp [ByteArray.push]
   rw [this]; exact hk
theorem AL {pt iT ty e : TypeId} {cs : Array Bool} (hp : P.underlying pt = some (.pointer e)) (hc : P.cellsOf e = 1) {h : aA} {a : Addr} {l : List UInt8} (o : Own h a (dX l) e) (hl : l.length ≤ 9223372036854775807)
  {K : Value → aA → Prop} (hk : ∀ h', Fr (fun b => b = a.block) h h' → K (.string (bs l)) h') : dN P .unsafeString #[pt, iT] ty cs #[.pointer (some a), .int .i64 l.length] h K := by
 refine vh (s := Builtin.unsafeString_ #[pt, iT] ty #[.pointer (some a), .int .i64 l.length]) rfl ?_
 have hdef : Builtin.unsafeString_ #[pt, iT] ty #[.pointer (some a), .int .i64 (l.length : Int)] =
   (do
    if (l.length : Int) < 0 then runtimePanic (.error "unsafe.String: len out of range")
    if (l.length : Int) > IntKind.i64.max then unsupported (.unsafePointer "String: a length above the largest int")
    if (l.length : Int) = 0 then pure (.string .empty)
    else if ← variablesAt a (← elemOf pt) ((l.length : Int)).toNat then do
     let s ← loadBytes a .empty ((l.length : Int)).toNat
     freeze a ((l.length : Int)).toNat
     pure (.string s)
    else unsupported (.unsafePointer "String: not so many bytes at ptr")) := rfl
 rw [hdef]
 simp only [bind, pure, Sem.bind]
 rw [if_neg (by omega), if_neg (by rw [Kt]; omega)]
 by_cases h0 : l = []
 ·subst h0
  rw [if_pos (by simp)]
  exact hk h (Fr.refl _ _)
 ·have hne : ¬ ((l.length : Int) = 0) := by
   intro e; apply h0; exact List.length_eq_zero_iff.1 (by omega)
  rw [if_neg hne]
  unfold elemOf
  simp only [bind]
  rw [aO, aO]
  refine bP hp ?_
  simp only [pure, wpH]
  unfold variablesAt program shape
  simp only [bind, pure, Sem.bind, wpH]
  have hs : AF h a.block = some (e, l.length) := by
   unfold AF; rw [o.blk]; simp [jm]
  rw [hs]
  simp only [Sem.bind, wpH]
  rw [hc, Nat.div_one, o.off, Int.toNat_natCast, Lib.liesAt_bytes hc l.length l.length (Nat.le_refl _)]
  rw [if_pos rfl, aO]
  refine ve l a .empty (fun j hj => ?_) ?_
  ·have := o.cells.at (j := j) (v := .int .u8 (l.getD j 0).toNat) (by simp [dX, vx, hj])
   exact this
  ·unfold freeze
   simp only [Sem.bind, wpH]
   have e1 : (⟨ByteArray.empty.data ++ l.toArray⟩ : ByteArray) = bs l := by
    have : ByteArray.empty.data ++ l.toArray = l.toArray := Array.empty_append
    rw [this]; rfl
   rw [e1]
   refine hk _ ⟨?_, fun b hb hn => ?_⟩
   ·unfold pw; split <;> simp
   ·unfold pw; split
    ·rfl
    ·rw [Array.getElem?_modify, if_neg (fun e => hn e.symm)]
end
end Go.Proofs.YtjmfpeiidlpngaaGreatDoor
namespace Go.Proofs.YtjmfpeiidlpngaaGreatDoor.Fp
set_option linter.unusedSimpArgs false
set_option linter.unusedVariables false
set_option maxRecDepth 20000
open Go
theorem BO : gM Tryz.prog aQ od Tryz.t5 (.int .u8 0) := ⟨Tryz.underlying98, by kernel_rfl, by kernel_rfl, by kernel_rfl, by decide⟩
theorem D6 [Gh] (s : List UInt8) (hs : s.length < 2 ^ 40) {h : aA} {Q : Value → aA → Prop} (hk : ∀ h', Fr (fun _ => False) h h' → Q (.string (bs s)) h') :
  aD Tryz.prog lv #[.string (bs s)] h Q := by
 apply xy
 unfold sX
 have inner : aD Tryz.prog gE #[.string (bs s)] h (fun v h' => v = .string (bs s) ∧ Fr (fun _ => False) h h') := by
  apply oL
  unfold j5
  rw [bR]
  refine ifE (fun h0 => ?_) (fun h0 => ?_)
  ·have : s = [] := List.length_eq_zero_iff.1 (by omega)
   subst this; exact ⟨rfl, Fr.refl _ _⟩
  have eb : (Tryz.t5).bytes = 1 := by kernel_rfl
  refine xH BO s.length rfl (by rw [eb]; omega) fun a h1 f1 ha o1 => ⟨_, _, _, rfl, ?_⟩
  refine GA Tryz.underlying98 (by kernel_rfl) (by kernel_rfl) o1 s (by show (List.replicate s.length [Value.int .u8 0]).flatten.length = _; simp) fun h2 f2 o2 => ⟨_, rfl, ?_⟩
  have f02 : Fr (fun _ => False) h h2 := f1.tr f2 (fun x hx e => by subst e; rw [ha] at hx; exact absurd hx (Nat.lt_irrefl _))
  refine bO 0 rfl (by omega) (aS ?_)
  refine AL Tryz.underlying248 (by kernel_rfl) o2 (by omega) fun h3 f3 => ⟨_, rfl, rfl, ?_⟩
  exact f02.tr f3 (fun x hx e => by subst e; rw [ha] at hx; exact absurd hx (Nat.lt_irrefl _))
 refine inner.mono ?_
 rintro v h' ⟨rfl, f⟩
 exact ⟨_, rfl, hk _ f⟩
def vq (cs : List Cn) : Option (List UInt8 × Bool) :=
 if gJ cs < 0 then none else
  let c := cs.getD (gJ cs).toNat noC
  some (if c.Nocase then c.Pattern.map jJ else c.Pattern, c.Nocase)
def JF (cs : List Cn) : Value := match vq cs with
 | none => .tuple #[.agg #[.string (bs []), .bool false], .bool false]
 | some (t, n) => .tuple #[.agg #[.string (bs t), .bool n], .bool true]
theorem ud (all : List Cn) : ∀ (l : List Cn) (k : Nat) (best : Int), k + l.length = all.length → best < all.length → fJ all l k best < all.length
 | [], _, _, _, hb => hb
 | c :: r, k, best, hl, hb => by
  simp only [List.length_cons] at hl
  unfold fJ
  have i1 := ud all r (k + 1) best (by omega) hb
  have i2 := ud all r (k + 1) k (by omega) (by omega)
  split
  ·exact i1
  split
  ·omega
  split
  ·exact i2
  split <;> assumption
theorem sv (all : List Cn) : gJ all < all.length := ud all all 0 (-1) (by simp) (by omega)
end Go.Proofs.YtjmfpeiidlpngaaGreatDoor.Fp
namespace Go.Proofs.YtjmfpeiidlpngaaGreatDoor.Fp
set_option linter.unusedSimpArgs false
set_option linter.unusedVariables false
set_option maxRecDepth 20000
open Go
theorem Hu [Gh] {h : aA} {t2 p5 : Addr} {vs : List Value} {t : List UInt8} {n : Bool} (o2 : Own h t2 vs bC) (hl : vs.length = 2) (o5 : Own h p5 [.string (bs t), .bool n] bC) {Q : Value → aA → Prop}
  (hk : ∀ h', Fr (fun b => b = t2.block ∨ b = p5.block) h h' → Q (.tuple #[.agg #[.string (bs t), .bool n], .bool true]) h') : eU t2 p5 Q h := by
 unfold eU
 refine (bH (o5.cells.at0 rfl) (aN (o5.cells.at rfl) ?_))
 refine jr o2 (by rw [hl]; rfl) rfl fun h1 f1 _ o1 => ?_
 refine (bH (o1.cells.at0 rfl) (aN (o1.cells.at rfl) ?_))
 exact hk _ (f1.mono fun b hb => .inl hb)
theorem JG [Gh] {h : aA} {t2 p5 : Addr} {vs : List Value} {t : List UInt8} {n : Bool} (ht : t.length < 2 ^ 40) (o2 : Own h t2 vs bC) (hl : vs.length = 2) (o5 : Own h p5 [.string (bs t), .bool n] bC) (ne : t2.block ≠ p5.block) {Q : Value → aA → Prop}
  (hk : ∀ h', Fr (fun b => b = t2.block ∨ b = p5.block) h h' → Q (.tuple #[.agg #[.string (bs (if n then t.map jJ else t)), .bool n], .bool true]) h') : dD t2 p5 Q h := by
 unfold dD
 refine aN (o5.cells.at rfl) ?_
 refine ifB (fun hn => ?_) (fun hn => ?_)
 ·subst hn
  refine bH (o5.cells.at0 rfl) ?_
  refine xC t ht fun h1 f1 => ⟨_, rfl, ?_⟩
  refine mL (Own.fr0 f1 o5) (by simp) rfl fun h2 f2 _ o2' => ?_
  have f12 : Fr (fun b => b = t2.block ∨ b = p5.block) h h2 := (f1.mono fun b hb => hb.elim).trans (f2.mono fun b hb => .inr hb)
  refine Hu ((Own.fr0 f1 o2).fr f2 ne) hl o2' fun h3 f3 => hk _ ?_
  exact f12.trans f3
 ·subst hn
  exact Hu o2 hl o5 hk
theorem Fd [Gh] (r : aK) {h : aA} (ok : r.ok h) (sh : wD r.Contents.xs) {Q : Value → aA → Prop} (hk : ∀ h', Fr (fun _ => False) h h' → Q (JF r.Contents.xs) h') :
  aD Tryz.prog jS #[.agg r.vals.toArray] h Q := by
 apply tz
 unfold ns
 refine aZ fun a h1 f1 ha o1 => aZ fun b h2 f2 hb o2 => ?_
 have o1' := Own.fr0 f2 o1
 have f02 := f1.trans f2
 refine (aB (o1'.cells.at0 rfl) (aB (o1'.cells.at rfl) (aC (o1'.cells.at rfl) (aC (o1'.cells.at rfl) (aC (o1'.cells.at rfl) (aC (o1'.cells.at rfl) (aN (o1'.cells.at rfl) (aB (o1'.cells.at rfl) (aB (o1'.cells.at rfl) (aB (o1'.cells.at rfl) (bH (o1'.cells.at rfl) (aB (o1'.cells.at rfl) (aB (o1'.cells.at rfl) (aC (o1'.cells.at rfl) (aC (o1'.cells.at rfl) (aC (o1'.cells.at rfl) (aC (o1'.cells.at rfl) (aB (o1'.cells.at rfl) (aB (o1'.cells.at rfl) (aB (o1'.cells.at rfl) (aB (o1'.cells.at rfl) ?_)))))))))))))))))))))
 refine Ht r (aK.ok_fr _ _ _ f02 ok) sh fun h3 f3 => ⟨_, rfl, ?_⟩
 have o1'' := Own.fr0 f3 o1'
 have o2'' := Own.fr0 f3 o2
 have f03 := f02.trans f3
 have hlt := sv r.Contents.xs
 have fresh : ∀ {h'}, Fr (fun x => x = b.block) h3 h' → Fr (fun _ => False) h h' := fun f => f03.tr f (fun x hx e => by subst e; have := f1.size; omega)
 unfold JF vq at hk
 refine ifD (fun hneg => ?_) (fun hpos => ?_)
 ·rw [if_pos hneg] at hk
  refine jr o2'' rfl rfl fun h4 f4 _ o4 => ?_
  refine (bH (o4.cells.at0 rfl) (aN (o4.cells.at rfl) ?_))
  exact hk _ (fresh f4)
 ·rw [if_neg hpos] at hk
  simp only at hk
  obtain ⟨k, hk0⟩ : ∃ k : Nat, gJ r.Contents.xs = k := ⟨(gJ r.Contents.xs).toNat, by omega⟩
  rw [hk0] at hk ⊢
  rw [hk0] at hlt
  have hkl : k < r.Contents.xs.length := by omega
  have hpat := sh.pat _ (List.getElem_mem hkl)
  have hgd : r.Contents.xs.getD ((k : Int)).toNat noC = r.Contents.xs[k] := by
   rw [Int.toNat_natCast, List.getD_eq_getElem?_getD, List.getElem?_eq_getElem hkl]; rfl
  rw [hgd] at hk
  have oc := bF.fr0 aF.ok_fr f03 ok.k14
  refine aC (o1''.cells.at rfl) ?_
  refine dH oc k rfl hkl fun ad cc okc => ?_
  rw [Int.toNat_natCast]
  refine bH (cc.at0 rfl) ?_
  refine aC (o1''.cells.at rfl) ?_
  refine dH oc k rfl hkl fun ad2 cc2 okc2 => ?_
  refine aN (cc2.at rfl) ?_
  have hb2 : b.block < h3.size := o2''.lt
  have end_ : ∀ (c : Addr) (h' : aA), Fr (fun _ => False) h3 h' → h3.size ≤ c.block → Own h' c [.string (bs r.Contents.xs[k].Pattern), .bool r.Contents.xs[k].Nocase] bC → dD b c Q h' := by
   intro c h' f hc oc
   refine JG (by omega) (Own.fr0 f o2'') rfl oc (by omega) fun h4 f4 => hk _ ?_
   refine f03.tr ((f.mono (S' := fun x => x = b.block) fun _ h => h.elim).tr f4 fun x hx hs => ?_) (fun x hx e => by subst e; have := f1.size; omega)
   rcases hs with hs | hs
   ·exact hs
   ·omega
  constructor
  ·refine D6 _ (by omega) fun h5 f5 => ⟨_, rfl, ?_⟩
   refine ⟨aC ((Own.fr0 f5 o1'').cells.at rfl) rfl, aN ((aW.fr0 f5 cc2).at rfl) rfl, ?_⟩
   refine GY ?_
   have f6 := f5.trans (Fr.push (fun _ => False) h5 (.cells #[Value.string ⟨#[]⟩, Value.bool false] bC (0, 0)))
   have o6 : Own (h5.push (.cells #[Value.string ⟨#[]⟩, Value.bool false] bC (0, 0))) ⟨h5.size, 0, none⟩ [Value.string ⟨#[]⟩, Value.bool false] bC := ⟨rfl, rfl, cW⟩
   generalize h5.push (.cells #[Value.string ⟨#[]⟩, Value.bool false] bC (0, 0)) = h6 at *
   refine ⟨aC ((Own.fr0 f6 o1'').cells.at rfl) rfl, bH ((aW.fr0 f6 cc).at0 rfl) rfl, aC ((Own.fr0 f6 o1'').cells.at rfl) rfl, aN ((aW.fr0 f6 cc2).at rfl) rfl, ?_⟩
   refine jr o6 rfl rfl fun h7 f7 _ o7 => ?_
   exact end_ _ _ (f6.tr f7 fun x hx e => by subst e; have := f5.size; simp only at hx; omega) f5.size o7
  ·refine GY ?_
   have f6 := Fr.push (fun _ => False) h3 (.cells #[Value.string ⟨#[]⟩, Value.bool false] bC (0, 0))
   have o6 : Own (h3.push (.cells #[Value.string ⟨#[]⟩, Value.bool false] bC (0, 0))) ⟨h3.size, 0, none⟩ [Value.string ⟨#[]⟩, Value.bool false] bC := ⟨rfl, rfl, cW⟩
   generalize h3.push (.cells #[Value.string ⟨#[]⟩, Value.bool false] bC (0, 0)) = h6 at *
   refine ⟨aC ((Own.fr0 f6 o1'').cells.at rfl) rfl, bH ((aW.fr0 f6 cc).at0 rfl) rfl, aC ((Own.fr0 f6 o1'').cells.at rfl) rfl, aN ((aW.fr0 f6 cc2).at rfl) rfl, ?_⟩
   refine D6 _ (by omega) fun h5 f5 => ⟨_, rfl, ?_⟩
   have f65 := f6.trans f5
   refine ⟨aC ((Own.fr0 f65 o1'').cells.at rfl) rfl, aN ((aW.fr0 f65 cc2).at rfl) rfl, ?_⟩
   refine jr (Own.fr0 f5 o6) rfl rfl fun h7 f7 _ o7 => ?_
   exact end_ _ _ (f65.tr f7 fun x hx e => by subst e; simp only at hx; omega) (Nat.le_refl _) o7
end Go.Proofs.YtjmfpeiidlpngaaGreatDoor.Fp
namespace Go.Proofs.YtjmfpeiidlpngaaGreatDoor
set_option linter.unusedSimpArgs false
set_option linter.unusedVariables false
set_option maxRecDepth 20000
open Go
def put {ι α : Type} [DecidableEq ι] (f : ι → α) (x : ι) (v : α) : ι → α := fun y => if y = x then v else f y
theorem bY {ι α : Type} [DecidableEq ι] (f : ι → α) (x : ι) (v : α) : put f x v x = v := if_pos rfl
theorem bB {ι α : Type} [DecidableEq ι] (f : ι → α) {x y : ι} (v : α) (h : y ≠ x) : put f x v y = f y := if_neg h
structure Fam {ι : Type} (sz : ι → Nat) (h : aA) (sl : ι → Option Addr) (cap : ι → Nat) (cs : ι → List Value) : Prop where
 own : ∀ x, qQ h (sl x) (cap x) (sz x) (cs x)
 apart : ∀ x y b, InA (sl x) b → InA (sl y) b → x = y
section
variable {ι : Type} {sz : ι → Nat} {h : aA} {sl : ι → Option Addr} {cap : ι → Nat} {cs : ι → List Value}
theorem Fam.fr (F : Fam sz h sl cap cs) {S : Nat → Prop} {h' : aA} (f : Fr S h h') (hs : ∀ x b, InA (sl x) b → ¬ S b) : Fam sz h' sl cap cs :=
 ⟨fun x => (F.own x).fr f (hs x), F.apart⟩
theorem Fam.fr0 (F : Fam sz h sl cap cs) {h' : aA} (f : Fr (fun _ => False) h h') : Fam sz h' sl cap cs := F.fr f fun _ _ _ => id
theorem Fam.lt (F : Fam sz h sl cap cs) {x : ι} {b : Nat} (hb : InA (sl x) b) : b < h.size := (F.own x).lt hb
theorem Fam.none (F : Fam sz h sl cap cs) {x : ι} (hx : sl x = none) : cs x = [] ∧ cap x = 0 := by
 have := F.own x; rw [hx] at this; exact this
theorem Fam.some_of (F : Fam sz h sl cap cs) {x : ι} (hx : (cs x).length ≠ 0) : ∃ ad, sl x = some ad ∧ aW h ad (cs x) := by
 have o := F.own x
 cases hs : sl x with
 | none => rw [hs] at o; rw [o.1] at hx; simp at hx
 | some ad => rw [hs] at o; exact ⟨ad, rfl, o.cells⟩
end
section
variable {ι : Type} [DecidableEq ι] {sz : ι → Nat} {h : aA} {sl : ι → Option Addr} {cap : ι → Nat} {cs : ι → List Value}
theorem Fam.turn (F : Fam sz h sl cap cs) (x : ι) {a' : Option Addr} {cap' : Nat} {cs' : List Value} {h' : aA} (o : qQ h' a' cap' (sz x) cs') (f : Fr (InA (sl x)) h h') (hn : ∀ b, InA a' b → InA (sl x) b ∨ h.size ≤ b) :
  Fam sz h' (put sl x a') (put cap x cap') (put cs x cs') := by
 refine ⟨fun y => ?_, fun y z b hy hz => ?_⟩
 ·by_cases e : y = x
  ·subst e; rw [bY, bY, bY]; exact o
  ·rw [bB _ _ e, bB _ _ e, bB _ _ e]
   exact (F.own y).fr f fun b hb hx => e (F.apart _ _ _ hb hx)
 ·by_cases ey : y = x
  ·by_cases ez : z = x
   ·rw [ey, ez]
   ·rw [ey, bY] at hy; rw [bB _ _ ez] at hz
    rcases hn b hy with hb | hb
    ·rw [ey]; exact F.apart _ _ _ hb hz
    ·have := F.lt hz; omega
  ·rw [bB _ _ ey] at hy
   by_cases ez : z = x
   ·rw [ez, bY] at hz
    rcases hn b hz with hb | hb
    ·rw [ez]; exact F.apart _ _ _ hy hb
    ·have := F.lt hy; omega
   ·rw [bB _ _ ez] at hz; exact F.apart _ _ _ hy hz
theorem Fam.app {P : Program} {sT xT ty el : TypeId} {consts : Array Bool} {i : TypeInfo} {z : Value} {d : TypeDesc} (t : gM P sT el i z) (hX : P.underlying xT = some d) (hd : ∀ k, d ≠ .int k)
  (F : Fam sz h sl cap cs) (x : ι) (hz : sz x = i.size) {n m : Nat} {xs : List Value} {v : Value} (hn : (cs x).length = n * sz x) (hnc : n ≤ cap x) (s : Src h i.size v m xs) (hv : ∀ v ∈ xs, ee v = true)
  (hlim : (8 * (n + m) + 4000) * i.bytes ≤ 2 ^ 48) {K : Value → aA → Prop}
  (hk : ∀ (a' : Option Addr) (cap' : Nat) (h' : aA), Fam sz h' (put sl x a') (put cap x cap') (put cs x (cs x ++ xs)) → n + m ≤ cap' → Fr (InA (sl x)) h h' → (∀ b, InA a' b → InA (sl x) b ∨ h.size ≤ b) → K (.slice a' (n + m) cap') h') :
  dN P .append #[sT, xT] ty consts #[.slice (sl x) n (cap x), v] h K := by
 refine vo t hX hd (by rw [← hz]; exact F.own x) (by rw [hn, hz]) hnc s hv hlim fun a' cap' h' o hc f hb => hk a' cap' h' (F.turn x (by rw [hz]; exact o) f hb) hc f hb
theorem qQ.set {h : aA} {ad : Addr} {c n : Nat} {vs : List Value} (o : qQ h (some ad) c n vs) {j : Nat} (hj : j < vs.length) {v : Value} (hv : ee v = true) {K : aA → Prop}
  (hK : ∀ h', Fr (InA (some ad)) h h' → qQ h' (some ad) c n (vs.set j v) → K h') : st1 h (ad.add j) v K := by
 obtain ⟨h1, h2, ds, t, fr, hfr, hg, hc1, hc2, hc3⟩ := o
 have e : ad.add j = ⟨ad.block, j, none⟩ := by
  obtain ⟨b, o, s⟩ := ad; simp only at h1 h2; subst h1 h2; rw [gG, Nat.zero_add]
 rw [e]
 refine ⟨hv, by rw [ka hg, Array.getElem?_eq_getElem (by omega)]; rfl, pX hg hfr (by omega), ?_⟩
 rw [rT hg]
 refine hK _ (Fr.set _ _ ⟨ad, rfl, rfl⟩) ⟨h1, h2, _, t, fr, by simpa using hfr, lk hg, by simpa using hc1, by simpa using hc2, ?_⟩
 intro i hi
 rw [List.length_set] at hi
 rw [Array.getElem?_setIfInBounds, List.getElem_set]
 by_cases hik : j = i
 ·subst hik
  rw [if_pos rfl, if_pos (by omega), if_pos rfl]
 ·rw [if_neg hik, if_neg hik]; exact hc3 i hi
theorem Fam.set (F : Fam sz h sl cap cs) (x : ι) {ad : Addr} (hx : sl x = some ad) {j : Nat} (hj : j < (cs x).length) {v : Value} (hv : ee v = true) {K : aA → Prop}
  (hk : ∀ h', Fam sz h' sl cap (put cs x ((cs x).set j v)) → Fr (InA (sl x)) h h' → K h') : st1 h (ad.add j) v K := by
 have o := F.own x
 rw [hx] at o
 refine o.set hj hv fun h' f o' => hk h' ?_ (by rw [hx]; exact f)
 have := F.turn x (a' := some ad) (cap' := cap x) (cs' := (cs x).set j v) (h' := h') o' (by rw [hx]; exact f) (fun b hb => .inl (by rw [hx]; exact hb))
 have e1 : put sl x (some ad) = sl := by funext y; unfold put; split <;> first | rfl | (rename_i e; rw [e, hx])
 have e2 : put cap x (cap x) = cap := by funext y; unfold put; split <;> first | rfl | (rename_i e; rw [e])
 rw [e1, e2] at this; exact this
end
theorem Src.one {h : aA} {a : Addr} {T : TypeId} {vs : List Value} {sz : Nat} (o : Own h a vs T) (hl : vs.length = sz) (c : Nat) : Src h sz (.slice (some a) 1 c) 1 vs :=
 .sl a 1 c vs (by omega) o.cells
end Go.Proofs.YtjmfpeiidlpngaaGreatDoor
namespace Go.Proofs.YtjmfpeiidlpngaaGreatDoor.Fp
set_option linter.unusedSimpArgs false
set_option linter.unusedVariables false
set_option maxRecDepth 20000
open Go
abbrev Ru := aK
abbrev uf (l : List Int) : List Value := l.map fun n => Value.int .i64 n
abbrev ig (h : aA) (s : Sl Int) : Prop := bF 1 (fun n : Int => [Value.int .i64 n]) (kOk .i64) h s
structure Grp where
 kind : Int
 tr : List Int
 pats : List (List UInt8 × Bool)
 rules : List (List Int)
 always : List Int
def qZ (k : Nat) (r : Ru) (g : Grp) : Grp :=
 match vq r.Contents.xs with
 | none => { g with always := g.always ++ [(k : Int)] }
 | some p =>
  if g.pats.findIdx (· == p) = g.pats.length then { g with pats := g.pats ++ [p], rules := g.rules ++ [[(k : Int)]] }
  else { g with rules := g.rules.modify (g.pats.findIdx (· == p)) (· ++ [(k : Int)]) }
def rt (r : Ru) (g : Grp) : Bool := g.kind == r.Kind && g.tr == r.Transforms.xs
def sN (r : Ru) (gs : List Grp) : List Grp := if gs.findIdx (rt r) = gs.length then gs ++ [⟨r.Kind, r.Transforms.xs, [], [], []⟩] else gs
def xB (k : Nat) (r : Ru) (gs : List Grp) : List Grp := (sN r gs).modify (gs.findIdx (rt r)) (qZ k r)
def fG : List Ru → Nat → List Grp → List Grp
 | [], _, gs => gs
 | r :: l, k, gs => fG l (k + 1) (xB k r gs)
def oj (l : List Ru) : List Grp := fG l 0 []
structure rD (k : Nat) (gs : List Grp) : Prop where
 len : gs.length ≤ k
 g : ∀ g ∈ gs, g.pats.length ≤ k ∧ g.rules.length = g.pats.length ∧ g.always.length ≤ k ∧ ∀ l ∈ g.rules, l.length ≤ k
theorem md {α : Type} {f : α → α} : ∀ {l : List α} {i : Nat} {x : α}, x ∈ l.modify i f → x ∈ l ∨ ∃ y ∈ l, x = f y
 | [], i, x, h => by simp at h
 | a :: l, 0, x, h => by
  rw [List.modify_zero_cons] at h
  rcases List.mem_cons.1 h with rfl | h
  ·exact .inr ⟨a, by simp, rfl⟩
  ·exact .inl (by simp [h])
 | a :: l, i + 1, x, h => by
  rw [List.modify_succ_cons] at h
  rcases List.mem_cons.1 h with rfl | h
  ·exact .inl (by simp)
  ·rcases md h with h | ⟨y, hy, e⟩
   ·exact .inl (by simp [h])
   ·exact .inr ⟨y, by simp [hy], e⟩
theorem rD.add {k : Nat} {gs : List Grp} (s : rD k gs) (r : Ru) : rD (k + 1) (xB k r gs) := by
 have hs : ∀ g ∈ sN r gs, g.pats.length ≤ k ∧ g.rules.length = g.pats.length ∧ g.always.length ≤ k ∧ ∀ l ∈ g.rules, l.length ≤ k := by
  intro g hg
  unfold sN at hg
  split at hg
  ·rcases List.mem_append.1 hg with hg | hg
   ·exact s.g g hg
   ·rw [List.mem_singleton.1 hg]; simp
  ·exact s.g g hg
 refine ⟨?_, fun g hg => ?_⟩
 ·unfold xB sN; rw [List.length_modify]; split
  ·rw [List.length_append]; have := s.len; simp; omega
  ·have := s.len; omega
 ·rcases md hg with hg | ⟨y, hy, rfl⟩
  ·obtain ⟨h1, h2, h3, h4⟩ := hs g hg
   exact ⟨by omega, h2, by omega, fun l hl => by have := h4 l hl; omega⟩
  ·obtain ⟨h1, h2, h3, h4⟩ := hs y hy
   unfold qZ
   split
   ·exact ⟨by simp only; omega, h2, by simp; omega, fun l hl => by have := h4 l hl; omega⟩
   ·split
    ·refine ⟨by simp; omega, by simp [h2], by simp only; omega, fun l hl => ?_⟩
     rcases List.mem_append.1 hl with hl | hl
     ·have := h4 l hl; omega
     ·rw [List.mem_singleton.1 hl]; simp
    ·refine ⟨by simp only; omega, by simp [h2], by simp only; omega, fun l hl => ?_⟩
     rcases md hl with hl | ⟨z, hz, rfl⟩
     ·have := h4 l hl; omega
     ·have := h4 z hz; simp; omega
abbrev Ix := Nat × Nat × Nat
abbrev xO : Ix := (0, 0, 0)
abbrev xP (i : Nat) : Ix := (1, i, 0)
abbrev xR (i : Nat) : Ix := (2, i, 0)
abbrev xI (i n : Nat) : Ix := (3, i, n)
abbrev xA (i : Nat) : Ix := (4, i, 0)
def szG (x : Ix) : Nat := if x.1 = 0 then 5 else if x.1 = 1 then 2 else 1
structure Hh (g : Grp) (i : Nat) (tr : Nat → Sl Int) (sl : Ix → Option Addr) (cap : Ix → Nat) (cs : Ix → List Value) : Prop where
 o0 : (cs xO)[i * 5]? = some (.int .i64 g.kind)
 o1 : (cs xO)[i * 5 + 1]? = some (.slice (tr i).p (tr i).xs.length (tr i).cap)
 o2 : (cs xO)[i * 5 + 2]? = some (.slice (sl (xP i)) g.pats.length (cap (xP i)))
 o3 : (cs xO)[i * 5 + 3]? = some (.slice (sl (xR i)) g.rules.length (cap (xR i)))
 o4 : (cs xO)[i * 5 + 4]? = some (.slice (sl (xA i)) g.always.length (cap (xA i)))
 trx : (tr i).xs = g.tr
 pl : cs (xP i) = g.pats.flatMap fun p => [Value.string (bs p.1), Value.bool p.2]
 pc : g.pats.length ≤ cap (xP i)
 rl : (cs (xR i)).length = g.rules.length
 rc : g.rules.length ≤ cap (xR i)
 rg : ∀ n (hn : n < g.rules.length), (cs (xR i))[n]? = some (.slice (sl (xI i n)) g.rules[n].length (cap (xI i n)))
 il : ∀ n (hn : n < g.rules.length), cs (xI i n) = uf g.rules[n] ∧ g.rules[n].length ≤ cap (xI i n)
 ifr : ∀ n, g.rules.length ≤ n → sl (xI i n) = none
 al : cs (xA i) = uf g.always
 ac : g.always.length ≤ cap (xA i)
structure lu (h : aA) (gs : List Grp) (tr : Nat → Sl Int) (sl : Ix → Option Addr) (cap : Ix → Nat) (cs : Ix → List Value) : Prop where
 fam : Fam szG h sl cap cs
 olen : (cs xO).length = gs.length * 5
 ocap : gs.length ≤ cap xO
 row : ∀ i (hi : i < gs.length), Hh gs[i] i tr sl cap cs
 trok : ∀ i, i < gs.length → ig h (tr i) ∧ ((tr i).xs ≠ [] → ∀ x b, InA (tr i).p b → ¬ InA (sl x) b)
 free : ∀ i, gs.length ≤ i → sl (xP i) = none ∧ sl (xR i) = none ∧ sl (xA i) = none ∧ ∀ n, sl (xI i n) = none
 kok : ∀ g ∈ gs, kOk .i64 h g.kind
theorem lu.fr {h h' : aA} {gs : List Grp} {tr : Nat → Sl Int} {sl : Ix → Option Addr} {cap : Ix → Nat} {cs : Ix → List Value} (g : lu h gs tr sl cap cs) (f : Fr (fun _ => False) h h') : lu h' gs tr sl cap cs :=
 ⟨g.fam.fr0 f, g.olen, g.ocap, g.row, fun i hi => ⟨bF.fr0 xz f (g.trok i hi).1, (g.trok i hi).2⟩, g.free, g.kok⟩
theorem lu.nil (h : aA) : lu h [] (fun _ => ⟨none, 0, []⟩) (fun _ => none) (fun _ => 0) (fun _ => []) :=
 ⟨⟨fun _ => ⟨rfl, rfl⟩, fun _ _ b hb => by obtain ⟨_, h, _⟩ := hb; cases h⟩, rfl, Nat.le_refl _, fun i hi => absurd hi (Nat.not_lt_zero _), fun i hi => absurd hi (Nat.not_lt_zero _), fun _ _ => ⟨rfl, rfl, rfl, fun _ => rfl⟩, fun g hg => by cases hg⟩
theorem xU {b : Nat} : ¬ InA none b := by rintro ⟨_, h, _⟩; cases h
theorem ig.at {h : aA} {s : Sl Int} (o : ig h s) {i : Nat} (hi : i < s.xs.length) : ∃ ad, s.p = some ad ∧ hcell h (ad.add (i * 1)) = some (.int .i64 s.xs[i]) := by
 obtain ⟨ad, h1, h2, _⟩ := o.at_ i hi; exact ⟨ad, h1, h2.at0 rfl⟩
theorem ig.fr {S : Nat → Prop} {h h' : aA} {s : Sl Int} (o : ig h s) (f : Fr S h h') (hs : ∀ b, InA s.p b → ¬ S b) : ig h' s :=
 ⟨o.len, o.cap, fun i hi => by
  obtain ⟨ad, h1, h2, h3⟩ := o.at_ i hi
  exact ⟨ad, h1, h2.fr f (by rw [uv]; exact hs _ ⟨ad, h1, rfl⟩), h3⟩⟩
theorem Is [Gh] (a b : Sl Int) {h : aA} (oa : ig h a) (ob : ig h b) (hl : b.xs.length < 2 ^ 60) {Q : Value → aA → Prop} (hk : Q (.bool (a.xs == b.xs)) h) :
  aD Tryz.prog jE #[.slice a.p a.xs.length a.cap, .slice b.p b.xs.length b.cap] h Q := by
 apply r6
 unfold mH
 refine rM (fun hne => ?_) (fun heq => ?_)
 ·have : (a.xs == b.xs) = false := by rw [beq_eq_false_iff_ne]; intro e; apply hne; rw [e]
  rw [this] at hk; exact hk
 have hlen : a.xs.length = b.xs.length := by omega
 refine aJ.mk (fun i h' => h' = h ∧ ∃ k : Nat, i = k ∧ k ≤ a.xs.length ∧ a.xs.take k = b.xs.take k) (fun i _ => a.xs.length - i.toNat) ⟨rfl, 0, rfl, by omega, by simp⟩ ?_
 rintro i h' ⟨rfl, k, rfl, hkl, hpre⟩
 unfold jw
 refine ifD (fun hlt => ?_) (fun hge => ?_)
 ·have hka : k < a.xs.length := by omega
  have hkb : k < b.xs.length := by omega
  obtain ⟨ad, ea, ca⟩ := oa.at hka
  obtain ⟨bd, eb, cb⟩ := ob.at hkb
  rw [ea, eb, Int.toNat_natCast]
  refine bO k rfl hka (aS (aB ca ?_))
  refine bO k rfl hkb (aS (aB cb ?_))
  refine rM (fun hne => ?_) (fun heq => ?_)
  ·have : (a.xs == b.xs) = false := by
    rw [beq_eq_false_iff_ne]; intro e; apply hne
    simp only [e]
   rw [this] at hk; exact hk
  ·rw [wr (by omega) (by omega)]
   refine ⟨⟨rfl, k + 1, by omega, by omega, ?_⟩, by omega⟩
   rw [List.take_succ_eq_append_getElem hka, List.take_succ_eq_append_getElem hkb, hpre, heq]
 ·have e1 : k = a.xs.length := by omega
  have : (a.xs == b.xs) = true := by
   rw [beq_iff_eq]
   rw [e1, List.take_length] at hpre
   rw [hlen, List.take_length] at hpre; exact hpre
  rw [this] at hk; exact hk
theorem ua : gM Tryz.prog bK qd Tryz.t3 (.int .i64 0) := ⟨Tryz.underlying46, by kernel_rfl, by kernel_rfl, by kernel_rfl, by decide⟩
theorem CY {h : aA} {s : Sl Int} (o : ig h s) {ad : Addr} (hp : s.p = some ad) : aW h ad (uf s.xs) := by
 intro j hj
 obtain ⟨bd, e, c⟩ := o.at (i := j) (by simpa using hj)
 rw [hp] at e; cases e
 simpa using c
theorem FQ [Gh] (s : Sl Int) {h : aA} (o : ig h s) (hl : s.xs.length ≤ 2 ^ 20) {Q : Value → aA → Prop}
  (hk : ∀ (s' : Sl Int) h', Fr (fun _ => False) h h' → ig h' s' → s'.xs = s.xs → (∀ b, InA s'.p b → h.size ≤ b) → Q (.slice s'.p s'.xs.length s'.cap) h') :
  aD Tryz.prog cR #[.slice s.p s.xs.length s.cap] h Q := by
 apply nb
 unfold jL
 refine ifB (fun hn => ?_) (fun hn => ?_)
 ·have hp : s.p = none := by simpa using hn
  have hx : s.xs = [] := by
   cases hs : s.xs with
   | nil => rfl
   | cons x l => obtain ⟨ad, e, _⟩ := o.at (i := 0) (by rw [hs]; simp); rw [hp] at e; cases e
  exact hk ⟨none, 0, []⟩ h (Fr.refl _ _) ⟨Nat.le_refl _, Nat.zero_le _, fun i hi => absurd hi (Nat.not_lt_zero _)⟩ hx.symm (fun b hb => (xU hb).elim)
 ·obtain ⟨ad, hp⟩ : ∃ ad, s.p = some ad := by cases h : s.p with | none => rw [h] at hn; cases hn | some a => exact ⟨a, rfl⟩
  refine aZ (vs := []) fun a h1 f1 ha o1 => ?_
  rw [hp]
  have es : (Tryz.t3).size = 1 := by kernel_rfl
  have eb : (Tryz.t3).bytes = 8 := by kernel_rfl
  have hc := CY (bF.fr0 xz f1 o) hp
  refine vo (a := some a) (cap := 0) ua Tryz.underlying46 (by intro k e; cases e) (n := 0) (cs := []) (xs := uf s.xs) ⟨o1.off, o1.spot, #[], _, (0, 0), .inl rfl, o1.blk, by simp, by simp, fun i hi => absurd hi (by simp)⟩ (by simp) (Nat.le_refl _)
   (.sl ad s.xs.length s.cap _ (by rw [es]; simp) hc) (by intro v hv; obtain ⟨n, _, rfl⟩ := List.mem_map.1 hv; rfl) (by rw [eb]; omega) fun a' c' h2 o2 hc' f2 hb => ⟨_, _, _, rfl, ?_⟩
  have hfr : ∀ b, InA (some a) b → ¬ b < h.size := by rintro b ⟨x, e, rfl⟩ hb; cases e; omega
  have f02 : Fr (fun _ => False) h h2 := f1.tr f2 (fun x hx hi => hfr x hi hx)
  rw [Nat.zero_add] at hc' ⊢
  refine hk ⟨a', c', s.xs⟩ h2 f02 ⟨hc', o.cap, fun i hi => ?_⟩ rfl (fun b hi => ?_)
  ·cases a' with
   | none => have := o2.1; simp at this; simp only at hi; rw [this] at hi; simp at hi
   | some ad' =>
    refine ⟨ad', rfl, fun j hj => ?_, ?_⟩
    ·have hj0 : j = 0 := by simp at hj; exact hj
     subst hj0
     rw [j9]
     refine o2.cells.at ?_
     simp at hi
     simp [hi]
    ·obtain ⟨_, _, _, hok⟩ := o.at_ i hi; exact hok
  ·rcases hb b hi with hb | hb
   ·exact Nat.le_of_not_lt (hfr b hb)
   ·have := f1.size; omega
end Go.Proofs.YtjmfpeiidlpngaaGreatDoor.Fp
namespace Go.Proofs.YtjmfpeiidlpngaaGreatDoor.Fp
set_option linter.unusedSimpArgs false
set_option linter.unusedVariables false
set_option maxRecDepth 20000
open Go
theorem lg {a : Addr} (hs : a.spot = none) (m n : Nat) : (a.add m).add n = a.add (m + n) := by
 obtain ⟨b, o, s⟩ := a
 simp only at hs
 subst hs
 rw [gG, gG, gG, Nat.add_assoc]
section
variable {h : aA} {gs : List Grp} {tr : Nat → Sl Int} {sl : Ix → Option Addr} {cap : Ix → Nat} {cs : Ix → List Value}
theorem lu.out (G : lu h gs tr sl cap cs) {i : Nat} (hi : i < gs.length) : ∃ ad, sl xO = some ad ∧ ad.spot = none ∧ aW h (ad.add (i * 5))
  [.int .i64 gs[i].kind, .slice (tr i).p (tr i).xs.length (tr i).cap, .slice (sl (xP i)) gs[i].pats.length (cap (xP i)), .slice (sl (xR i)) gs[i].rules.length (cap (xR i)), .slice (sl (xA i)) gs[i].always.length (cap (xA i))] := by
 obtain ⟨ad, e, c⟩ := G.fam.some_of (x := xO) (by rw [G.olen]; omega)
 have o := G.fam.own xO
 rw [e] at o
 obtain ⟨_, hs, _⟩ := o
 refine ⟨ad, e, hs, fun j hj => ?_⟩
 have r := G.row i hi
 rw [lg hs]
 refine c.at ?_
 simp only [List.length_cons, List.length_nil] at hj
 match j, hj with
 | 0, _ => exact r.o0
 | 1, _ => exact r.o1
 | 2, _ => exact r.o2
 | 3, _ => exact r.o3
 | 4, _ => exact r.o4
theorem Hh.congr {g : Grp} {i : Nat} {sl' : Ix → Option Addr} {cap' : Ix → Nat} {cs' : Ix → List Value} (r : Hh g i tr sl cap cs) (ho : ∀ j, j < 5 → (cs' xO)[i * 5 + j]? = (cs xO)[i * 5 + j]?)
  (hx : ∀ x : Ix, x.1 ≠ 0 → x.2.1 = i → sl' x = sl x ∧ cap' x = cap x ∧ cs' x = cs x) : Hh g i tr sl' cap' cs' := by
 have hP := hx (xP i) (show (1 : Nat) ≠ 0 by decide) rfl
 have hR := hx (xR i) (show (2 : Nat) ≠ 0 by decide) rfl
 have hA := hx (xA i) (show (4 : Nat) ≠ 0 by decide) rfl
 have hI := fun n => hx (xI i n) (show (3 : Nat) ≠ 0 by decide) rfl
 exact ⟨(ho 0 (by omega)).trans r.o0, (ho 1 (by omega)).trans r.o1, by rw [hP.1, hP.2.1]; exact (ho 2 (by omega)).trans r.o2, by rw [hR.1, hR.2.1]; exact (ho 3 (by omega)).trans r.o3,
  by rw [hA.1, hA.2.1]; exact (ho 4 (by omega)).trans r.o4, r.trx, by rw [hP.2.2]; exact r.pl, by rw [hP.2.1]; exact r.pc, by rw [hR.2.2]; exact r.rl, by rw [hR.2.1]; exact r.rc,
  fun n hn => by rw [hR.2.2, (hI n).1, (hI n).2.1]; exact r.rg n hn, fun n hn => by rw [(hI n).2.2, (hI n).2.1]; exact r.il n hn, fun n hn => by rw [(hI n).1]; exact r.ifr n hn, by rw [hA.2.2]; exact r.al, by rw [hA.2.1]; exact r.ac⟩
structure bS (N : Nat) (h h' : aA) (sl sl' : Ix → Option Addr) : Prop where
 fr : ∀ b, b < h.size → (∀ x, ¬ InA (sl x) b) → h'[b]? = h[b]?
 size : h.size ≤ h'.size
 old : ∀ x b, InA (sl' x) b → (∃ y, InA (sl y) b) ∨ h.size ≤ b
theorem bS.trans {N : Nat} {h h1 h2 : aA} {sl sl1 sl2 : Ix → Option Addr} (a : bS N h h1 sl sl1) (b : bS N h1 h2 sl1 sl2) : bS N h h2 sl sl2 := by
 refine ⟨fun x hx hn => ?_, Nat.le_trans a.size b.size, fun x y hy => ?_⟩
 ·rw [b.fr x (by have := a.size; omega) (fun z hz => ?_), a.fr x hx hn]
  rcases a.old z x hz with ⟨y, hy⟩ | hy
  ·exact hn y hy
  ·omega
 ·rcases b.old x y hy with ⟨z, hz⟩ | hz
  ·exact a.old z y hz
  ·have := a.size; exact .inr (by omega)
theorem bS.of_fr {N : Nat} {h h' : aA} {sl : Ix → Option Addr} (f : Fr (fun _ => False) h h') : bS N h h' sl sl := ⟨fun b hb _ => f.same b hb id, f.size, fun x _ hb => .inl ⟨x, hb⟩⟩
theorem bS.of_app {N : Nat} {h h' : aA} {sl : Ix → Option Addr} {x : Ix} {a' : Option Addr} (f : Fr (InA (sl x)) h h') (hn : ∀ b, InA a' b → InA (sl x) b ∨ h.size ≤ b) : bS N h h' sl (put sl x a') :=
 ⟨fun b hb hs => f.same b hb (hs x), f.size, fun y b hb => by
  by_cases e : y = x
  ·subst e; rw [bY] at hb
   rcases hn b hb with hb | hb
   ·exact .inl ⟨_, hb⟩
   ·exact .inr hb
  ·rw [bB _ _ e] at hb; exact .inl ⟨_, hb⟩⟩
theorem bS.of_set {N : Nat} {h h' : aA} {sl : Ix → Option Addr} {x : Ix} (f : Fr (InA (sl x)) h h') : bS N h h' sl sl :=
 ⟨fun b hb hs => f.same b hb (hs x), f.size, fun y b hb => .inl ⟨y, hb⟩⟩
theorem bS.frS {N : Nat} {h h' : aA} {sl sl' : Ix → Option Addr} (t : bS N h h' sl sl') : Fr (fun b => ∃ x, InA (sl x) b) h h' :=
 ⟨t.size, fun b hb hn => t.fr b hb fun x hx => hn ⟨x, hx⟩⟩
theorem ig.lt {s : Sl Int} (o : ig h s) (hx : s.xs ≠ []) {b : Nat} (hb : InA s.p b) : b < h.size := by
 obtain ⟨ad, e, rfl⟩ := hb
 have : 0 < s.xs.length := List.length_pos_iff.2 hx
 obtain ⟨ad', e', hc⟩ := o.at this
 rw [e] at e'; cases e'
 have := Gb hc
 rw [uv] at this; exact this
theorem ig.turn {N : Nat} {h' : aA} {s : Sl Int} {sl' : Ix → Option Addr} (o : ig h s) (t : bS N h h' sl sl') (ha : s.xs ≠ [] → ∀ x b, InA s.p b → ¬ InA (sl x) b) :
  ig h' s ∧ (s.xs ≠ [] → ∀ x b, InA s.p b → ¬ InA (sl' x) b) := by
 by_cases hx : s.xs = []
 ·exact ⟨⟨o.len, o.cap, fun i hi => by rw [hx] at hi; simp at hi⟩, fun h => absurd hx h⟩
 ·refine ⟨ig.fr o t.frS fun b hb ⟨x, hi⟩ => ha hx x b hb hi, fun _ x b hb hi => ?_⟩
  rcases t.old x b hi with ⟨y, hy⟩ | hy
  ·exact ha hx y b hb hy
  ·have := o.lt hx hb; omega
theorem lu.update {N : Nat} (G : lu h gs tr sl cap cs) {i : Nat} (hi : i < gs.length) (f : Grp → Grp) {h' : aA} {sl' : Ix → Option Addr} {cap' : Ix → Nat} {cs' : Ix → List Value} (F : Fam szG h' sl' cap' cs') (t : bS N h h' sl sl')
  (hrow : Hh (f gs[i]) i tr sl' cap' cs') (hother : ∀ x : Ix, x.1 ≠ 0 → x.2.1 ≠ i → sl' x = sl x ∧ cap' x = cap x ∧ cs' x = cs x)
  (hcap : cap' xO = cap xO) (hlen : (cs' xO).length = (cs xO).length) (hout : ∀ m, (m < i * 5 ∨ i * 5 + 5 ≤ m) → (cs' xO)[m]? = (cs xO)[m]?) (hkind : (f gs[i]).kind = gs[i].kind) : lu h' (gs.modify i f) tr sl' cap' cs' := by
 refine ⟨F, by rw [List.length_modify, hlen]; exact G.olen, by rw [List.length_modify, hcap]; exact G.ocap, fun j hj => ?_, fun j hj => ?_, fun j hj => ?_, fun g hg => ?_⟩
 ·rw [List.length_modify] at hj
  rw [List.getElem_modify]
  by_cases e : i = j
  ·subst e; rw [if_pos rfl]; exact hrow
  ·rw [if_neg e]
   refine (G.row j hj).congr (fun m hm => hout _ (by omega)) fun x h0 h1 => hother x h0 (by omega)
 ·rw [List.length_modify] at hj
  exact ig.turn (G.trok j hj).1 t (G.trok j hj).2
 ·rw [List.length_modify] at hj
  obtain ⟨h1, h2, h3, h4⟩ := G.free j hj
  have o := fun (x : Ix) (h0 : x.1 ≠ 0) (h1 : x.2.1 = j) => (hother x h0 (by omega)).1
  exact ⟨(o (xP j) (show (1 : Nat) ≠ 0 by decide) rfl).trans h1, (o (xR j) (show (2 : Nat) ≠ 0 by decide) rfl).trans h2, (o (xA j) (show (4 : Nat) ≠ 0 by decide) rfl).trans h3, fun n => (o (xI j n) (show (3 : Nat) ≠ 0 by decide) rfl).trans (h4 n)⟩
 ·rcases md hg with hg | ⟨y, hy, e⟩
  ·exact G.kok g hg
  ·obtain ⟨m, hm, hge⟩ := List.mem_iff_getElem.1 hg
   rw [List.length_modify] at hm
   rw [List.getElem_modify] at hge
   split at hge
   ·rename_i e2; subst e2; rw [← hge]; show kOk .i64 h (f gs[i]).kind; rw [hkind]; exact G.kok _ (List.getElem_mem hi)
   ·rw [← hge]; exact G.kok _ (List.getElem_mem hm)
theorem fU {a b : Nat} (h : a ≠ b) (i j n m : Nat) : ((a, i, n) : Ix) ≠ (b, j, m) := fun e => h (congrArg Prod.fst e)
theorem ye {n m : Nat} (h : n ≠ m) (a b i j : Nat) : ((a, i, n) : Ix) ≠ (b, j, m) := fun e => h (congrArg (fun x : Ix => x.2.2) e)
theorem Bn {l : List Value} {i j m : Nat} {v : Value} (hj : j < 5) (hm : m < i * 5 ∨ i * 5 + 5 ≤ m) : (l.set (i * 5 + j) v)[m]? = l[m]? := by
 rw [List.getElem?_set_ne (by omega)]
theorem jC {α : Type} {f : Ix → α} {a i n : Nat} {v : α} {x : Ix} (h : x.2.1 ≠ i) : put f (a, i, n) v x = f x := bB _ _ fun e => h (by rw [e])
theorem oE {α : Type} {f : Ix → α} {v : α} {x : Ix} (h : x.1 ≠ 0) : put f xO v x = f x := bB _ _ fun e => h (by rw [e])
theorem pv {α : Type} {f : Ix → α} {a i n : Nat} {v : α} (h : a ≠ 0) : put f (a, i, n) v xO = f xO := bB _ _ fun e => h (congrArg Prod.fst e).symm
theorem lu.always {N : Nat} (G : lu h gs tr sl cap cs) {i : Nat} (hi : i < gs.length) (k : Nat) {a' : Option Addr} {cap' : Nat} {h' : aA} (hc : gs[i].always.length + 1 ≤ cap')
  (F : Fam szG h' (put sl (xA i) a') (put cap (xA i) cap') (put (put cs (xA i) (cs (xA i) ++ [.int .i64 k])) xO ((put cs (xA i) (cs (xA i) ++ [.int .i64 k]) xO).set (i * 5 + 4) (.slice a' (gs[i].always.length + 1) cap'))))
  (t : bS N h h' sl (put sl (xA i) a')) : lu h' (gs.modify i fun g => { g with always := g.always ++ [(k : Int)] }) tr (put sl (xA i) a') (put cap (xA i) cap') (put (put cs (xA i) (cs (xA i) ++ [.int .i64 k])) xO ((put cs (xA i) (cs (xA i) ++ [.int .i64 k]) xO).set (i * 5 + 4) (.slice a' (gs[i].always.length + 1) cap'))) := by
 have r := G.row i hi
 have hlen := G.olen
 have eo : put cs (xA i) (cs (xA i) ++ [.int .i64 k]) xO = cs xO := pv (by decide)
 rw [eo] at F ⊢
 refine G.update hi _ F t ?_ (fun x h0 h1 => ⟨jC h1, jC h1, by rw [oE h0, jC h1]⟩) (pv (by decide)) (by rw [bY, List.length_set]) (fun m hm => by rw [bY, Bn (by omega) hm]) rfl
 have nP : (xP i) ≠ xA i := fU (by decide) _ _ _ _
 have nR : (xR i) ≠ xA i := fU (by decide) _ _ _ _
 have nI : ∀ n, (xI i n) ≠ xA i := fun n => fU (by decide) _ _ _ _
 have zP : (xP i) ≠ xO := fU (by decide) _ _ _ _
 have zR : (xR i) ≠ xO := fU (by decide) _ _ _ _
 have zA : (xA i) ≠ xO := fU (by decide) _ _ _ _
 have zI : ∀ n, (xI i n) ≠ xO := fun n => fU (by decide) _ _ _ _
 constructor <;> (try simp only [bY, bB _ _ nP, bB _ _ nR, bB _ _ (nI _), bB _ _ zP, bB _ _ zR, bB _ _ zA, bB _ _ (zI _)])
 ·rw [List.getElem?_set_ne (by omega)]; exact r.o0
 ·rw [List.getElem?_set_ne (by omega)]; exact r.o1
 ·rw [List.getElem?_set_ne (by omega)]; exact r.o2
 ·rw [List.getElem?_set_ne (by omega)]; exact r.o3
 ·rw [List.getElem?_set_self (by omega)]; simp
 ·exact r.trx
 ·exact r.pl
 ·exact r.pc
 ·exact r.rl
 ·exact r.rc
 ·exact r.rg
 ·exact r.il
 ·exact r.ifr
 ·rw [r.al]; simp [uf]
 ·simpa using hc
theorem lu.inner {N : Nat} (G : lu h gs tr sl cap cs) {i : Nat} (hi : i < gs.length) {n : Nat} (hn : n < gs[i].rules.length) (k : Nat) {a' : Option Addr} {cap' : Nat} {h' : aA} (hc : gs[i].rules[n].length + 1 ≤ cap')
  (F : Fam szG h' (put sl (xI i n) a') (put cap (xI i n) cap') (put (put cs (xI i n) (cs (xI i n) ++ [.int .i64 k])) (xR i) ((put cs (xI i n) (cs (xI i n) ++ [.int .i64 k]) (xR i)).set n (.slice a' (gs[i].rules[n].length + 1) cap'))))
  (t : bS N h h' sl (put sl (xI i n) a')) : lu h' (gs.modify i fun g => { g with rules := g.rules.modify n (· ++ [(k : Int)]) }) tr (put sl (xI i n) a') (put cap (xI i n) cap')
   (put (put cs (xI i n) (cs (xI i n) ++ [.int .i64 k])) (xR i) ((put cs (xI i n) (cs (xI i n) ++ [.int .i64 k]) (xR i)).set n (.slice a' (gs[i].rules[n].length + 1) cap'))) := by
 have r := G.row i hi
 have eo : put cs (xI i n) (cs (xI i n) ++ [.int .i64 k]) (xR i) = cs (xR i) := bB _ _ (fU (by decide) _ _ _ _)
 rw [eo] at F ⊢
 refine G.update hi _ F t ?_ (fun x h0 h1 => ⟨jC h1, jC h1, by rw [jC h1, jC h1]⟩) (pv (by decide)) (by rw [pv (by decide), pv (by decide)]) (fun m hm => by rw [pv (by decide), pv (by decide)]) rfl
 have nP : (xP i) ≠ xI i n := fU (by decide) _ _ _ _
 have nR : (xR i) ≠ xI i n := fU (by decide) _ _ _ _
 have nA : (xA i) ≠ xI i n := fU (by decide) _ _ _ _
 have nO : xO ≠ xI i n := fU (by decide) _ _ _ _
 have zP : (xP i) ≠ xR i := fU (by decide) _ _ _ _
 have zA : (xA i) ≠ xR i := fU (by decide) _ _ _ _
 have zI : ∀ n, (xI i n) ≠ xR i := fun n => fU (by decide) _ _ _ _
 have zO : xO ≠ xR i := fU (by decide) _ _ _ _
 have rl := r.rl
 constructor <;> (try simp only [bY, bB _ _ nP, bB _ _ nR, bB _ _ nA, bB _ _ nO, bB _ _ zP, bB _ _ zA, bB _ _ (zI _), bB _ _ zO, List.length_modify, List.length_set])
 ·exact r.o0
 ·exact r.o1
 ·exact r.o2
 ·exact r.o3
 ·exact r.o4
 ·exact r.trx
 ·exact r.pl
 ·exact r.pc
 ·exact r.rl
 ·exact r.rc
 ·intro m hm
  rw [List.getElem_modify]
  by_cases e : n = m
  ·subst e; rw [if_pos rfl, bY, bY, List.getElem?_set_self (by omega)]; simp
  ·rw [if_neg e, List.getElem?_set_ne e, bB _ _ (ye (fun x => e x.symm) _ _ _ _), bB _ _ (ye (fun x => e x.symm) _ _ _ _)]; exact r.rg m hm
 ·intro m hm
  rw [List.getElem_modify]
  by_cases e : n = m
  ·subst e; rw [if_pos rfl, bY, bY, (r.il n hn).1]; exact ⟨by simp [uf], by simpa using hc⟩
  ·rw [if_neg e, bB _ _ (ye (fun x => e x.symm) _ _ _ _), bB _ _ (ye (fun x => e x.symm) _ _ _ _)]; exact r.il m hm
 ·intro m hm
  rw [bB _ _ (ye (by omega) _ _ _ _)]; exact r.ifr m hm
 ·exact r.al
 ·exact r.ac
theorem lu.pattern {N : Nat} (G : lu h gs tr sl cap cs) {i : Nat} (hi : i < gs.length) (p : List UInt8 × Bool) {a1 a2 : Option Addr} {c1 c2 : Nat} {h' : aA} (hc1 : gs[i].pats.length + 1 ≤ c1) (hc2 : gs[i].rules.length + 1 ≤ c2)
  {cs' : Ix → List Value} (e0 : cs' xO = ((cs xO).set (i * 5 + 2) (.slice a1 (gs[i].pats.length + 1) c1)).set (i * 5 + 3) (.slice a2 (gs[i].rules.length + 1) c2))
  (e1 : cs' (xP i) = cs (xP i) ++ [.string (bs p.1), .bool p.2]) (e2 : cs' (xR i) = cs (xR i) ++ [.slice none 0 0]) (e3 : ∀ x : Ix, x ≠ xO → x ≠ xP i → x ≠ xR i → cs' x = cs x)
  (F : Fam szG h' (put (put sl (xP i) a1) (xR i) a2) (put (put cap (xP i) c1) (xR i) c2) cs') (t : bS N h h' sl (put (put sl (xP i) a1) (xR i) a2)) :
  lu h' (gs.modify i fun g => { g with pats := g.pats ++ [p], rules := g.rules ++ [[]] }) tr (put (put sl (xP i) a1) (xR i) a2) (put (put cap (xP i) c1) (xR i) c2) cs' := by
 have r := G.row i hi
 have hlen := G.olen
 refine G.update hi _ F t ?_ (fun x h0 h1 => ⟨by rw [jC h1, jC h1], by rw [jC h1, jC h1], e3 x (fun e => h0 (by rw [e])) (fun e => h1 (by rw [e])) (fun e => h1 (by rw [e]))⟩) (by rw [pv (by decide), pv (by decide)]) (by rw [e0, List.length_set, List.length_set])
  (fun m hm => by rw [e0, Bn (by omega) hm, Bn (by omega) hm]) rfl
 have nPR : (xP i) ≠ xR i := fU (by decide) _ _ _ _
 have nAP : (xA i) ≠ xP i := fU (by decide) _ _ _ _
 have nAR : (xA i) ≠ xR i := fU (by decide) _ _ _ _
 have nIP : ∀ n, (xI i n) ≠ xP i := fun n => fU (by decide) _ _ _ _
 have nIR : ∀ n, (xI i n) ≠ xR i := fun n => fU (by decide) _ _ _ _
 have eA := e3 (xA i) (fU (by decide) _ _ _ _) nAP nAR
 have eI := fun n => e3 (xI i n) (fU (by decide) _ _ _ _) (nIP n) (nIR n)
 have rl := r.rl
 have hfree := r.ifr gs[i].rules.length (Nat.le_refl _)
 have hnone := G.fam.none hfree
 constructor <;> (try simp only [e0, e1, e2, eA, eI, bY, bB _ _ nPR, bB _ _ nAP, bB _ _ nAR, bB _ _ (nIP _), bB _ _ (nIR _), List.length_append, List.length_cons, List.length_nil])
 ·rw [List.getElem?_set_ne (by omega), List.getElem?_set_ne (by omega)]; exact r.o0
 ·rw [List.getElem?_set_ne (by omega), List.getElem?_set_ne (by omega)]; exact r.o1
 ·rw [List.getElem?_set_ne (by omega), List.getElem?_set_self (by omega)]
 ·rw [List.getElem?_set_self (by rw [List.length_set]; omega)]
 ·rw [List.getElem?_set_ne (by omega), List.getElem?_set_ne (by omega)]; exact r.o4
 ·exact r.trx
 ·rw [r.pl]; simp
 ·exact hc1
 ·omega
 ·exact hc2
 ·intro n hn
  by_cases e : n < gs[i].rules.length
  ·rw [List.getElem?_append_left (by omega), List.getElem_append_left e]; exact r.rg n e
  ·have : n = gs[i].rules.length := by omega
   subst this
   rw [List.getElem?_append_right (by omega), List.getElem_append_right (Nat.le_refl _), hfree, hnone.2]
   simp [rl]
 ·intro n hn
  by_cases e : n < gs[i].rules.length
  ·rw [List.getElem_append_left e]; exact r.il n e
  ·have : n = gs[i].rules.length := by omega
   subst this
   rw [List.getElem_append_right (Nat.le_refl _), hnone.1]
   simp
 ·intro n hn; exact r.ifr n (by omega)
 ·exact r.al
 ·exact r.ac
theorem lu.push {N : Nat} (G : lu h gs tr sl cap cs) (kind : Int) (hkind : kOk .i64 h kind) (T : Sl Int) {a' : Option Addr} {c' : Nat} {h' : aA} (hc : gs.length + 1 ≤ c')
  (F : Fam szG h' (put sl xO a') (put cap xO c') (put cs xO (cs xO ++ [.int .i64 kind, .slice T.p T.xs.length T.cap, .slice none 0 0, .slice none 0 0, .slice none 0 0]))) (t : bS N h h' sl (put sl xO a'))
  (hT : ig h' T) (hTa : T.xs ≠ [] → ∀ x b, InA T.p b → ¬ InA (put sl xO a' x) b) :
  lu h' (gs ++ [⟨kind, T.xs, [], [], []⟩]) (put tr gs.length T) (put sl xO a') (put cap xO c') (put cs xO (cs xO ++ [.int .i64 kind, .slice T.p T.xs.length T.cap, .slice none 0 0, .slice none 0 0, .slice none 0 0])) := by
 have hlen := G.olen
 refine ⟨F, by rw [bY, List.length_append, hlen, List.length_append]; simp; omega, by rw [bY, List.length_append]; simpa using hc, fun j hj => ?_, fun j hj => ?_, fun j hj => ?_, fun g hg => ?_⟩
 ·rw [List.length_append, List.length_singleton] at hj
  by_cases e : j < gs.length
  ·rw [List.getElem_append_left e]
   have r := (G.row j e).congr (sl' := put sl xO a') (cap' := put cap xO c') (cs' := put cs xO (cs xO ++ [.int .i64 kind, .slice T.p T.xs.length T.cap, .slice none 0 0, .slice none 0 0, .slice none 0 0]))
    (fun m hm => by rw [bY, List.getElem?_append_left (by omega)]) fun x h0 h1 => ⟨oE h0, oE h0, oE h0⟩
   have e2 : put tr gs.length T j = tr j := bB _ _ (by omega)
   exact ⟨r.o0, by rw [e2]; exact r.o1, r.o2, r.o3, r.o4, by rw [e2]; exact r.trx, r.pl, r.pc, r.rl, r.rc, r.rg, r.il, r.ifr, r.al, r.ac⟩
  ·have e : j = gs.length := by omega
   subst e
   rw [List.getElem_append_right (Nat.le_refl _)]
   simp only [Nat.sub_self, List.getElem_cons_zero]
   obtain ⟨h1, h2, h3, h4⟩ := G.free gs.length (Nat.le_refl _)
   have n1 := G.fam.none h1
   have n2 := G.fam.none h2
   have n3 := G.fam.none h3
   have zP : (xP gs.length) ≠ xO := fU (by decide) _ _ _ _
   have zR : (xR gs.length) ≠ xO := fU (by decide) _ _ _ _
   have zA : (xA gs.length) ≠ xO := fU (by decide) _ _ _ _
   have zI : ∀ n, (xI gs.length n) ≠ xO := fun n => fU (by decide) _ _ _ _
   constructor <;> (try simp only [bY, bB _ _ zP, bB _ _ zR, bB _ _ zA, bB _ _ (zI _), h1, h2, h3, h4, n1, n2, n3, List.length_nil])
   ·rw [List.getElem?_append_right (by omega), hlen]; simp
   ·rw [List.getElem?_append_right (by omega), hlen, show gs.length * 5 + 1 - gs.length * 5 = 1 by omega]; rfl
   ·rw [List.getElem?_append_right (by omega), hlen, show gs.length * 5 + 2 - gs.length * 5 = 2 by omega]; rfl
   ·rw [List.getElem?_append_right (by omega), hlen, show gs.length * 5 + 3 - gs.length * 5 = 3 by omega]; rfl
   ·rw [List.getElem?_append_right (by omega), hlen, show gs.length * 5 + 4 - gs.length * 5 = 4 by omega]; rfl
   ·rfl
   ·exact Nat.le_refl _
   ·exact Nat.le_refl _
   ·intro n hn; exact absurd hn (Nat.not_lt_zero _)
   ·intro n hn; exact absurd hn (Nat.not_lt_zero _)
   ·intro n _; trivial
   ·rfl
   ·exact Nat.le_refl _
 ·rw [List.length_append, List.length_singleton] at hj
  by_cases e : j < gs.length
  ·have e2 : put tr gs.length T j = tr j := bB _ _ (by omega)
   rw [e2]
   exact ig.turn (G.trok j e).1 t (G.trok j e).2
  ·have e : j = gs.length := by omega
   rw [e, bY]
   exact ⟨hT, hTa⟩
 ·rw [List.length_append, List.length_singleton] at hj
  obtain ⟨h1, h2, h3, h4⟩ := G.free j (by omega)
  exact ⟨(oE (show (1 : Nat) ≠ 0 by decide)).trans h1, (oE (show (2 : Nat) ≠ 0 by decide)).trans h2, (oE (show (4 : Nat) ≠ 0 by decide)).trans h3, fun n => (oE (show (3 : Nat) ≠ 0 by decide)).trans (h4 n)⟩
 ·rcases List.mem_append.1 hg with hg | hg
  ·exact G.kok g hg
  ·rw [List.mem_singleton.1 hg]; exact hkind
end
end Go.Proofs.YtjmfpeiidlpngaaGreatDoor.Fp
namespace Go.Proofs.YtjmfpeiidlpngaaGreatDoor.Fp
set_option linter.unusedSimpArgs false
set_option linter.unusedVariables false
set_option maxRecDepth 20000
open Go
theorem Gd {α : Type} (A B : α → Value) : ∀ (l : List α) (n : Nat) (hn : n < l.length), (l.flatMap fun p => [A p, B p])[n * 2]? = some (A l[n]) ∧ (l.flatMap fun p => [A p, B p])[n * 2 + 1]? = some (B l[n])
 | [], n, hn => absurd hn (Nat.not_lt_zero _)
 | x :: l, 0, hn => by simp
 | x :: l, n + 1, hn => by
  have := Gd A B l n (by simpa using hn)
  have e1 : (n + 1) * 2 = n * 2 + 2 := by omega
  rw [e1]
  simpa using this
theorem ya {α : Type} {p : α → Bool} {l : List α} {k : Nat} (hk : k < l.length) (h1 : p l[k] = true) (h2 : ∀ j (hj : j < l.length), j < k → p l[j] = false) : l.findIdx p = k :=
 (List.findIdx_eq hk).2 ⟨h1, fun j hj => h2 j (by omega) hj⟩
theorem yX {α : Type} {p : α → Bool} {l : List α} (h : ∀ j (hj : j < l.length), p l[j] = false) : l.findIdx p = l.length := by
 rw [List.findIdx_eq_length]
 intro x hx
 obtain ⟨j, hj, rfl⟩ := List.mem_iff_getElem.1 hx
 exact h j hj
theorem I7 [Gh] (r : Ru) (kind : Int) (T : Sl Int) (a2 a3 a4 : Option Addr) (n2 n3 n4 c2 c3 c4 : Nat) {t5 : Addr} {h : aA} (o5 : Own h t5 r.vals cO) (ok : r.ok h) (hT : ig h T) (ht : r.Transforms.xs.length ≤ 2 ^ 20) {K : Value → aA → Prop}
  (hk : ∀ h', Fr (fun _ => False) h h' → K (.bool (kind == r.Kind && T.xs == r.Transforms.xs)) h') :
  lQ Tryz.prog (.func (.func ju) #[] #[.pointer (some t5)]) #[.agg #[.int .i64 kind, .slice T.p T.xs.length T.cap, .slice a2 n2 c2, .slice a3 n3 c3, .slice a4 n4 c4]] h K := by
 rw [cF]
 simp only [List.append_toArray, List.nil_append, List.cons_append]
 apply sa
 unfold mU
 refine aZ fun a h1 f1 ha o1 => ?_
 refine aB (o1.cells.at0 rfl) (aB ((Own.fr0 f1 o5).cells.at rfl) ?_)
 refine ifE (fun he => ?_) (fun hne => ?_)
 ·refine aC (o1.cells.at rfl) (aC ((Own.fr0 f1 o5).cells.at rfl) ?_)
  refine Is T r.Transforms (bF.fr0 xz f1 hT) (bF.fr0 xz f1 ok.k13) (by omega) ⟨_, rfl, ?_⟩
  have := hk _ f1
  have e : (kind == r.Kind) = true := by simpa using he
  rw [e, Bool.true_and] at this; exact this
 ·have := hk _ f1
  have e : (kind == r.Kind) = false := by simpa using hne
  rw [e, Bool.false_and] at this; exact this
section
variable {h : aA} {gs : List Grp} {tr : Nat → Sl Int} {sl : Ix → Option Addr} {cap : Ix → Nat} {cs : Ix → List Value}
theorem FU [Gh] (G : lu h gs tr sl cap cs) (r : Ru) {t5 : Addr} (o5 : Own h t5 r.vals cO) (ok : r.ok h) (ht : r.Transforms.xs.length ≤ 2 ^ 20) (hl : gs.length ≤ 2 ^ 20) {Q : Value → aA → Prop}
  (hk : ∀ h', Fr (fun _ => False) h h' → Q (.int .i64 (gs.findIdx (rt r) : Nat)) h') :
  aD Tryz.prog fQ #[.slice (sl xO) gs.length (cap xO), .func (.func ju) #[] #[.pointer (some t5)]] h Q := by
 apply oz
 unfold jG
 refine aJ.mk (fun i h' => ∃ k : Nat, i = k ∧ k ≤ gs.length ∧ Fr (fun _ => False) h h' ∧ ∀ j (hj : j < gs.length), j < k → rt r gs[j] = false) (fun i _ => gs.length - i.toNat) ⟨0, rfl, by omega, Fr.refl _ _, fun j _ hj => by omega⟩ ?_
 rintro i h1 ⟨k, rfl, hkl, f1, hpre⟩
 unfold fP
 refine ifD (fun hlt => ?_) (fun hge => ?_)
 ·have hks : k < gs.length := by omega
  have G1 := G.fr f1
  obtain ⟨ad, eo, hs, cc⟩ := G1.out hks
  refine bO k rfl hks ?_
  rw [eo, Int.toNat_natCast]
  refine aS ?_
  refine (aB (cc.at0 rfl) (aC (cc.at rfl) (aC (cc.at rfl) (aC (cc.at rfl) (aC (cc.at rfl) ?_)))))
  refine qf rfl rfl fun t6 h2 f2 _ o6 => ?_
  refine (aB (o6.cells.at0 rfl) (aC (o6.cells.at rfl) (aC (o6.cells.at rfl) (aC (o6.cells.at rfl) (aC (o6.cells.at rfl) ?_)))))
  have f12 := f1.trans f2
  refine I7 r _ (tr k) _ _ _ _ _ _ _ _ _ (Own.fr0 f12 o5) (aK.ok_fr _ _ _ f12 ok) (bF.fr0 xz f12 (G.trok k hks).1) ht fun h3 f3 => ⟨_, rfl, ?_⟩
  have ef : (gs[k].kind == r.Kind && (tr k).xs == r.Transforms.xs) = rt r gs[k] := by rw [(G.row k hks).trx]; rfl
  rw [ef]
  refine ifB (fun hf => ?_) (fun hf => ?_)
  ·have := hk _ (f12.trans f3)
   rw [ya hks hf hpre] at this; exact this
  ·rw [wr (by omega) (by omega)]
   refine ⟨⟨k + 1, by omega, by omega, f12.trans f3, fun j hj hjk => ?_⟩, by omega⟩
   by_cases e : j = k
   ·subst e; exact hf
   ·exact hpre j hj (by omega)
 ·have e : k = gs.length := by omega
  unfold fM
  have := hk _ f1
  rw [yX fun j hj => hpre j hj (by omega)] at this; exact this
theorem Ic [Gh] (p q : List UInt8 × Bool) {t8 : Addr} {h : aA} {T : TypeId} (o8 : Own h t8 [.string (bs p.1), .bool p.2] T) {K : Value → aA → Prop} (hk : ∀ h', Fr (fun _ => False) h h' → K (.bool (q == p)) h') :
  lQ Tryz.prog (.func (.func jB) #[] #[.pointer (some t8)]) #[.agg #[.string (bs q.1), .bool q.2]] h K := by
 rw [cF]
 simp only [List.append_toArray, List.nil_append, List.cons_append]
 apply rZ
 unfold mS
 refine aZ fun a h1 f1 ha o1 => ?_
 refine bH (o1.cells.at0 rfl) (aN (o1.cells.at rfl) (bH ((Own.fr0 f1 o8).cells.at0 rfl) (aN ((Own.fr0 f1 o8).cells.at rfl) ?_)))
 have := hk _ f1
 have e : (q == p) = ((bs q.1 == bs p.1) && ((q.2 == p.2) && true)) := by rw [Jb, Bool.and_true]; rfl
 rw [e] at this; exact this
theorem Hn [Gh] (G : lu h gs tr sl cap cs) {i : Nat} (hi : i < gs.length) (p : List UInt8 × Bool) {t8 : Addr} {T : TypeId} (o8 : Own h t8 [.string (bs p.1), .bool p.2] T) (hl : gs[i].pats.length ≤ 2 ^ 20) {Q : Value → aA → Prop}
  (hk : ∀ h', Fr (fun _ => False) h h' → Q (.int .i64 (gs[i].pats.findIdx (· == p) : Nat)) h') :
  aD Tryz.prog eZ #[.slice (sl (xP i)) gs[i].pats.length (cap (xP i)), .func (.func jB) #[] #[.pointer (some t8)]] h Q := by
 apply ng
 unfold jp
 refine aJ.mk (fun j h' => ∃ k : Nat, j = k ∧ k ≤ gs[i].pats.length ∧ Fr (fun _ => False) h h' ∧ ∀ j (hj : j < gs[i].pats.length), j < k → (gs[i].pats[j] == p) = false) (fun j _ => gs[i].pats.length - j.toNat) ⟨0, rfl, by omega, Fr.refl _ _, fun j _ hj => by omega⟩ ?_
 rintro j h1 ⟨k, rfl, hkl, f1, hpre⟩
 unfold eK
 refine ifD (fun hlt => ?_) (fun hge => ?_)
 ·have hks : k < gs[i].pats.length := by omega
  have G1 := G.fr f1
  have hpl := (G.row i hi).pl
  have hget := Gd (fun p : List UInt8 × Bool => Value.string (bs p.1)) (fun p => Value.bool p.2) gs[i].pats k hks
  rw [← hpl] at hget
  obtain ⟨ad, eo, cc⟩ := G1.fam.some_of (x := xP i) (by intro e; rw [List.length_eq_zero_iff.1 e] at hget; simp at hget)
  have hs : ad.spot = none := by have := G1.fam.own (xP i); rw [eo] at this; exact this.2.1
  refine bO k rfl hks ?_
  rw [eo, Int.toNat_natCast]
  refine aS ?_
  refine bH (cc.at hget.1) (aN (by rw [lg hs]; exact cc.at hget.2) ?_)
  refine qf rfl rfl fun t6 h2 f2 _ o6 => ?_
  refine (bH (o6.cells.at0 rfl) (aN (o6.cells.at rfl) ?_))
  have f12 := f1.trans f2
  refine Ic p gs[i].pats[k] (Own.fr0 f12 o8) fun h3 f3 => ⟨_, rfl, ?_⟩
  refine ifB (fun hf => ?_) (fun hf => ?_)
  ·have := hk _ (f12.trans f3)
   rw [ya hks hf hpre] at this; exact this
  ·rw [wr (by omega) (by omega)]
   refine ⟨⟨k + 1, by omega, by omega, f12.trans f3, fun j hj hjk => ?_⟩, by omega⟩
   by_cases e : j = k
   ·subst e; exact hf
   ·exact hpre j hj (by omega)
 ·have e : k = gs[i].pats.length := by omega
  unfold eY
  have := hk _ f1
  rw [yX fun j hj => hpre j hj (by omega)] at this; exact this
theorem Ke {x y : Ix} (F : Fam szG h sl cap cs) {ad : Addr} (hx : sl x = some ad) (hn : x ≠ y) : ¬ InA (sl y) ad.block := fun hb => hn (F.apart _ _ _ ⟨ad, hx, rfl⟩ hb)
theorem J1 {N : Nat} (G : lu h gs tr sl cap cs) {i : Nat} (hi : i < gs.length) {n : Nat} (hn : n < gs[i].rules.length) (hb : gs[i].rules[n].length ≤ 2 ^ 20) (k : Nat) {oa : Option Addr} {on oc : Nat} {ad : Addr} (hoa : sl xO = some ad)
  {ta : Option Addr} {tn tc : Nat} {tl t13 : Int} {Q : QT} {Kn : Option Addr × Nat × Nat × Int → aA → Prop}
  (hk : ∀ h' sl' cap' cs', lu h' (gs.modify i fun g => { g with rules := g.rules.modify n (· ++ [(k : Int)]) }) tr sl' cap' cs' → bS N h h' sl sl' → sl' xO = sl xO → cap' xO = cap xO → Kn (oa, on, oc, IntKind.wrap .i64 (t13 + 1)) h') :
  fC oa on oc k (ad.add (i * 5)) n ta tn tc tl t13 Q Kn h := by
 unfold fC
 obtain ⟨ad', eo, hs, cc⟩ := G.out hi
 rw [hoa] at eo; cases eo
 have r := G.row i hi
 refine aC (cc.at rfl) (aC (cc.at rfl) ?_)
 obtain ⟨rd, er, rc⟩ := G.fam.some_of (x := xR i) (by rw [r.rl]; omega)
 refine bO n rfl hn ?_
 rw [er, Int.toNat_natCast]
 refine aS (aC (by rw [Nat.mul_one]; exact rc.at (r.rg n hn)) ?_)
 refine aZ (vs := [.int .i64 k]) fun b h1 f1 hb1 o1 => ?_
 refine ⟨aC ((aW.fr0 f1 cc).at rfl) (by rw [er]), aC ((aW.fr0 f1 cc).at rfl) (by rw [er]), aC (by rw [Nat.mul_one]; exact (aW.fr0 f1 rc).at (r.rg n hn)) rfl, ?_⟩
 have es : (Tryz.t3).size = 1 := by kernel_rfl
 have eb : (Tryz.t3).bytes = 8 := by kernel_rfl
 have hil := r.il n hn
 have G1 := G.fr f1
 refine Fam.app ua Tryz.underlying46 (by intro k e; cases e) G1.fam (xI i n) (by rw [es]; rfl) (by rw [hil.1]; simp [uf, szG]) hil.2 (Src.one o1 (by rw [es]; rfl) 1) (by intro v hv; rw [List.mem_singleton.1 hv]; rfl) (by rw [eb]; omega) fun a' c' h2 F2 hc2 f2 hn2 => ⟨_, _, _, rfl, ?_⟩
 have nR : (xR i) ≠ xI i n := fU (by decide) _ _ _ _
 have nO : xO ≠ xI i n := fU (by decide) _ _ _ _
 have hnO := Ke G1.fam hoa nO
 refine ⟨aC ((aW.fr (aW.fr0 f1 cc) f2 (by rw [uv]; exact hnO)).at rfl) (by rw [er]), ?_⟩
 refine bO n rfl hn (aS ?_)
 rw [Nat.mul_one]
 refine F2.set (xR i) (by rw [bB _ _ nR]; exact er) (by rw [bB _ _ nR, r.rl]; exact hn) rfl fun h3 F3 f3 => ?_
 have t2 : bS N h h2 sl (put sl (xI i n) a') := (bS.of_fr f1).trans (bS.of_app f2 hn2)
 have t3 : bS N h h3 sl (put sl (xI i n) a') := t2.trans (bS.of_set f3)
 exact hk _ _ _ _ (G.inner hi hn k hc2 F3 t3) t3 (bB _ _ nO) (bB _ _ nO)
end
end Go.Proofs.YtjmfpeiidlpngaaGreatDoor.Fp
namespace Go.Proofs.YtjmfpeiidlpngaaGreatDoor.Fp
set_option linter.unusedSimpArgs false
set_option linter.unusedVariables false
set_option maxRecDepth 20000
open Go
theorem JD : gM Tryz.prog dZ bC Tryz.t160 (.agg #[.string ⟨#[]⟩, .bool false]) := ⟨Tryz.underlying84, by kernel_rfl, by kernel_rfl, by kernel_rfl, by decide⟩
theorem Ko : gM Tryz.prog qG bK Tryz.t46 (.slice none 0 0) := ⟨Tryz.underlying85, by kernel_rfl, by kernel_rfl, by kernel_rfl, by decide⟩
theorem Dc : gM Tryz.prog mO mw Tryz.t87 (.agg #[.int .i64 0, .slice none 0 0, .slice none 0 0, .slice none 0 0, .slice none 0 0]) := ⟨Tryz.underlying82, by kernel_rfl, by kernel_rfl, by kernel_rfl, by decide⟩
theorem Al {α : Type} (A B : α → Value) : ∀ (l : List α), (l.flatMap fun p => [A p, B p]).length = l.length * 2
 | [] => rfl
 | x :: l => by rw [List.flatMap_cons, List.length_append, Al A B l]; simp; omega
theorem _root_.Go.Proofs.YtjmfpeiidlpngaaGreatDoor.Fam.cell {h : aA} {sl : Ix → Option Addr} {cap : Ix → Nat} {cs : Ix → List Value} (F : Fam szG h sl cap cs) {x : Ix} {ad : Addr} (hx : sl x = some ad) {j : Nat} {v : Value} (hj : (cs x)[j]? = some v) : hcell h (ad.add j) = some v := by
 have o := F.own x; rw [hx] at o; exact o.cells.at hj
theorem si {α : Type} {l : List α} {i : Nat} (hi : i < l.length) {f g : α → α} (h : f l[i] = g l[i]) : l.modify i f = l.modify i g := by
 apply List.ext_getElem (by simp)
 intro j h1 h2
 rw [List.getElem_modify, List.getElem_modify]
 split
 ·rename_i e; subst e; exact h
 ·rfl
theorem AH {α : Type} (l : List α) (i : Nat) (f g : α → α) : (l.modify i f).modify i g = l.modify i (fun x => g (f x)) := by
 apply List.ext_getElem (by simp)
 intro j h1 h2
 rw [List.getElem_modify, List.getElem_modify, List.getElem_modify]
 split <;> simp_all
theorem BJ {α : Type} (l : List α) (x : α) (f : α → α) : (l ++ [x]).modify l.length f = l ++ [f x] := by
 apply List.ext_getElem (by simp)
 intro j h1 h2
 rw [List.getElem_modify]
 by_cases e : l.length = j
 ·subst e; rw [if_pos rfl]; simp
 ·have hj : j < l.length := by simp at h1; omega
  rw [if_neg e, List.getElem_append_left hj, List.getElem_append_left hj]
section
variable {h : aA} {gs : List Grp} {tr : Nat → Sl Int} {sl : Ix → Option Addr} {cap : Ix → Nat} {cs : Ix → List Value}
theorem J8 [Gh] {N : Nat} (G : lu h gs tr sl cap cs) {i : Nat} (hi : i < gs.length) {m : Nat} (sm : ∀ g ∈ gs, g.pats.length ≤ m ∧ g.rules.length = g.pats.length ∧ g.always.length ≤ m ∧ ∀ l ∈ g.rules, l.length ≤ m) (hm : m ≤ 2 ^ 20) (k : Nat) (r : Ru) {t5 : Addr} (o5 : Own h t5 r.vals cO) (h5 : ∀ x b, InA (sl x) b → b ≠ t5.block)
  (ok : r.ok h) (sh : wD r.Contents.xs) {ta : Option Addr} {tn tc : Nat} {tl t13 : Int} {Q : QT} {Kn : Option Addr × Nat × Nat × Int → aA → Prop}
  (hk : ∀ h' sl' cap' cs', lu h' (gs.modify i (qZ k r)) tr sl' cap' cs' → bS N h h' sl sl' → sl' xO = sl xO → cap' xO = cap xO → Kn (sl xO, gs.length, cap xO, IntKind.wrap .i64 (t13 + 1)) h') :
  fE (sl xO) gs.length (cap xO) k t5 i ta tn tc tl t13 Q Kn h := by
 unfold fE
 obtain ⟨ad, eo, hs, cc⟩ := G.out hi
 have rw_ := G.row i hi
 obtain ⟨sm1, sm2, sm3, sm4⟩ := sm _ (List.getElem_mem hi)
 refine bO i rfl hi ?_
 generalize hoa : sl xO = oa at hk ⊢
 rw [hoa] at eo
 subst eo
 rw [Int.toNat_natCast]
 refine aS ?_
 refine (aB (o5.cells.at0 rfl) (aB (o5.cells.at rfl) (aC (o5.cells.at rfl) (aC (o5.cells.at rfl) (aC (o5.cells.at rfl) (aC (o5.cells.at rfl) (aN (o5.cells.at rfl) (aB (o5.cells.at rfl) (aB (o5.cells.at rfl) (aB (o5.cells.at rfl) (bH (o5.cells.at rfl) (aB (o5.cells.at rfl) (aB (o5.cells.at rfl) (aC (o5.cells.at rfl) (aC (o5.cells.at rfl) (aC (o5.cells.at rfl) (aC (o5.cells.at rfl) (aB (o5.cells.at rfl) (aB (o5.cells.at rfl) (aB (o5.cells.at rfl) (aB (o5.cells.at rfl) ?_)))))))))))))))))))))
 refine Fd r ok sh fun h1 f1 => ?_
 unfold JF
 cases hp : vq r.Contents.xs with
 | none =>
  refine ⟨bs [], false, false, rfl, ?_⟩
  refine qf rfl rfl fun t8 h2 f2 _ o8 => ?_
  have f12 := f1.trans f2
  have G2 := G.fr f12
  have cc2 := aW.fr0 f12 cc
  refine ifN (fun _ => ?_) (fun hx => by cases hx)
  refine aC (cc2.at rfl) ?_
  refine aZ (vs := [.int .i64 k]) fun b h3 f3 hb3 o3 => ?_
  have es : (Tryz.t3).size = 1 := by kernel_rfl
  have eb : (Tryz.t3).bytes = 8 := by kernel_rfl
  have G3 := G2.fr f3
  refine Fam.app ua Tryz.underlying46 (by intro k e; cases e) G3.fam (xA i) (by rw [es]; rfl) (by rw [rw_.al]; simp [uf, szG]) rw_.ac (Src.one o3 (by rw [es]; rfl) 1) (by intro v hv; rw [List.mem_singleton.1 hv]; rfl) (by rw [eb]; omega) fun a' c' h4 F4 hc4 f4 hn4 => ⟨_, _, _, rfl, ?_⟩
  have nO : xO ≠ xA i := fU (by decide) _ _ _ _
  have hO : put sl (xA i) a' xO = some ad := by rw [bB _ _ nO]; exact hoa
  rw [lg hs]
  refine F4.set xO hO (by rw [bB _ _ nO, G.olen]; omega) rfl fun h5 F5 f5 => ?_
  have t4 : bS N h h4 sl (put sl (xA i) a') := (bS.of_fr (f12.trans f3)).trans (bS.of_app f4 hn4)
  have t5' : bS N h h5 sl (put sl (xA i) a') := t4.trans (bS.of_set f5)
  have e : gs.modify i (qZ k r) = gs.modify i fun g => { g with always := g.always ++ [(k : Int)] } := si hi (by unfold qZ; rw [hp])
  rw [e] at hk
  exact hk _ _ _ _ (G.always hi k hc4 F5 t5') t5' ((bB _ _ nO).trans hoa) (bB _ _ nO)
 | some p =>
  refine ⟨bs p.1, p.2, true, rfl, ?_⟩
  refine qf rfl rfl fun t8 h2 f2 _ o8 => ?_
  have f12 := f1.trans f2
  have G2 := G.fr f12
  have cc2 := aW.fr0 f12 cc
  refine ifN (fun hx => by cases hx) (fun _ => ?_)
  refine aC (cc2.at rfl) ?_
  refine Hn G2 hi p o8 (by omega) fun h3 f3 => ⟨_, rfl, ?_⟩
  have f13 := f12.trans f3
  have G3 := G.fr f13
  have cc3 := aW.fr0 f13 cc
  refine aC (cc3.at rfl) ?_
  have hle : gs[i].pats.findIdx (· == p) ≤ gs[i].pats.length := List.findIdx_le_length
  refine ifE (fun hq => ?_) (fun hq => ?_)
  ·have hq' : gs[i].pats.findIdx (· == p) = gs[i].pats.length := by omega
   have o8' := Own.fr0 f3 o8
   refine aC (cc3.at rfl) (bH (o8'.cells.at0 rfl) (aN (o8'.cells.at rfl) ?_))
   refine aZ fun b h4 f4 hb4 o4 => ?_
   have f14 := f13.trans f4
   have G4 := G.fr f14
   have cc4 := aW.fr0 f14 cc
   refine ⟨aC (cc4.at rfl) rfl, ?_⟩
   have es : (Tryz.t160).size = 2 := by kernel_rfl
   have eb : (Tryz.t160).bytes = 24 := by kernel_rfl
   refine Fam.app JD Tryz.underlying84 (by intro k e; cases e) G4.fam (xP i) (by rw [es]; rfl) (by rw [rw_.pl, Al (fun p : List UInt8 × Bool => Value.string (bs p.1)) (fun p => Value.bool p.2)]; rfl) rw_.pc (Src.one o4 (by rw [es]; rfl) 1) (by intro v hv; simp at hv; rcases hv with rfl | rfl <;> rfl) (by rw [eb]; omega) fun a1 c1 h5 F5 hc5 f5 hn5 => ⟨_, _, _, rfl, ?_⟩
   have nO : xO ≠ xP i := fU (by decide) _ _ _ _
   have nRP : xR i ≠ xP i := fU (by decide) _ _ _ _
   have nRO : xR i ≠ xO := fU (by decide) _ _ _ _
   have nOR : xO ≠ xR i := fU (by decide) _ _ _ _
   have nPO : xP i ≠ xO := fU (by decide) _ _ _ _
   have nPR : xP i ≠ xR i := fU (by decide) _ _ _ _
   have hO : put sl (xP i) a1 xO = some ad := by rw [bB _ _ nO]; exact hoa
   have hol := G.olen
   rw [lg hs]
   refine F5.set xO hO (by rw [bB _ _ nO, hol]; omega) rfl fun h6 F6 f6 => ?_
   rw [lg hs]
   refine aC (F6.cell hO (by rw [bY, List.getElem?_set_ne (by omega), bB _ _ nO]; exact rw_.o3)) ?_
   refine aZ (vs := [.slice none 0 0]) fun b2 h7 f7 hb7 o7 => ?_
   have F7 := F6.fr0 f7
   have es2 : (Tryz.t46).size = 1 := by kernel_rfl
   have eb2 : (Tryz.t46).bytes = 24 := by kernel_rfl
   have eR : put sl (xP i) a1 (xR i) = sl (xR i) := bB _ _ nRP
   have eRc : put cap (xP i) c1 (xR i) = cap (xR i) := bB _ _ nRP
   rw [← eR, ← eRc]
   refine Fam.app Ko Tryz.underlying85 (by intro k e; cases e) F7 (xR i) (by rw [es2]; rfl) (by rw [bB _ _ nRO, bB _ _ nRP, rw_.rl]; simp [szG]) (by rw [eRc]; exact rw_.rc) (Src.one o7 (by rw [es2]; rfl) 1) (by intro v hv; rw [List.mem_singleton.1 hv]; rfl) (by rw [eb2]; omega) fun a2 c2 h8 F8 hc8 f8 hn8 => ⟨_, _, _, rfl, ?_⟩
   have hO8 : put (put sl (xP i) a1) (xR i) a2 xO = some ad := by rw [bB _ _ nOR]; exact hO
   refine F8.set xO hO8 (by rw [bB _ _ nOR, bY, List.length_set, bB _ _ nO, hol]; omega) rfl fun h9 F9 f9 => ?_
   have t5' : bS N h h5 sl (put sl (xP i) a1) := (bS.of_fr f14).trans (bS.of_app f5 hn5)
   have t7 : bS N h h7 sl (put sl (xP i) a1) := (t5'.trans (bS.of_set f6)).trans (bS.of_fr f7)
   have t9 : bS N h h9 sl (put (put sl (xP i) a1) (xR i) a2) := (t7.trans (bS.of_app f8 hn8)).trans (bS.of_set f9)
   have G9 := G.pattern hi p (a1 := a1) (a2 := a2) (c1 := c1) (c2 := c2) hc5 hc8 (by rw [bY, bB _ _ nOR, bY, bB _ _ nO])
    (by rw [bB _ _ nPO, bB _ _ nPR, bB _ _ nPO, bY]) (by rw [bB _ _ nRO, bY, bB _ _ nRO, bB _ _ nRP])
    (fun x h0 hP hR => by rw [bB _ _ h0, bB _ _ hR, bB _ _ h0, bB _ _ hP]) F9 t9
   have hi9 : i < (gs.modify i fun g => { g with pats := g.pats ++ [p], rules := g.rules ++ [[]] }).length := by rw [List.length_modify]; exact hi
   have e9 : (gs.modify i fun g => { g with pats := g.pats ++ [p], rules := g.rules ++ [[]] })[i] = { gs[i] with pats := gs[i].pats ++ [p], rules := gs[i].rules ++ [[]] } := by rw [List.getElem_modify, if_pos rfl]
   rw [hq']
   refine J1 (N := N) G9 hi9 (n := gs[i].pats.length) (by rw [e9]; simp; omega) (by simp only [e9]; rw [List.getElem_append_right (by omega)]; simp) k hO8 fun h' sl' cap' cs' G' t' es' ec' => ?_
   have e : gs.modify i (qZ k r) = (gs.modify i fun g => { g with pats := g.pats ++ [p], rules := g.rules ++ [[]] }).modify i fun g => { g with rules := g.rules.modify gs[i].pats.length (· ++ [(k : Int)]) } := by
    rw [AH]
    refine si hi ?_
    unfold qZ
    rw [hp]
    simp only
    rw [if_pos hq', ← sm2, BJ]
    rfl
   rw [← e] at G'
   exact hk _ _ _ _ G' (t9.trans t') (by rw [es', hO8]) (by rw [ec', bB _ _ nOR, bB _ _ nO])
  ·have hlt : gs[i].pats.findIdx (· == p) < gs[i].rules.length := by omega
   refine J1 (N := N) G3 hi hlt (by have := sm4 _ (List.getElem_mem hlt); omega) k hoa fun h' sl' cap' cs' G' t' es' ec' => ?_
   have e : gs.modify i (qZ k r) = gs.modify i fun g => { g with rules := g.rules.modify (gs[i].pats.findIdx (· == p)) (· ++ [(k : Int)]) } := by
    refine si hi ?_
    unfold qZ
    rw [hp]
    simp only
    rw [if_neg (by omega)]
   rw [← e] at G'
   exact hk _ _ _ _ G' ((bS.of_fr f13).trans t') (by rw [es', hoa]) ec'
end
end Go.Proofs.YtjmfpeiidlpngaaGreatDoor.Fp
namespace Go.Proofs.YtjmfpeiidlpngaaGreatDoor.Fp
set_option linter.unusedSimpArgs false
set_option linter.unusedVariables false
set_option maxRecDepth 20000
open Go
theorem CI {h : aA} {n : Int} (h1 : -9223372036854775808 ≤ n) (h2 : n ≤ 9223372036854775807) : kOk .i64 h n := by
 unfold kOk
 simp [Lit.wf, IntKind.min, IntKind.max, IntKind.signed, IntKind.bits]
 omega
structure Fw (r : Ru) : Prop where
 c : wD r.Contents.xs
 t : r.Transforms.xs.length ≤ 70
def w9 (k : Nat) (gs : List Grp) : Prop := ∀ g ∈ gs, (∀ n ∈ g.always, 0 ≤ n ∧ n < (k : Int)) ∧ (∀ l ∈ g.rules, ∀ n ∈ l, 0 ≤ n ∧ n < (k : Int)) ∧ ∀ p ∈ g.pats, p.1.length ≤ 200
theorem BD {cs : List Cn} (sh : wD cs) {p : List UInt8 × Bool} (hp : vq cs = some p) : p.1.length ≤ 200 := by
 unfold vq at hp
 split at hp
 ·cases hp
 ·rename_i hneg
  have hlt := sv cs
  simp only [Option.some.injEq] at hp
  subst hp
  have hk : (gJ cs).toNat < cs.length := by omega
  have e : cs.getD (gJ cs).toNat noC = cs[(gJ cs).toNat] := by rw [List.getD_eq_getElem?_getD, List.getElem?_eq_getElem hk]; rfl
  have := sh.pat _ (List.getElem_mem hk)
  simp only [e]
  split
  ·simpa using this
  ·exact this
theorem w9.add {k : Nat} {gs : List Grp} (s : w9 k gs) (r : Ru) (sh : wD r.Contents.xs) : w9 (k + 1) (xB k r gs) := by
 have hs : w9 k (sN r gs) := by
  intro g hg
  unfold sN at hg
  split at hg
  ·rcases List.mem_append.1 hg with hg | hg
   ·exact s g hg
   ·rw [List.mem_singleton.1 hg]; simp
  ·exact s g hg
 have up : w9 (k + 1) (sN r gs) := fun g hg => by
  obtain ⟨h1, h2, h3⟩ := hs g hg
  exact ⟨fun n hn => by have := h1 n hn; omega, fun l hl n hn => by have := h2 l hl n hn; omega, h3⟩
 intro g hg
 rcases md hg with hg | ⟨y, hy, rfl⟩
 ·exact up g hg
 ·obtain ⟨h1, h2, h3⟩ := up y hy
  unfold qZ
  split
  ·refine ⟨fun n hn => ?_, h2, h3⟩
   rcases List.mem_append.1 hn with hn | hn
   ·exact h1 n hn
   ·rw [List.mem_singleton.1 hn]; omega
  ·rename_i p hp
   split
   ·refine ⟨h1, fun l hl n hn => ?_, fun q hq => ?_⟩
    ·rcases List.mem_append.1 hl with hl | hl
     ·exact h2 l hl n hn
     ·rw [List.mem_singleton.1 hl] at hn; rw [List.mem_singleton.1 hn]; omega
    ·rcases List.mem_append.1 hq with hq | hq
     ·exact h3 q hq
     ·rw [List.mem_singleton.1 hq]; exact BD sh hp
   ·refine ⟨h1, fun l hl n hn => ?_, h3⟩
    rcases md hl with hl | ⟨z, hz, rfl⟩
    ·exact h2 l hl n hn
    ·rcases List.mem_append.1 hn with hn | hn
     ·exact h2 z hz n hn
     ·rw [List.mem_singleton.1 hn]; omega
def fD (g : bD) : Grp := ⟨g.Kind, g.Transforms.xs, g.Patterns.xs.map fun p => (p.Text, p.Nocase), g.Rules.xs.map (·.xs), g.Always.xs⟩
abbrev Dy (h : aA) (g : Sl bD) : Prop := bF 5 bD.vals bD.ok h g
theorem CC {h : aA} {a : Option Addr} {c : Nat} {l : List Int} (o : qQ h a c 1 (uf l)) (hc : l.length ≤ c) (hl : l.length ≤ 9223372036854775807) (hk : ∀ n ∈ l, kOk .i64 h n) : ig h ⟨a, c, l⟩ := by
 refine ⟨hc, hl, fun i hi => ?_⟩
 cases a with
 | none => have := o.1; simp only at hi; simp [uf] at this; rw [this] at hi; simp at hi
 | some ad =>
  refine ⟨ad, rfl, fun j hj => ?_, hk _ (List.getElem_mem hi)⟩
  have hj0 : j = 0 := by simp at hj; exact hj
  subst hj0
  rw [j9]
  refine o.cells.at ?_
  simp only at hi
  simp [uf, hi]
section
variable {h : aA} {gs : List Grp} {tr : Nat → Sl Int} {sl : Ix → Option Addr} {cap : Ix → Nat} {cs : Ix → List Value}
def uO (gs : List Grp) (tr : Nat → Sl Int) (sl : Ix → Option Addr) (cap : Ix → Nat) (i : Fin gs.length) : bD :=
 ⟨gs[i].kind, tr i, ⟨sl (xP i), cap (xP i), gs[i].pats.map fun p => ⟨p.1, p.2⟩⟩, ⟨sl (xR i), cap (xR i), (List.finRange gs[i].rules.length).map fun n : Fin gs[i].rules.length => ⟨sl (xI i n.val), cap (xI i n.val), gs[i].rules[n.val]⟩⟩, ⟨sl (xA i), cap (xA i), gs[i].always⟩⟩
theorem lu.read (G : lu h gs tr sl cap cs) {k : Nat} (sm : rD k gs) (gd : w9 k gs) (hk : k ≤ 2 ^ 20) : ∃ g : Sl bD, g.p = sl xO ∧ g.xs.length = gs.length ∧ g.cap = cap xO ∧ Dy h g ∧ g.xs.map fD = gs := by
 refine ⟨⟨sl xO, cap xO, (List.finRange gs.length).map (uO gs tr sl cap)⟩, rfl, by simp, rfl, ⟨by simpa using G.ocap, by have := sm.len; simp; omega, fun i hi => ?_⟩, ?_⟩
 ·have hig : i < gs.length := by simpa using hi
  obtain ⟨ad, eo, hs, cc⟩ := G.out hig
  have r := G.row i hig
  obtain ⟨s1, s2, s3, s4⟩ := sm.g _ (List.getElem_mem hig)
  obtain ⟨g1, g2, g3⟩ := gd _ (List.getElem_mem hig)
  refine ⟨ad, eo, ?_, ?_⟩
  ·simpa [uO, bD.vals] using cc
  ·simp only [List.getElem_map, List.getElem_finRange]
   refine ⟨G.kok _ (List.getElem_mem hig), (G.trok i hig).1, ⟨by simpa [uO] using r.pc, by simp [uO]; omega, fun n hn => ?_⟩, ⟨by simpa [uO] using r.rc, by simp [uO]; omega, fun n hn => ?_⟩, ?_⟩
   ·have hn' : n < gs[i].pats.length := by simpa [uO] using hn
    have hget := Gd (fun p : List UInt8 × Bool => Value.string (bs p.1)) (fun p => Value.bool p.2) gs[i].pats n hn'
    rw [← r.pl] at hget
    obtain ⟨pd, ep, pc⟩ := G.fam.some_of (x := xP i) (by intro e; rw [List.length_eq_zero_iff.1 e] at hget; simp at hget)
    have hps : pd.spot = none := by have := G.fam.own (xP i); rw [ep] at this; exact this.2.1
    refine ⟨pd, ep, fun j hj => ?_, ?_⟩
    ·have hj2 : j < 2 := by simpa [bG.vals] using hj
     rw [lg hps]
     match j, hj2 with
     | 0, _ => exact pc.at (by simpa [uO, bG.vals] using hget.1)
     | 1, _ => exact pc.at (by simpa [uO, bG.vals] using hget.2)
    ·have := g3 _ (List.getElem_mem hn')
     exact ⟨by show ((uO gs tr sl cap ⟨i, hig⟩).Patterns.xs[n]).Text.length ≤ _; simp [uO]; omega, trivial⟩
   ·have hn' : n < gs[i].rules.length := by simpa [uO] using hn
    obtain ⟨rd, er, rc⟩ := G.fam.some_of (x := xR i) (by rw [r.rl]; omega)
    refine ⟨rd, er, fun j hj => ?_, ?_⟩
    ·have hj0 : j = 0 := by simpa using hj
     subst hj0
     rw [j9, Nat.mul_one]
     exact rc.at (by simpa [uO, Sl.v] using r.rg n hn')
    ·have o := G.fam.own (xI i n)
     rw [(r.il n hn').1] at o
     have := CC (l := gs[i].rules[n]) o (r.il n hn').2 (by have := s4 _ (List.getElem_mem hn'); omega) (fun m hm => by have := g2 _ (List.getElem_mem hn') m hm; exact CI (by omega) (by omega))
     simpa [uO] using this
   ·have o := G.fam.own (xA i)
    rw [r.al] at o
    have := CC (l := gs[i].always) o r.ac (by omega) (fun m hm => by have := g1 m hm; exact CI (by omega) (by omega))
    simpa [uO] using this
 ·apply List.ext_getElem (by simp)
  intro i h1 h2
  simp only [List.getElem_map, List.getElem_finRange]
  have r := G.row i h2
  have e3 : (List.finRange gs[i].rules.length).map (fun n : Fin gs[i].rules.length => gs[i].rules[n.val]) = gs[i].rules := by
   apply List.ext_getElem (by simp)
   intro j j1 j2; simp
  have et := r.trx
  simp only [fD, uO, List.map_map]
  show (⟨gs[i].kind, (tr i).xs, _, _, gs[i].always⟩ : Grp) = gs[i]
  rw [et]
  have e2 : gs[i].pats.map ((fun p : bG => (p.Text, p.Nocase)) ∘ fun p : List UInt8 × Bool => (⟨p.1, p.2⟩ : bG)) = gs[i].pats := by
   apply List.ext_getElem (by simp)
   intro j j1 j2; simp
  have e4 : (List.finRange gs[i].rules.length).map ((fun x : Sl Int => x.xs) ∘ fun n : Fin gs[i].rules.length => (⟨sl (xI i n.val), cap (xI i n.val), gs[i].rules[n.val]⟩ : Sl Int)) = gs[i].rules := e3
  show (⟨gs[i].kind, gs[i].tr, gs[i].pats.map ((fun p : bG => (p.Text, p.Nocase)) ∘ fun p : List UInt8 × Bool => (⟨p.1, p.2⟩ : bG)), (List.finRange gs[i].rules.length).map ((fun x : Sl Int => x.xs) ∘ fun n : Fin gs[i].rules.length => (⟨sl (xI i n.val), cap (xI i n.val), gs[i].rules[n.val]⟩ : Sl Int)), gs[i].always⟩ : Grp) = gs[i]
  rw [e2, e4]
end
theorem HV {N : Nat} {h h' : aA} {sl sl' : Ix → Option Addr} (t : bS N h h' sl sl') (nw : ∀ x b, InA (sl x) b → N ≤ b) (hN : N ≤ h.size) : ∀ x b, InA (sl' x) b → N ≤ b := fun x b hb => by
 rcases t.old x b hb with ⟨y, hy⟩ | hb
 ·exact nw y b hy
 ·omega
theorem DC {N : Nat} {h0 h h' : aA} {sl sl' : Ix → Option Addr} (f : Fr (fun _ => False) h0 h) (t : bS N h h' sl sl') (nw : ∀ x b, InA (sl x) b → h0.size ≤ b) : Fr (fun _ => False) h0 h' :=
 f.tr t.frS fun x hx ⟨y, hy⟩ => by have := nw y x hy; omega
theorem xl (l : List Ru) (k : Nat) (hk : k < l.length) (gs : List Grp) : fG (l.drop k) k gs = fG (l.drop (k + 1)) (k + 1) (xB k l[k] gs) := by
 rw [List.drop_eq_getElem_cons hk, fG]
theorem GS [Gh] (s : Sl Ru) {h : aA} (ok : bF 21 aK.vals aK.ok h s) (hl : s.xs.length ≤ 40) (sh : ∀ r ∈ s.xs, Fw r) {Q : Value → aA → Prop}
  (hk : ∀ (g : Sl bD) h', Fr (fun _ => False) h h' → Dy h' g → g.xs.map fD = oj s.xs → Q (.slice g.p g.xs.length g.cap) h') :
  aD Tryz.prog iG #[.slice s.p s.xs.length s.cap] h Q := by
 apply tG
 unfold oG
 refine aJ.mk (fun st h' => ∃ (k : Nat) (gs : List Grp) (tr : Nat → Sl Int) (sl : Ix → Option Addr) (cap : Ix → Nat) (cs : Ix → List Value), st = (sl xO, gs.length, cap xO, (k : Int)) ∧ k ≤ s.xs.length ∧ Fr (fun _ => False) h h' ∧ lu h' gs tr sl cap cs ∧ (∀ x b, InA (sl x) b → h.size ≤ b) ∧ rD k gs ∧ w9 k gs ∧ fG (s.xs.drop k) k gs = oj s.xs)
  (fun st _ => s.xs.length - st.2.2.2.toNat) ⟨0, [], _, _, _, _, rfl, by omega, Fr.refl _ _, lu.nil h, fun x b hb => (xU hb).elim, ⟨Nat.le_refl _, fun g hg => by cases hg⟩, (fun g hg => by cases hg), rfl⟩ ?_
 rintro st h1 ⟨k, gs, tr, sl, cap, cs, rfl, hkl, f1, G, nw, sm, gd, hg⟩
 unfold kj
 refine ifD (fun hlt => ?_) (fun hge => ?_)
 ·simp only at hlt
  have hks : k < s.xs.length := by omega
  have ok1 := bF.fr0 aK.ok_fr f1 ok
  have shr := sh _ (List.getElem_mem hks)
  rw [xl _ _ hks] at hg
  have okr0 : aK.ok h s.xs[k] := by obtain ⟨_, _, _, o⟩ := ok.at_ k hks; exact o
  refine dH ok1 k rfl hks fun ad cc okr => ?_
  simp only [Int.toNat_natCast]
  refine (aB (cc.at0 rfl) (aB (cc.at rfl) (aC (cc.at rfl) (aC (cc.at rfl) (aC (cc.at rfl) (aC (cc.at rfl) (aN (cc.at rfl) (aB (cc.at rfl) (aB (cc.at rfl) (aB (cc.at rfl) (bH (cc.at rfl) (aB (cc.at rfl) (aB (cc.at rfl) (aC (cc.at rfl) (aC (cc.at rfl) (aC (cc.at rfl) (aC (cc.at rfl) (aB (cc.at rfl) (aB (cc.at rfl) (aB (cc.at rfl) (aB (cc.at rfl) ?_)))))))))))))))))))))
  refine qf rfl rfl fun t5 h2 f2 ht5 o5 => ?_
  have f02 := f1.trans f2
  have G2 := G.fr f2
  have okr2 := aK.ok_fr _ _ _ f2 okr
  have hsl := sm.len
  refine FU G2 s.xs[k] o5 okr2 (by have := shr.t; omega) (by omega) fun h3 f3 => ⟨_, rfl, ?_⟩
  have G3 := G2.fr f3
  have o5' := Own.fr0 f3 o5
  have f23 := f2.trans f3
  have f03 := f02.trans f3
  have okr3 := aK.ok_fr _ _ _ f3 okr2
  have ht5' : t5.block = h1.size := ht5
  have apart : ∀ {h' : aA} {sl' : Ix → Option Addr}, bS h.size h1 h' sl sl' → True := fun _ => trivial
  have hnt : ∀ x b, InA (sl x) b → b ≠ t5.block := fun x b hb e => by have := G.fam.lt hb; omega
  have back : ∀ (h' : aA) (gs' : List Grp) (tr' : Nat → Sl Int) (sl' : Ix → Option Addr) (cap' : Ix → Nat) (cs' : Ix → List Value), lu h' gs' tr' sl' cap' cs' → gs' = xB k s.xs[k] gs → bS h.size h1 h' sl sl' →
    (∃ (k' : Nat) (gs : List Grp) (tr : Nat → Sl Int) (sl : Ix → Option Addr) (cap : Ix → Nat) (cs : Ix → List Value), (sl' xO, gs'.length, cap' xO, IntKind.wrap .i64 ((k : Int) + 1)) = (sl xO, gs.length, cap xO, (k' : Int)) ∧ k' ≤ s.xs.length ∧ Fr (fun _ => False) h h' ∧ lu h' gs tr sl cap cs ∧ (∀ x b, InA (sl x) b → h.size ≤ b) ∧ rD k' gs ∧ w9 k' gs ∧ fG (s.xs.drop k') k' gs = oj s.xs) ∧ s.xs.length - (IntKind.wrap .i64 ((k : Int) + 1)).toNat < s.xs.length - ((k : Int)).toNat := by
   intro h' gs' tr' sl' cap' cs' G' e' t'
   subst e'
   rw [wr (by omega) (by omega)]
   exact ⟨⟨k + 1, _, tr', sl', cap', cs', rfl, by omega, DC f1 t' nw, G', HV t' nw f1.size, sm.add _, gd.add _ shr.c, hg⟩, by omega⟩
  have hfl : gs.findIdx (rt s.xs[k]) ≤ gs.length := List.findIdx_le_length
  refine ifE (fun hq => ?_) (fun hq => ?_)
  ·have hq' : gs.findIdx (rt s.xs[k]) = gs.length := by omega
   refine aB (o5'.cells.at rfl) (aC (o5'.cells.at rfl) ?_)
   refine FQ s.xs[k].Transforms okr3.k13 (by have := shr.t; omega) fun T h4 f4 oT eT hnew => ⟨_, _, _, rfl, ?_⟩
   have o54 := Own.fr0 f4 o5'
   refine ⟨aB (o54.cells.at rfl) rfl, ?_⟩
   refine aZ fun b h5 f5 hb5 o5b => ?_
   have G5 := (G3.fr f4).fr f5
   have es : (Tryz.t87).size = 5 := by kernel_rfl
   have eb : (Tryz.t87).bytes = 104 := by kernel_rfl
   refine Fam.app Dc Tryz.underlying82 (by intro k e; cases e) G5.fam xO (by rw [es]; rfl) (by rw [G.olen]; rfl) G.ocap (Src.one o5b (by rw [es]; rfl) 1) (by intro v hv; simp at hv; rcases hv with rfl | rfl | rfl | rfl | rfl <;> rfl) (by rw [eb]; omega) fun a' c' h6 F6 hc6 f6 hn6 => ⟨_, _, _, rfl, ?_⟩
   have t6 : bS h.size h1 h6 sl (put sl xO a') := (bS.of_fr ((f23.trans f4).trans f5)).trans (bS.of_app f6 hn6)
   have hTb : T.xs ≠ [] → ∀ b, InA T.p b → h3.size ≤ b ∧ b < h4.size := fun hx b hb => ⟨hnew b hb, oT.lt hx hb⟩
   have hTapart : T.xs ≠ [] → ∀ x b, InA T.p b → ¬ InA (put sl xO a' x) b := by
    intro hx x b hb hi
    obtain ⟨hb1, hb2⟩ := hTb hx b hb
    rcases t6.old x b hi with ⟨y, hy⟩ | hy
    ·have h1' := G.fam.lt hy; have h2' := f23.size; omega
    ·by_cases e : x = xO
     ·subst e; rw [bY] at hi
      rcases hn6 b hi with hi | hi
      ·have h1' := G.fam.lt hi; have h2' := f23.size; omega
      ·have := f5.size; omega
     ·rw [bB _ _ e] at hi
      have h1' := G.fam.lt hi; have h2' := f23.size; omega
   have hTok : ig h6 T := by
    by_cases hx : T.xs = []
    ·exact ⟨oT.len, oT.cap, fun i hi => by rw [hx] at hi; simp at hi⟩
    ·refine ig.fr (bF.fr0 xz f5 oT) f6 fun b hb hi => ?_
     obtain ⟨hb1, hb2⟩ := hTb hx b hb
     have h1' := G.fam.lt hi; have h2' := f23.size; omega
   have t56 : bS h.size h5 h6 sl (put sl xO a') := bS.of_app f6 hn6
   have G6 := G5.push (N := h.size) s.xs[k].Kind okr.k12 T hc6 F6 t56 hTok hTapart
   have hlen : (gs ++ [(⟨s.xs[k].Kind, T.xs, [], [], []⟩ : Grp)]).length = gs.length + 1 := by simp
   rw [← hlen]
   have e1 : put sl xO a' xO = a' := bY _ _ _
   have e2 : put cap xO c' xO = c' := bY _ _ _
   rw [hq', ← e1, ← e2]
   have o56 : Own h6 t5 s.xs[k].vals cO := (Own.fr0 f5 o54).fr f6 (fun hi => hnt xO _ hi rfl)
   refine J8 (N := h.size) (m := k) G6 (i := gs.length) (by simp) (fun g hgm => ?_) (by omega) k s.xs[k] o56 (fun x b hb e => ?_) (aK.ok_fr _ _ _ (DC f1 t6 nw) okr0) shr.c fun h7 sl7 cap7 cs7 G7 t7 es7 ec7 => ?_
   ·rcases List.mem_append.1 hgm with hgm | hgm
    ·exact sm.g g hgm
    ·rw [List.mem_singleton.1 hgm]; simp
   ·by_cases ex : x = xO
    ·subst ex; rw [bY] at hb
     rcases hn6 b hb with hb | hb
     ·exact hnt _ b hb e
     ·have h1' := f2.size; have h2' := ((f3.trans f4).trans f5).size
      have := o5.lt; omega
    ·rw [bB _ _ ex] at hb; exact hnt x b hb e
   ·rw [← es7, ← ec7]
    have eL : gs.length + 1 = ((gs ++ [(⟨s.xs[k].Kind, T.xs, [], [], []⟩ : Grp)]).modify gs.length (qZ k s.xs[k])).length := by simp
    rw [hlen, eL]
    refine back h7 _ _ sl7 cap7 cs7 G7 ?_ (t6.trans t7)
    unfold xB sN
    rw [if_pos hq', hq', eT]
  ·have hlt : gs.findIdx (rt s.xs[k]) < gs.length := by omega
   refine J8 (N := h.size) (m := k) G3 hlt sm.g (by omega) k s.xs[k] o5' hnt okr3 shr.c fun h7 sl7 cap7 cs7 G7 t7 es7 ec7 => ?_
   rw [← es7, ← ec7]
   have eL : gs.length = (gs.modify (gs.findIdx (rt s.xs[k])) (qZ k s.xs[k])).length := by simp
   conv => lhs; rw [eL]
   refine back h7 _ _ sl7 cap7 cs7 G7 ?_ ((bS.of_fr f23).trans t7)
   unfold xB sN
   rw [if_neg (by omega)]
 ·simp only at hge
  have e : k = s.xs.length := by omega
  rw [e, List.drop_length] at hg
  obtain ⟨g, hp, hlen, hc, hgok, hmap⟩ := G.read sm gd (by omega)
  have := hk g h1 f1 hgok (by rw [hmap]; exact hg)
  rw [hp, hlen, hc] at this; exact this
end Go.Proofs.YtjmfpeiidlpngaaGreatDoor.Fp
namespace Go.Proofs.YtjmfpeiidlpngaaGreatDoor.Au
set_option linter.unusedSimpArgs false
set_option linter.unusedVariables false
set_option maxRecDepth 20000
open Go
open Go.IntKind (wrap)
section
variable {h : aA} {Q : Value → aA → Prop}
theorem CA [Gh] (c : Int) (hk : ∀ b : Bool, Q (.bool b) h) : aD Tryz.prog lU #[.int .u8 c] h Q := by
 apply ym
 unfold ug
 exact ifD (fun _ => ifD (fun _ => hk _) fun _ => ifD (fun _ => hk _) fun _ => hk _) fun _ => ifD (fun _ => hk _) fun _ => hk _
theorem Im [Gh] (c : Int) (hk : ∀ b : Bool, Q (.bool b) h) : aD Tryz.prog pZ #[.int .u8 c] h Q := by
 apply zo
 unfold uU
 exact ifD (fun _ => hk _) fun _ => hk _
theorem G8 [Gh] (c : Int) (hk : ∀ b : Bool, Q (.bool b) h) : aD Tryz.prog oM #[.int .u8 c] h Q := by
 apply yb
 unfold tR
 exact CA c fun b => ⟨b, rfl, ifB (fun _ => hk _) fun _ => Im c fun b => ⟨b, rfl, ifB (fun _ => hk _) fun _ => hk _⟩⟩
theorem yJ [Gh] (s : Nm) (hk : ∀ b : Bool, (b = true → s.length ≤ 32) → Q (.bool b) h) : aD Tryz.prog jZ #[.string (bs s)] h Q := by
 apply yD
 unfold tP
 have no : Q (.bool false) h := hk false fun h => by cases h
 refine Bw (fun _ => no) fun e => ?_
 rw [bR]
 refine ifD (fun _ => no) fun e2 => ?_
 have hp := List.length_pos_iff.2 e
 refine ixS s 0 rfl hp (CA _ fun b => ⟨b, rfl, ifN (fun _ => no) fun _ => ?_⟩)
 refine aJ.go (fun n st h' => ∃ i : Nat, st = (i : Int) ∧ i ≤ s.length ∧ n = s.length - i ∧ h' = h) s.length ⟨0, rfl, by omega, rfl, rfl⟩ ?_
 rintro n - h1 ⟨i, rfl, hi, rfl, rfl⟩ Kn hK
 unfold oR
 rw [bR]
 refine ifD (fun e3 => ?_) fun e3 => hk true fun _ => by omega
 have hil : i < s.length := by omega
 refine ixS s i rfl hil (G8 _ fun b => ⟨b, rfl, ifN (fun _ => no) fun _ => ?_⟩)
 rw [wr (by omega) (by omega)]
 exact hK (s.length - (i + 1)) _ _ (by omega) ⟨i + 1, rfl, hil, rfl, rfl⟩
theorem D7 [Gh] (a : aL) (hk : ∀ h', Fr (fun _ => False) h h' → Q (.int .i64 (if a.V6 = true then 128 else 32)) h') : aD Tryz.prog mY #[.agg a.vals.toArray] h Q := by
 apply ze
 unfold va
 refine aZ (vs := a.vals) fun t1 h1 f1 e1 o1 => ?_
 have c1 : aW h1 t1 a.vals := o1.cells
 refine aN (c1.at0 rfl) (ifB (fun e => ?_) fun e => ?_)
 ·have := hk h1 f1; rw [if_pos e] at this; exact this
 ·have := hk h1 f1; rw [if_neg (by rw [e]; decide)] at this; exact this
theorem H7 [Gh] (a : aL) (hk : ∀ (b : Bool) h', Fr (fun _ => False) h h' → Q (.bool b) h') : aD Tryz.prog pN #[.agg a.vals.toArray] h Q := by
 apply zv
 unfold u2
 refine aZ (vs := a.vals) fun t1 h1 f1 e1 o1 => ?_
 have c1 : aW h1 t1 a.vals := o1.cells
 exact aN (c1.at0 rfl) (ifB (fun e => hk _ h1 f1) fun e => aB (c1.at (j := 1) rfl) (ifE (fun _ => aB (c1.at (j := 2) rfl) (hk _ h1 f1)) fun _ => hk _ h1 f1))
theorem Bb (x : Int) : 0 ≤ wrap .u64 x := by
 unfold IntKind.wrap IntKind.signed
 simp only [Bool.false_and, Bool.false_eq_true, if_false]
 exact Int.emod_nonneg _ (by decide)
theorem J4 [Gh] (a : aL) (i : Int) (hk : ∀ (b : Bool) h', Fr (fun _ => False) h h' → Q (.bool b) h') : aD Tryz.prog sy #[.agg a.vals.toArray, .int .i64 i] h Q := by
 apply BG
 unfold xm
 refine aZ (vs := a.vals) fun t1 h1 f1 e1 o1 => ?_
 have c1 : aW h1 t1 a.vals := o1.cells
 refine aN (c1.at0 rfl) (ifN (fun e => aB (c1.at (j := 2) rfl) ⟨Bb _, hk _ h1 f1⟩) fun e => ifD (fun _ => aB (c1.at (j := 1) rfl) ⟨Bb _, hk _ h1 f1⟩) fun _ => aB (c1.at (j := 2) rfl) ⟨Bb _, hk _ h1 f1⟩)
theorem Jn [Gh] (a : aL) (n : Int) (hn : 0 ≤ n ∧ n ≤ 1000) (one : Bool) (hk : ∀ (b : Bool) (x y : Int) h', Fr (fun _ => False) h h' → Q (.agg #[.bool b, .int .u64 x, .int .u64 y]) h') : aD Tryz.prog qN #[.agg a.vals.toArray, .int .i64 n, .bool one] h Q := by
 apply AB
 unfold vM
 refine aZ (vs := a.vals) fun t3 h1 f1 e1 o1 => ?_
 have z1 := f1.size
 have l1 := o1.lt
 refine aZ (vs := [.bool false, .int .u64 0, .int .u64 0]) fun t6 h2 f2 e2 o2 => ?_
 have z2 := f2.size
 have f12 := f1.trans f2
 have o12 : Own h2 t3 a.vals cT := o1.fr0 f2
 refine aJ.go (fun m st h' => ∃ (i : Nat) (x : aL), st = (i : Int) ∧ n ≤ i ∧ i ≤ 1000 ∧ m = 1000 - i ∧ x.V6 = a.V6 ∧ Fr (fun _ => False) h h' ∧ Own h' t3 x.vals cT ∧ Own h' t6 [.bool false, .int .u64 0, .int .u64 0] cT) (1000 - n.toNat)
  ⟨n.toNat, a, by omega, by omega, by omega, rfl, rfl, f12, o12, o2⟩ ?_
 rintro m - h3 ⟨i, x, rfl, hi1, hi2, rfl, hx, f3, o3, o6⟩ Kn hK
 unfold qT
 have c3 := o3.cells
 refine aN (c3.at0 rfl) (aB (c3.at (j := 1) rfl) (aB (c3.at (j := 2) rfl) ?_))
 refine D7 x fun h4 f4 => ⟨_, rfl, ?_⟩
 have o34 := o3.fr0 f4
 have o64 := o6.fr0 f4
 have c4 := o34.cells
 have f34 := f3.trans f4
 refine ifD (fun e => ?_) fun e => ?_
 ·have hil : i < 128 := by split at e <;> omega
  refine aN (c4.at0 rfl) (aB (c4.at (j := 1) rfl) (aB (c4.at (j := 2) rfl) ?_))
  refine J4 x i fun b h5 f5 => ⟨b, rfl, ?_⟩
  have o35 := o34.fr0 f5
  have o65 := o64.fr0 f5
  have c5 := o35.cells
  have f35 := f34.trans f5
  rw [wr (x := (i : Int) + 1) (by omega) (by omega)]
  have go : ∀ (x' : aL) h6, x'.V6 = a.V6 → Fr (fun _ => False) h h6 → Own h6 t3 x'.vals cT → Own h6 t6 [.bool false, .int .u64 0, .int .u64 0] cT → Kn ((i : Int) + 1) h6 := fun x' h6 hx' f6 o36 o66 => hK (1000 - (i + 1)) _ _ (by omega) ⟨i + 1, x', rfl, by omega, by omega, rfl, hx', f6, o36, o66⟩
  by_cases hb : b = one
  ·rw [if_pos (by rw [hb]; simp)]; exact go x h5 hx f35 o35 o65
  ·rw [if_neg (by simpa using hb)]
   have hi' : ∀ v : Int, st1 h5 (Addr.add t3 1) (.int .u64 v) fun h6 => Kn ((i : Int) + 1) h6 := fun v => cK o35 1 (by show 1 < 3; omega) rfl fun h6 f6 s6 o6' => go ⟨x.V6, v, x.Lo⟩ h6 hx (f35.tr f6 fun y hy hh => by omega) o6' (o65.fr f6 fun hh => by omega)
   have lo' : ∀ v : Int, st1 h5 (Addr.add t3 2) (.int .u64 v) fun h6 => Kn ((i : Int) + 1) h6 := fun v => cK o35 2 (by show 2 < 3; omega) rfl fun h6 f6 s6 o6' => go ⟨x.V6, x.Hi, v⟩ h6 hx (f35.tr f6 fun y hy hh => by omega) o6' (o65.fr f6 fun hh => by omega)
   refine aN (c5.at0 rfl) (ifN (fun _ => aB (c5.at (j := 2) rfl) ⟨Bb _, lo' _⟩) fun _ => ifD (fun _ => aB (c5.at (j := 1) rfl) ⟨Bb _, hi' _⟩) fun _ => aB (c5.at (j := 2) rfl) ⟨Bb _, lo' _⟩)
 ·unfold q6
  refine aN (c4.at0 rfl) (aB (c4.at (j := 1) rfl) (aB (c4.at (j := 2) rfl) ?_))
  refine jr o64 (ws := x.vals) (by rfl) (by rfl) fun h5 f5 s5 o5 => ?_
  have c5 := o5.cells
  refine aN (c5.at0 rfl) (aB (c5.at (j := 1) rfl) (aB (c5.at (j := 2) rfl) ?_))
  exact hk _ _ _ h5 (f34.tr f5 fun y hy hh => by omega)
theorem zq [Gh] (p : bL) (hk : ∀ (b : Bool) h', Fr (fun _ => False) h h' → Q (.bool b) h') : aD Tryz.prog kL #[.agg p.vals.toArray] h Q := by
 apply uI
 unfold oX
 refine aZ (vs := p.vals) fun t1 h1 f1 e1 o1 => ?_
 have c1 : aW h1 t1 p.vals := o1.cells
 refine aN (c1.at0 rfl) (aB (c1.at (j := 1) rfl) (aB (c1.at (j := 2) rfl) ?_))
 refine H7 p.Addr fun b h2 f2 => ⟨b, rfl, ifB (fun _ => ?_) fun _ => hk _ h2 (f1.trans f2)⟩
 have c2 := c1.fr0 f2
 refine aB (c2.at (j := 3) rfl) (ifD (fun e => ?_) fun _ => hk _ h2 (f1.trans f2))
 refine aB (c2.at (j := 3) rfl) (aN (c2.at0 rfl) (aB (c2.at (j := 1) rfl) (aB (c2.at (j := 2) rfl) ?_)))
 refine D7 p.Addr fun h3 f3 => ⟨_, rfl, aB ((c2.fr0 f3).at (j := 3) rfl) rfl, ?_⟩
 have c3 := c2.fr0 f3
 have f13 := (f1.trans f2).trans f3
 refine ifD (fun e2 => ?_) fun _ => hk _ h3 f13
 refine aN (c3.at0 rfl) (aB (c3.at (j := 1) rfl) (aB (c3.at (j := 2) rfl) (aB (c3.at (j := 3) rfl) (aN (c3.at0 rfl) (aB (c3.at (j := 1) rfl) (aB (c3.at (j := 2) rfl) ?_))))))
 refine Jn p.Addr p.Bits ⟨by omega, by split at e2 <;> omega⟩ false fun b x y h4 f4 => ⟨_, _, _, rfl, ?_⟩
 have c4 := c3.fr0 f4
 exact ⟨aN (c4.at0 rfl) (aB (c4.at (j := 1) rfl) (aB (c4.at (j := 2) rfl) rfl)), hk _ h4 (f13.trans f4)⟩
end
end Go.Proofs.YtjmfpeiidlpngaaGreatDoor.Au
namespace Go.Proofs.YtjmfpeiidlpngaaGreatDoor.Au
set_option linter.unusedSimpArgs false
set_option linter.unusedVariables false
set_option maxRecDepth 20000
open Go
open Go.IntKind (wrap)
structure DG (r : aK) : Prop where
 act : 1 ≤ r.Action ∧ r.Action ≤ 4
 proto : r.Proto = 6 ∨ r.Proto = 17
 sid : 1 ≤ r.Sid ∧ r.Sid < 4294967296
 prio : 1 ≤ r.Priority ∧ r.Priority ≤ 4
 dir : 0 ≤ r.Dir ∧ r.Dir ≤ 2
 kind : 1 ≤ r.Kind ∧ r.Kind ≤ 18
 msg : r.Msg.length ≤ 128
 trn : r.Transforms.xs.length ≤ 4
 conn : r.Contents.xs.length ≤ 8
 tesn : r.Tests.xs.length ≤ 8
 flon : r.Flow.xs.length ≤ 8
 src : r.Src.xs.length ≤ 64
 dst : r.Dst.xs.length ≤ 64
 sp : r.SrcPorts.xs.length ≤ 64
 dp : r.DstPorts.xs.length ≤ 64
 tr : ∀ x ∈ r.Transforms.xs, 1 ≤ x ∧ x ≤ 6
 con : ∀ c ∈ r.Contents.xs, 1 ≤ c.Pattern.length ∧ c.Pattern.length ≤ 64 ∧ -1024 ≤ c.Offset ∧ c.Offset ≤ 1024 ∧ 0 ≤ c.Depth ∧ c.Depth ≤ 1024
 tes : ∀ t ∈ r.Tests.xs, -1024 ≤ t.Offset ∧ t.Offset ≤ 1024
 flo : ∀ f ∈ r.Flow.xs, f.Name.length ≤ 32 ∧ 1 ≤ f.Op ∧ f.Op ≤ 4
section
variable {h : aA} {Q : Value → aA → Prop}
theorem tO {α : Type} {l : List α} {P : α → Prop} {i : Nat} (hi : i < l.length) (h : ∀ x ∈ l.take i, P x) (hx : P l[i]) : ∀ x ∈ l.take (i + 1), P x := fun x hm => by
 rw [show l.take (i + 1) = l.take i ++ [l[i]] by rw [List.take_append_getElem]] at hm
 rcases List.mem_append.1 hm with hm | hm
 ·exact h x hm
 ·rw [List.mem_singleton.1 hm]; exact hx
theorem Ip [Gh] (r : aK) (hk : ∀ (b : Bool) h', Fr (fun _ => False) h h' → (b = true → (1 ≤ r.Action ∧ r.Action ≤ 4) ∧ (r.Proto = 6 ∨ r.Proto = 17) ∧ (1 ≤ r.Sid ∧ r.Sid < 4294967296) ∧ (1 ≤ r.Priority ∧ r.Priority ≤ 4) ∧ (0 ≤ r.Dir ∧ r.Dir ≤ 2) ∧ (1 ≤ r.Kind ∧ r.Kind ≤ 18)) → Q (.bool b) h') :
  aD Tryz.prog pI #[.agg r.vals.toArray] h Q := by
 apply zy
 unfold u9
 refine aZ (vs := r.vals) fun t1 h1 f1 e1 o1 => ?_
 have c1 : aW h1 t1 r.vals := o1.cells
 have no : Q (.bool false) h1 := hk _ h1 f1 fun h => by cases h
 have rest : 1 ≤ r.Action → r.Action ≤ 4 → (r.Proto = 6 ∨ r.Proto = 17) → ldI h1 (Addr.add t1 7) .i64 fun t23 => if (decide (t23 ≥ 1)) = true then (ldI h1 (Addr.add t1 7) .i64 fun t28 => if (decide (t28 < 4294967296)) = true then (ldI h1 (Addr.add t1 8) .i64 fun t33 => if (decide (t33 ≥ 1)) = true then (ldI h1 (Addr.add t1 8) .i64 fun t38 => if (decide (t38 ≤ 65535)) = true then (ldI h1 (Addr.add t1 9) .i64 fun t43 => if (decide (t43 ≥ 1)) = true then (ldI h1 (Addr.add t1 9) .i64 fun t48 => if (decide (t48 ≤ 4)) = true then (ldI h1 (Addr.add t1 11) .i64 fun t53 => if (decide (t53 ≥ 0)) = true then (ldI h1 (Addr.add t1 11) .i64 fun t58 => if (decide (t58 ≤ 2)) = true then (ldI h1 (Addr.add t1 12) .i64 fun t63 => if (decide (t63 ≥ 1)) = true then (ldI h1 (Addr.add t1 12) .i64 fun t68 => Q (.bool (decide (t68 ≤ 18))) h1) else (Q (.bool false) h1)) else (Q (.bool false) h1)) else (Q (.bool false) h1)) else (Q (.bool false) h1)) else (Q (.bool false) h1)) else (Q (.bool false) h1)) else (Q (.bool false) h1)) else (Q (.bool false) h1)) else (Q (.bool false) h1) := fun a1 a2 a3 => by
  refine aB (c1.at (j := 7) rfl) (ifD (fun b1 => ?_) fun _ => no)
  refine aB (c1.at (j := 7) rfl) (ifD (fun b2 => ?_) fun _ => no)
  refine aB (c1.at (j := 8) rfl) (ifD (fun b3 => ?_) fun _ => no)
  refine aB (c1.at (j := 8) rfl) (ifD (fun b4 => ?_) fun _ => no)
  refine aB (c1.at (j := 9) rfl) (ifD (fun b5 => ?_) fun _ => no)
  refine aB (c1.at (j := 9) rfl) (ifD (fun b6 => ?_) fun _ => no)
  refine aB (c1.at (j := 11) rfl) (ifD (fun b7 => ?_) fun _ => no)
  refine aB (c1.at (j := 11) rfl) (ifD (fun b8 => ?_) fun _ => no)
  refine aB (c1.at (j := 12) rfl) (ifD (fun b9 => ?_) fun _ => no)
  refine aB (c1.at (j := 12) rfl) (hk _ h1 f1 fun e => ?_)
  exact ⟨⟨a1, a2⟩, a3, ⟨b1, b2⟩, ⟨b5, b6⟩, ⟨b7, b8⟩, b9, of_decide_eq_true e⟩
 refine aB (c1.at0 rfl) (ifD (fun a1 => aB (c1.at0 rfl) (ifD (fun a2 => ?_) fun _ => no)) fun _ => no)
 refine aB (c1.at (j := 1) rfl) (ifE (fun a3 => rest a1 a2 (.inl a3)) fun _ => aB (c1.at (j := 1) rfl) (ifE (fun a3 => rest a1 a2 (.inr a3)) fun _ => no))
theorem IH [Gh] (r : aK) (hk : ∀ (b : Bool) h', Fr (fun _ => False) h h' → Q (.bool b) h') : aD Tryz.prog qp #[.agg r.vals.toArray] h Q := by
 apply zi
 unfold vf
 refine aZ (vs := r.vals) fun t1 h1 f1 e1 o1 => ?_
 have c1 : aW h1 t1 r.vals := o1.cells
 refine aB (c1.at (j := 1) rfl) (ifE (fun _ => aB (c1.at (j := 12) rfl) (hk _ h1 f1)) fun _ => ?_)
 refine aB (c1.at (j := 12) rfl) (ifE (fun _ => hk _ h1 f1) fun _ => aB (c1.at (j := 12) rfl) (ifE (fun _ => hk _ h1 f1) fun _ => aB (c1.at (j := 12) rfl) (ifE (fun _ => hk _ h1 f1) fun _ => aB (c1.at (j := 12) rfl) (hk _ h1 f1))))
theorem Ij [Gh] (r : aK) (hk : ∀ (b : Bool) h', Fr (fun _ => False) h h' → (b = true → r.Msg.length ≤ 128 ∧ r.Transforms.xs.length ≤ 4 ∧ r.Contents.xs.length ≤ 8 ∧ r.Tests.xs.length ≤ 8 ∧ r.Flow.xs.length ≤ 8 ∧ r.Src.xs.length ≤ 64 ∧ r.Dst.xs.length ≤ 64 ∧ r.SrcPorts.xs.length ≤ 64 ∧ r.DstPorts.xs.length ≤ 64) → Q (.bool b) h') :
  aD Tryz.prog pL #[.agg r.vals.toArray] h Q := by
 apply zd
 unfold uT
 refine aZ (vs := r.vals) fun t1 h1 f1 e1 o1 => ?_
 have c1 : aW h1 t1 r.vals := o1.cells
 have no : Q (.bool false) h1 := hk _ h1 f1 fun h => by cases h
 refine bH (c1.at (j := 10) rfl) ?_
 rw [bR]
 refine ifD (fun b0 => ?_) fun _ => no
 refine aC (c1.at (j := 13) rfl) (ifD (fun b1 => ?_) fun _ => no)
 refine aC (c1.at (j := 14) rfl) (ifD (fun b2 => ?_) fun _ => no)
 refine aC (c1.at (j := 15) rfl) (ifD (fun b3 => ?_) fun _ => no)
 refine aC (c1.at (j := 16) rfl) (ifD (fun b4 => ?_) fun _ => no)
 refine aC (c1.at (j := 2) rfl) (ifD (fun b5 => ?_) fun _ => no)
 refine aC (c1.at (j := 3) rfl) (ifD (fun b6 => ?_) fun _ => no)
 refine aC (c1.at (j := 4) rfl) (ifD (fun b7 => ?_) fun _ => no)
 refine aC (c1.at (j := 5) rfl) (hk _ h1 f1 fun e => ?_)
 have e := of_decide_eq_true e
 exact ⟨by omega, by omega, by omega, by omega, by omega, by omega, by omega, by omega, by omega⟩
theorem BA [Gh] (n : Int) (rel : Bool) (hk : ∀ b : Bool, (b = true → -1024 ≤ n ∧ n ≤ 1024) → Q (.bool b) h) : aD Tryz.prog gR #[.int .i64 n, .bool rel] h Q := by
 apply yL
 unfold tY
 have no : Q (.bool false) h := hk _ fun h => by cases h
 refine ifD (fun e1 => ifD (fun e2 => hk _ fun _ => by omega) fun e2 => ifB (fun _ => hk _ fun e => ?_) fun _ => no) fun _ => no
 have := of_decide_eq_true e; omega
theorem w6 [Gh] (l : Sl aI) (o : bF 6 aI.vals aI.ok h l) (hk : ∀ b : Bool, Q (.bool b) h) : aD Tryz.prog jV #[.slice l.p l.xs.length l.cap] h Q := by
 apply vQ
 unfold qv
 have hcap := o.cap
 refine aJ.go (fun n st h' => ∃ i : Nat, st = (i : Int) ∧ i ≤ l.xs.length ∧ n = l.xs.length - i ∧ h' = h) l.xs.length ⟨0, rfl, by omega, rfl, rfl⟩ ?_
 rintro n - h1 ⟨i, rfl, hi, rfl, rfl⟩ Kn hK
 unfold mf
 refine ifD (fun e => ?_) fun _ => hk _
 have hil : i < l.xs.length := by omega
 refine dH o i rfl hil fun ad c _ => ?_
 rw [Int.toNat_natCast]
 have nx : Kn (wrap .i64 ((i : Int) + 1)) h1 := by
  rw [wr (by omega) (by omega)]
  exact hK (l.xs.length - (i + 1)) _ _ (by omega) ⟨i + 1, rfl, hil, rfl, rfl⟩
 refine bH (c.at (j := 1) rfl) (JE (m := []) (fun _ => ?_) fun _ => nx)
 refine dH o i rfl hil fun ad c _ => ?_
 refine bH (c.at (j := 1) rfl) (yJ _ fun b _ => ⟨b, rfl, ifN (fun _ => hk _) fun _ => nx⟩)
theorem xb [Gh] (l : Sl aG) (o : bF 4 aG.vals aG.ok h l) (hk : ∀ b : Bool, Q (.bool b) h) : aD Tryz.prog jO #[.slice l.p l.xs.length l.cap] h Q := by
 apply wo
 unfold qE
 have hcap := o.cap
 refine aJ.go (fun n st h' => ∃ i : Nat, st = (i : Int) ∧ i ≤ l.xs.length ∧ n = l.xs.length - i ∧ h' = h) l.xs.length ⟨0, rfl, by omega, rfl, rfl⟩ ?_
 rintro n - h1 ⟨i, rfl, hi, rfl, rfl⟩ Kn hK
 unfold lY
 refine ifD (fun e => ?_) fun _ => hk _
 have hil : i < l.xs.length := by omega
 refine dH o i rfl hil fun ad c _ => ?_
 rw [Int.toNat_natCast]
 have nx : Kn (wrap .i64 ((i : Int) + 1)) h1 := by
  rw [wr (by omega) (by omega)]
  exact hK (l.xs.length - (i + 1)) _ _ (by omega) ⟨i + 1, rfl, hil, rfl, rfl⟩
 refine bH (c.at (j := 1) rfl) (JE (m := []) (fun _ => ?_) fun _ => nx)
 refine dH o i rfl hil fun ad c _ => ?_
 refine bH (c.at (j := 1) rfl) (yJ _ fun b _ => ⟨b, rfl, ifN (fun _ => hk _) fun _ => nx⟩)
theorem B8 [Gh] (l : Sl aT) (o : bF 2 aT.vals aT.ok h l) (hk : ∀ b : Bool, (b = true → ∀ f ∈ l.xs, f.Name.length ≤ 32) → Q (.bool b) h) : aD Tryz.prog l6 #[.slice l.p l.xs.length l.cap] h Q := by
 apply wj
 unfold qK
 have hcap := o.cap
 refine aJ.go (fun n st h' => ∃ i : Nat, st = (i : Int) ∧ i ≤ l.xs.length ∧ n = l.xs.length - i ∧ h' = h ∧ ∀ f ∈ l.xs.take i, f.Name.length ≤ 32) l.xs.length ⟨0, rfl, by omega, rfl, rfl, by simp⟩ ?_
 rintro n - h1 ⟨i, rfl, hi, rfl, rfl, ha⟩ Kn hK
 unfold lX
 refine ifD (fun e => ?_) fun e => hk true fun _ => ?_
 ·have hil : i < l.xs.length := by omega
  refine dH o i rfl hil fun ad c _ => ?_
  rw [Int.toNat_natCast]
  refine bH (c.at (j := 1) rfl) (yJ _ fun b hb => ⟨b, rfl, ifN (fun _ => hk _ fun h => by cases h) fun e2 => ?_⟩)
  rw [wr (by omega) (by omega)]
  exact hK (l.xs.length - (i + 1)) _ _ (by omega) ⟨i + 1, rfl, hil, rfl, rfl, tO hil ha (hb e2)⟩
 ·have : i = l.xs.length := by omega
  subst this
  rw [List.take_length] at ha; exact ha
theorem Dp [Gh] (l : Sl Cn) (o : bF 7 aF.vals aF.ok h l) (hk : ∀ (e : Int) h', Fr (fun _ => False) h h' → (e = 0 → ∀ c ∈ l.xs, 1 ≤ c.Pattern.length ∧ c.Pattern.length ≤ 64 ∧ -1024 ≤ c.Offset ∧ c.Offset ≤ 1024 ∧ 0 ≤ c.Depth ∧ c.Depth ≤ 1024) → Q (.int .i64 e) h') : aD Tryz.prog mZ #[.slice l.p l.xs.length l.cap] h Q := by
 apply wR
 unfold rf
 have hcap := o.cap
 refine aJ.go (fun n st h' => ∃ i : Nat, st = (i : Int) ∧ i ≤ l.xs.length ∧ n = l.xs.length - i ∧ Fr (fun _ => False) h h' ∧ ∀ c ∈ l.xs.take i, 1 ≤ c.Pattern.length ∧ c.Pattern.length ≤ 64 ∧ -1024 ≤ c.Offset ∧ c.Offset ≤ 1024 ∧ 0 ≤ c.Depth ∧ c.Depth ≤ 1024) l.xs.length ⟨0, rfl, by omega, rfl, Fr.refl _ _, by simp⟩ ?_
 rintro n - h1 ⟨i, rfl, hi, rfl, f1, ha⟩ Kn hK
 unfold m6
 refine ifD (fun e => ?_) fun e => hk 0 h1 f1 fun _ => ?_
 ·have hil : i < l.xs.length := by omega
  refine dH (bF.fr0 aF.ok_fr f1 o) i rfl hil fun ad c _ => ?_
  rw [Int.toNat_natCast]
  refine bH (c.at0 rfl) (aN (c.at (j := 1) rfl) (aN (c.at (j := 2) rfl) (aN (c.at (j := 3) rfl) (aB (c.at (j := 4) rfl) (aB (c.at (j := 5) rfl) (aN (c.at (j := 6) rfl) ?_))))))
  refine aZ (vs := [.string (bs []), .bool false, .bool false, .bool false, .int .i64 0, .int .i64 0, .bool false]) fun t4 h2 f2 e2 o2 => ?_
  refine jr o2 (ws := l.xs[i].vals) (by rfl) (by rfl) fun h3 f3 s3 o3 => ?_
  have f13 : Fr (fun _ => False) h h3 := f1.trans (f2.tr f3 fun b hb hi => by omega)
  have c3 : aW h3 t4 l.xs[i].vals := o3.cells
  have no : ∀ e : Int, e ≠ 0 → Q (.int .i64 e) h3 := fun e he => hk _ h3 f13 fun h => absurd h he
  refine bH (c3.at0 rfl) ?_
  rw [bR]
  refine ifD (fun _ => no _ (by decide)) fun b1 => ?_
  refine bH (c3.at0 rfl) ?_
  rw [bR]
  refine ifD (fun _ => no _ (by decide)) fun b2 => ?_
  refine aB (c3.at (j := 4) rfl) (aN (c3.at (j := 3) rfl) (BA _ _ fun b hb => ⟨b, rfl, ifN (fun _ => no _ (by decide)) fun b3 => ?_⟩))
  have hb := hb b3
  refine aB (c3.at (j := 5) rfl) (ifD (fun _ => no _ (by decide)) fun b4 => aB (c3.at (j := 5) rfl) (ifD (fun _ => no _ (by decide)) fun b5 => ?_))
  rw [wr (by omega) (by omega)]
  exact hK (l.xs.length - (i + 1)) _ _ (by omega) ⟨i + 1, rfl, hil, rfl, f13, tO hil ha ⟨by omega, by omega, hb.1, hb.2, by omega, by omega⟩⟩
 ·have : i = l.xs.length := by omega
  subst this
  rw [List.take_length] at ha; exact ha
theorem FX [Gh] (l : Sl Ts) (o : bF 7 bE.vals bE.ok h l) (hk : ∀ (b : Bool) h', Fr (fun _ => False) h h' → (b = true → ∀ t ∈ l.xs, -1024 ≤ t.Offset ∧ t.Offset ≤ 1024) → Q (.bool b) h') : aD Tryz.prog pQ #[.slice l.p l.xs.length l.cap] h Q := by
 apply zp
 unfold vc
 have hcap := o.cap
 refine aJ.go (fun n st h' => ∃ i : Nat, st = (i : Int) ∧ i ≤ l.xs.length ∧ n = l.xs.length - i ∧ Fr (fun _ => False) h h' ∧ ∀ t ∈ l.xs.take i, -1024 ≤ t.Offset ∧ t.Offset ≤ 1024) l.xs.length ⟨0, rfl, by omega, rfl, Fr.refl _ _, by simp⟩ ?_
 rintro n - h1 ⟨i, rfl, hi, rfl, f1, ha⟩ Kn hK
 unfold qi
 refine ifD (fun e => ?_) fun e => hk true h1 f1 fun _ => ?_
 ·have hil : i < l.xs.length := by omega
  refine dH (bF.fr0 bE.ok_fr f1 o) i rfl hil fun ad c _ => ?_
  rw [Int.toNat_natCast]
  refine aB (c.at0 rfl) (aB (c.at (j := 1) rfl) (aB (c.at (j := 2) rfl) (aB (c.at (j := 3) rfl) (aN (c.at (j := 4) rfl) (aN (c.at (j := 5) rfl) (aN (c.at (j := 6) rfl) ?_))))))
  refine aZ (vs := [.int .i64 0, .int .i64 0, .int .i64 0, .int .i64 0, .bool false, .bool false, .bool false]) fun t4 h2 f2 e2 o2 => ?_
  refine jr o2 (ws := l.xs[i].vals) (by rfl) (by rfl) fun h3 f3 s3 o3 => ?_
  have f13 : Fr (fun _ => False) h h3 := f1.trans (f2.tr f3 fun b hb hi => by omega)
  have c3 : aW h3 t4 l.xs[i].vals := o3.cells
  have no : Q (.bool false) h3 := hk _ h3 f13 fun h => by cases h
  have last : ldI h3 (Addr.add t4 3) .i64 fun t55 => ldB h3 (Addr.add t4 4) fun t57 => aD Tryz.prog gR #[.int .i64 t55, .bool t57] h3 fun v h3 => ∃ t58 : Bool, v = .bool t58 ∧ if (!t58) = true then (Q (.bool false) h3) else (Kn (wrap .i64 ((i : Int) + 1)) h3) :=
   aB (c3.at (j := 3) rfl) (aN (c3.at (j := 4) rfl) (BA _ _ fun b hb => ⟨b, rfl, ifN (fun _ => no) fun b3 => by
    rw [wr (by omega) (by omega)]
    exact hK (l.xs.length - (i + 1)) _ _ (by omega) ⟨i + 1, rfl, hil, rfl, f13, tO hil ha (hb b3)⟩⟩))
  refine aB (c3.at0 rfl) (ifD (fun _ => no) fun _ => aB (c3.at0 rfl) (ifD (fun _ => no) fun _ => ?_))
  refine aB (c3.at (j := 1) rfl) (rM (fun _ => aB (c3.at (j := 1) rfl) (rM (fun _ => aB (c3.at (j := 1) rfl) (rM (fun _ => no) fun _ => ?_)) fun _ => ?_)) fun _ => ?_)
  ·exact aB (c3.at (j := 2) rfl) (ifD (fun _ => no) fun _ => aB (c3.at (j := 2) rfl) (aB (c3.at (j := 1) rfl) ⟨Bb _, ifD (fun _ => no) fun _ => last⟩))
  ·exact aB (c3.at (j := 2) rfl) (ifD (fun _ => no) fun _ => aB (c3.at (j := 2) rfl) (aB (c3.at (j := 1) rfl) ⟨Bb _, ifD (fun _ => no) fun _ => last⟩))
  ·exact aB (c3.at (j := 2) rfl) (ifD (fun _ => no) fun _ => aB (c3.at (j := 2) rfl) (aB (c3.at (j := 1) rfl) ⟨Bb _, ifD (fun _ => no) fun _ => last⟩))
 ·have : i = l.xs.length := by omega
  subst this
  rw [List.take_length] at ha; exact ha
theorem JH [Gh] (t : aG) (hk : ∀ (b : Bool) h', Fr (fun _ => False) h h' → Q (.bool b) h') : aD Tryz.prog rb #[.agg t.vals.toArray] h Q := by
 apply AC
 unfold wx
 refine aZ (vs := t.vals) fun t1 h1 f1 e1 o1 => ?_
 have c1 : aW h1 t1 t.vals := o1.cells
 refine bH (c1.at (j := 1) rfl) (JE (m := []) (fun _ => hk _ h1 f1) fun _ => ?_)
 exact aB (c1.at (j := 2) rfl) (ifD (fun _ => aB (c1.at (j := 2) rfl) (aB (c1.at (j := 3) rfl) (ifD (fun _ => aB (c1.at (j := 3) rfl) (hk _ h1 f1)) fun _ => hk _ h1 f1))) fun _ => hk _ h1 f1)
theorem Ee [Gh] (l : Sl aG) (o : bF 4 aG.vals aG.ok h l) (hk : ∀ (b : Bool) h', Fr (fun _ => False) h h' → Q (.bool b) h') : aD Tryz.prog mI #[.slice l.p l.xs.length l.cap] h Q := by
 apply zx
 unfold uW
 have hcap := o.cap
 refine aJ.go (fun n st h' => ∃ i : Nat, st = (i : Int) ∧ i ≤ l.xs.length ∧ n = l.xs.length - i ∧ Fr (fun _ => False) h h') l.xs.length ⟨0, rfl, by omega, rfl, Fr.refl _ _⟩ ?_
 rintro n - h1 ⟨i, rfl, hi, rfl, f1⟩ Kn hK
 unfold qo
 refine ifD (fun e => ?_) fun _ => hk _ h1 f1
 have hil : i < l.xs.length := by omega
 refine dH (bF.fr0 aG.ok_fr f1 o) i rfl hil fun ad c _ => ?_
 rw [Int.toNat_natCast]
 refine aN (c.at0 rfl) (bH (c.at (j := 1) rfl) (aB (c.at (j := 2) rfl) (aB (c.at (j := 3) rfl) ?_)))
 refine JH l.xs[i] fun b h2 f2 => ⟨b, rfl, ifN (fun _ => hk _ h2 (f1.trans f2)) fun _ => ?_⟩
 rw [wr (by omega) (by omega)]
 exact hK (l.xs.length - (i + 1)) _ _ (by omega) ⟨i + 1, rfl, hil, rfl, f1.trans f2⟩
theorem Cm [Gh] (t : bA) (hk : ∀ (b : Bool) h', Fr (fun _ => False) h h' → Q (.bool b) h') : aD Tryz.prog mi #[.agg t.vals.toArray] h Q := by
 apply vR
 unfold qA
 refine aZ (vs := t.vals) fun t1 h1 f1 e1 o1 => ?_
 have c1 : aW h1 t1 t.vals := o1.cells
 have q : ∀ b : Bool, Q (.bool b) h1 := fun b => hk b h1 f1
 refine aB (c1.at0 rfl) (ifE (fun _ => aB (c1.at0 rfl) (aB (c1.at (j := 1) rfl) (aB (c1.at (j := 2) rfl) (aB (c1.at (j := 3) rfl) (q _))))) fun _ => ?_)
 refine aB (c1.at0 rfl) (ifD (fun _ => aB (c1.at0 rfl) (ifD (fun _ => ?_) fun _ => q _)) fun _ => q _)
 refine aB (c1.at (j := 1) rfl) (ifD (fun _ => aB (c1.at (j := 1) rfl) (ifD (fun _ => ?_) fun _ => q _)) fun _ => q _)
 refine aB (c1.at (j := 2) rfl) (ifD (fun _ => aB (c1.at (j := 2) rfl) (ifD (fun _ => ?_) fun _ => q _)) fun _ => q _)
 exact aB (c1.at (j := 3) rfl) (ifD (fun _ => aB (c1.at (j := 3) rfl) (q _)) fun _ => q _)
theorem EZ [Gh] (r : aK) (ok : aK.ok h r) (hk : ∀ (b : Bool) h', Fr (fun _ => False) h h' → (b = true → ∀ f ∈ r.Flow.xs, 1 ≤ f.Op ∧ f.Op ≤ 4) → Q (.bool b) h') : aD Tryz.prog nX #[.agg r.vals.toArray] h Q := by
 apply xu
 unfold sG
 refine aZ (vs := r.vals) fun t1 h1 f1 e1 o1 => ?_
 have c1 : aW h1 t1 r.vals := o1.cells
 have o1 := aK.ok_fr _ _ _ f1 ok
 have hcap := o1.k16.cap
 refine aJ.go (fun n st h' => ∃ i : Nat, st = (i : Int) ∧ i ≤ r.Flow.xs.length ∧ n = r.Flow.xs.length - i ∧ h' = h1 ∧ ∀ f ∈ r.Flow.xs.take i, 1 ≤ f.Op ∧ f.Op ≤ 4) r.Flow.xs.length ⟨0, rfl, by omega, rfl, rfl, by simp⟩ ?_
 rintro n - h2 ⟨i, rfl, hi, rfl, rfl, ha⟩ Kn hK
 have no : Q (.bool false) h2 := hk _ h2 f1 fun h => by cases h
 unfold nN
 refine aC (c1.at (j := 16) rfl) (ifD (fun e => ?_) fun e => ?_)
 ·have hil : i < r.Flow.xs.length := by omega
  refine aC (c1.at (j := 16) rfl) (dH o1.k16 i rfl hil fun ad c _ => ?_)
  rw [Int.toNat_natCast]
  refine aB (c.at0 rfl) (ifD (fun _ => no) fun b1 => aC (c1.at (j := 16) rfl) (dH o1.k16 i rfl hil fun ad c _ => aB (c.at0 rfl) (ifD (fun _ => no) fun b2 => ?_)))
  rw [wr (by omega) (by omega)]
  exact hK (r.Flow.xs.length - (i + 1)) _ _ (by omega) ⟨i + 1, rfl, hil, rfl, rfl, tO hil ha ⟨by omega, by omega⟩⟩
 ·have : i = r.Flow.xs.length := by omega
  subst this
  rw [List.take_length] at ha
  unfold n8
  refine aC (c1.at (j := 4) rfl) (Ee r.SrcPorts o1.k4 fun b h3 f3 => ⟨b, rfl, ifB (fun _ => ?_) fun _ => hk _ h3 (f1.trans f3) fun h => by cases h⟩)
  have c3 := c1.fr0 f3
  have o3 := aK.ok_fr _ _ _ f3 o1
  refine aC (c3.at (j := 5) rfl) (Ee r.DstPorts o3.k5 fun b h4 f4 => ⟨b, rfl, ifB (fun _ => ?_) fun _ => hk _ h4 ((f1.trans f3).trans f4) fun h => by cases h⟩)
  have c4 := c3.fr0 f4
  refine aB (c4.at (j := 17) rfl) (aB (c4.at (j := 18) rfl) (aB (c4.at (j := 19) rfl) (aB (c4.at (j := 20) rfl) ?_)))
  exact Cm r.Threshold fun b h5 f5 => ⟨b, rfl, hk _ h5 (((f1.trans f3).trans f4).trans f5) fun _ => ha⟩
theorem yz [Gh] (l : Sl aI) (o : bF 6 aI.vals aI.ok h l) (hk : ∀ (b : Bool) h', Fr (fun _ => False) h h' → Q (.bool b) h') : aD Tryz.prog kD #[.slice l.p l.xs.length l.cap] h Q := by
 apply wV
 unfold rP
 have hcap := o.cap
 refine aJ.go (fun n st h' => ∃ i : Nat, st = (i : Int) ∧ i ≤ l.xs.length ∧ n = l.xs.length - i ∧ Fr (fun _ => False) h h') l.xs.length ⟨0, rfl, by omega, rfl, Fr.refl _ _⟩ ?_
 rintro n - h1 ⟨i, rfl, hi, rfl, f1⟩ Kn hK
 unfold mM
 refine ifD (fun e => ?_) fun _ => hk _ h1 f1
 have hil : i < l.xs.length := by omega
 have ol := bF.fr0 aI.ok_fr f1 o
 refine dH ol i rfl hil fun ad c _ => ?_
 rw [Int.toNat_natCast]
 have nx : ∀ h', Fr (fun _ => False) h1 h' → Kn (wrap .i64 ((i : Int) + 1)) h' := fun h' f => by
  rw [wr (by omega) (by omega)]
  exact hK (l.xs.length - (i + 1)) _ _ (by omega) ⟨i + 1, rfl, hil, rfl, f1.trans f⟩
 refine bH (c.at (j := 1) rfl) (Bw (fun _ => ?_) fun _ => nx h1 (Fr.refl _ _))
 refine dH ol i rfl hil fun ad c _ => ?_
 have a2 : (ad.add (i * 6)).add 2 = (ad.add (i * 6)).add 2 := rfl
 refine aN (c.at (j := 2) rfl) (aB (c.at (j := 3) rfl) (aB (c.at (j := 4) rfl) (aB (c.at (j := 5) rfl) ?_)))
 exact zq l.xs[i].Prefix fun b h2 f2 => ⟨b, rfl, ifN (fun _ => hk _ h2 (f1.trans f2)) fun _ => nx h2 f2⟩
theorem Js [Gh] (l : Sl Cn) (o : bF 7 aF.vals aF.ok h l) (hl : l.xs.length ≤ 1000) (hk : ∀ b : Bool, Q (.bool b) h) : aD Tryz.prog qM #[.slice l.p l.xs.length l.cap] h Q := by
 apply AV
 unfold vN
 refine aJ.go (fun n st h' => ∃ i : Nat, st.2 = (i : Int) ∧ i ≤ l.xs.length ∧ n = l.xs.length - i ∧ h' = h) l.xs.length ⟨0, rfl, by omega, rfl, rfl⟩ ?_
 rintro n ⟨x, y⟩ h1 ⟨i, e0, hi, rfl, rfl⟩ Kn hK
 dsimp only at e0
 subst e0
 dsimp only
 unfold qW
 refine ifD (fun e => ?_) fun _ => hk _
 have hil : i < l.xs.length := by omega
 refine dH o i rfl hil fun ad c _ => ?_
 rw [Int.toNat_natCast, wr (x := (i : Int) + 1) (by omega) (by omega)]
 have nx : ∀ z, Kn (z, (i : Int) + 1) h1 := fun z => hK (l.xs.length - (i + 1)) _ _ (by omega) ⟨i + 1, rfl, hil, rfl, rfl⟩
 refine aN (c.at (j := 6) rfl) (ifB (fun _ => ?_) fun _ => nx _)
 exact dH o i rfl hil fun ad c _ => aN (c.at (j := 2) rfl) (ifB (fun _ => hk _) fun _ => nx _)
theorem HC [Gh] (r : aK) (ok : aK.ok h r) (hk : ∀ (e : Int) h', Fr (fun _ => False) h h' → (e = 0 → DG r) → Q (.int .i64 e) h') : aD Tryz.prog pF #[.agg r.vals.toArray] h Q := by
 apply zt
 unfold vd
 refine aZ (vs := r.vals) fun t1 h1 f1 e1 o1 => ?_
 have c1 : aW h1 t1 r.vals := o1.cells
 have k1 := aK.ok_fr _ _ _ f1 ok
 clear o1
 have no : ∀ {h'} (e : Int), Fr (fun _ => False) h1 h' → e ≠ 0 → Q (.int .i64 e) h' := fun e f he => hk e _ (f1.trans f) fun h => absurd h he
 refine (aB (c1.at0 rfl) (aB (c1.at rfl) (aC (c1.at rfl) (aC (c1.at rfl) (aC (c1.at rfl) (aC (c1.at rfl) (aN (c1.at rfl) (aB (c1.at rfl) (aB (c1.at rfl) (aB (c1.at rfl) (bH (c1.at rfl) (aB (c1.at rfl) (aB (c1.at rfl) (aC (c1.at rfl) (aC (c1.at rfl) (aC (c1.at rfl) (aC (c1.at rfl) (aB (c1.at rfl) (aB (c1.at rfl) (aB (c1.at rfl) (aB (c1.at rfl) ?_)))))))))))))))))))))
 refine Ip r fun b h2 f2 hb1 => ⟨b, rfl, ifN (fun _ => no _ f2 (by decide)) fun b1 => ?_⟩
 have c2 := c1.fr0 f2
 refine (aB (c2.at0 rfl) (aB (c2.at rfl) (aC (c2.at rfl) (aC (c2.at rfl) (aC (c2.at rfl) (aC (c2.at rfl) (aN (c2.at rfl) (aB (c2.at rfl) (aB (c2.at rfl) (aB (c2.at rfl) (bH (c2.at rfl) (aB (c2.at rfl) (aB (c2.at rfl) (aC (c2.at rfl) (aC (c2.at rfl) (aC (c2.at rfl) (aC (c2.at rfl) (aB (c2.at rfl) (aB (c2.at rfl) (aB (c2.at rfl) (aB (c2.at rfl) ?_)))))))))))))))))))))
 refine IH r fun b h3 f3 => ⟨b, rfl, ifN (fun _ => no _ (f2.trans f3) (by decide)) fun b2 => ?_⟩
 have f13 := f2.trans f3
 have c3 := c2.fr0 f3
 refine (aB (c3.at0 rfl) (aB (c3.at rfl) (aC (c3.at rfl) (aC (c3.at rfl) (aC (c3.at rfl) (aC (c3.at rfl) (aN (c3.at rfl) (aB (c3.at rfl) (aB (c3.at rfl) (aB (c3.at rfl) (bH (c3.at rfl) (aB (c3.at rfl) (aB (c3.at rfl) (aC (c3.at rfl) (aC (c3.at rfl) (aC (c3.at rfl) (aC (c3.at rfl) (aB (c3.at rfl) (aB (c3.at rfl) (aB (c3.at rfl) (aB (c3.at rfl) ?_)))))))))))))))))))))
 refine Ij r fun b h4 f4 hb3 => ⟨b, rfl, ifN (fun _ => no _ (f13.trans f4) (by decide)) fun b3 => ?_⟩
 have f14 := f13.trans f4
 have c4 := c3.fr0 f4
 have k4 := aK.ok_fr _ _ _ f14 k1
 refine aC (c4.at (j := 2) rfl) (w6 r.Src k4.k2 fun b => ⟨b, rfl, ifN (fun _ => no _ f14 (by decide)) fun _ => ?_⟩)
 refine aC (c4.at (j := 3) rfl) (w6 r.Dst k4.k3 fun b => ⟨b, rfl, ifN (fun _ => no _ f14 (by decide)) fun _ => ?_⟩)
 refine aC (c4.at (j := 4) rfl) (xb r.SrcPorts k4.k4 fun b => ⟨b, rfl, ifN (fun _ => no _ f14 (by decide)) fun _ => ?_⟩)
 refine aC (c4.at (j := 5) rfl) (xb r.DstPorts k4.k5 fun b => ⟨b, rfl, ifN (fun _ => no _ f14 (by decide)) fun _ => ?_⟩)
 refine aC (c4.at (j := 16) rfl) (B8 r.Flow k4.k16 fun b hb4 => ⟨b, rfl, ifN (fun _ => no _ f14 (by decide)) fun b4 => ?_⟩)
 have hs := hb3 b3
 refine aJ.go (fun n st h' => ∃ i : Nat, st = (i : Int) ∧ i ≤ r.Transforms.xs.length ∧ n = r.Transforms.xs.length - i ∧ h' = h4 ∧ ∀ x ∈ r.Transforms.xs.take i, 1 ≤ x ∧ x ≤ 6) r.Transforms.xs.length ⟨0, rfl, by omega, rfl, rfl, by simp⟩ ?_
 rintro n - h5 ⟨i, rfl, hi, rfl, rfl, ha⟩ Kn hK
 unfold qm
 refine aC (c4.at (j := 13) rfl) (ifD (fun e => ?_) fun e => ?_)
 ·have hil : i < r.Transforms.xs.length := by omega
  refine aC (c4.at (j := 13) rfl) (dH k4.k13 i rfl hil fun ad c _ => ?_)
  rw [Int.toNat_natCast]
  refine aB (c.at0 rfl) (ifD (fun _ => no _ f14 (by decide)) fun b5 => aC (c4.at (j := 13) rfl) (dH k4.k13 i rfl hil fun ad c _ => aB (c.at0 rfl) (ifD (fun _ => no _ f14 (by decide)) fun b6 => ?_)))
  rw [wr (by omega) (by omega)]
  exact hK (r.Transforms.xs.length - (i + 1)) _ _ (by omega) ⟨i + 1, rfl, hil, rfl, rfl, tO hil ha ⟨by omega, by omega⟩⟩
 have hit : i = r.Transforms.xs.length := by omega
 subst hit
 rw [List.take_length] at ha
 unfold pM
 refine aC (c4.at (j := 14) rfl) (Dp r.Contents k4.k14 fun e h6 f6 hc => ⟨e, rfl, rM (fun he => no _ (f14.trans f6) he) fun he => ?_⟩)
 have f16 := f14.trans f6
 have c6 := c4.fr0 f6
 have k6 := aK.ok_fr _ _ _ f6 k4
 refine aC (c6.at (j := 15) rfl) (FX r.Tests k6.k15 fun b h7 f7 ht => ⟨b, rfl, ifN (fun _ => no _ (f16.trans f7) (by decide)) fun bt => ?_⟩)
 have f17 := f16.trans f7
 have c7 := c6.fr0 f7
 have k7 := aK.ok_fr _ _ _ f7 k6
 refine (aB (c7.at0 rfl) (aB (c7.at rfl) (aC (c7.at rfl) (aC (c7.at rfl) (aC (c7.at rfl) (aC (c7.at rfl) (aN (c7.at rfl) (aB (c7.at rfl) (aB (c7.at rfl) (aB (c7.at rfl) (bH (c7.at rfl) (aB (c7.at rfl) (aB (c7.at rfl) (aC (c7.at rfl) (aC (c7.at rfl) (aC (c7.at rfl) (aC (c7.at rfl) (aB (c7.at rfl) (aB (c7.at rfl) (aB (c7.at rfl) (aB (c7.at rfl) ?_)))))))))))))))))))))
 refine EZ r k7 fun b h8 f8 hn => ⟨b, rfl, ifN (fun _ => no _ (f17.trans f8) (by decide)) fun bn => ?_⟩
 have f18 := f17.trans f8
 have c8 := c7.fr0 f8
 have k8 := aK.ok_fr _ _ _ f8 k7
 refine aC (c8.at (j := 2) rfl) (yz r.Src k8.k2 fun b h9 f9 => ⟨b, rfl, ifN (fun _ => no _ (f18.trans f9) (by decide)) fun _ => ?_⟩)
 have f19 := f18.trans f9
 have c9 := c8.fr0 f9
 have k9 := aK.ok_fr _ _ _ f9 k8
 refine aC (c9.at (j := 3) rfl) (yz r.Dst k9.k3 fun b h10 f10 => ⟨b, rfl, ifN (fun _ => no _ (f19.trans f10) (by decide)) fun _ => ?_⟩)
 have f110 := f19.trans f10
 have c10 := c9.fr0 f10
 have k10 := aK.ok_fr _ _ _ f10 k9
 refine aC (c10.at (j := 14) rfl) (Js r.Contents k10.k14 (by omega) fun b => ⟨b, rfl, ifN (fun _ => no _ f110 (by decide)) fun _ => ?_⟩)
 refine aC (c10.at (j := 14) rfl) (aC (c10.at (j := 15) rfl) (ifE (fun _ => no _ f110 (by decide)) fun _ => hk 0 h10 (f1.trans f110) fun _ => ?_))
 obtain ⟨g1, g2, g3, g4, g5, g6⟩ := hb1 b1
 obtain ⟨s1, s2, s3, s4, s5, s6, s7, s8, s9⟩ := hs
 exact ⟨g1, g2, g3, g4, g5, g6, s1, s2, s3, s4, s5, s6, s7, s8, s9, ha, hc he, ht bt, fun f hf => ⟨hb4 b4 f hf, hn bn f hf⟩⟩
end
end Go.Proofs.YtjmfpeiidlpngaaGreatDoor.Au
namespace Go.Proofs.YtjmfpeiidlpngaaGreatDoor
set_option linter.unusedSimpArgs false
set_option linter.unusedVariables false
set_option maxRecDepth 20000
open Go
open Go.IntKind (wrap)
theorem Dl : IC Tryz.prog qd (yA .i64) := HA Tryz.underlying3
theorem Jc {h : aA} {K : Value → aA → Prop} (hk : K (.bool false) h) : wpH Tryz.prog (zeroValue C4) K h := AJ (i := Tryz.t4) (by kernel_rfl) (by kernel_rfl) hk
theorem Hg : gM Tryz.prog mJ bU Tryz.t65 (.agg #[.int .i64 0, .int .i64 0, .slice none 0 0, .slice none 0 0, .slice none 0 0, .slice none 0 0, .bool false, .int .i64 0, .int .i64 0, .int .i64 0, .string (bs []), .int .i64 0, .int .i64 0, .slice none 0 0, .slice none 0 0, .slice none 0 0, .slice none 0 0, .int .i64 0, .int .i64 0, .int .i64 0, .int .i64 0, .slice none 0 0, .slice none 0 0, .slice none 0 0, .slice none 0 0]) := ⟨Tryz.underlying22, by kernel_rfl, by kernel_rfl, by kernel_rfl, by decide +kernel⟩
theorem Il : gM Tryz.prog oh cO Tryz.t61 (.agg #[.int .i64 0, .int .i64 0, .slice none 0 0, .slice none 0 0, .slice none 0 0, .slice none 0 0, .bool false, .int .i64 0, .int .i64 0, .int .i64 0, .string (bs []), .int .i64 0, .int .i64 0, .slice none 0 0, .slice none 0 0, .slice none 0 0, .slice none 0 0, .int .i64 0, .int .i64 0, .int .i64 0, .int .i64 0]) := ⟨Tryz.underlying80, by kernel_rfl, by kernel_rfl, by kernel_rfl, by decide +kernel⟩
theorem Ao (x : aE) : (aE.vals x).length = 25 := rfl
theorem Dk (x : aE) : (aE.vals x).all ee = true := rfl
theorem Cc (x : aK) : (aK.vals x).length = 21 := rfl
theorem Ep (x : aK) : (aK.vals x).all ee = true := rfl
abbrev Bd := aE
def nj (b : Bd) : Int := b.Rule.Sid
structure CpI (h0 : aA) (A : Addr) (m seen : Nat) (l : List Bd) (h : aA) (i : Nat) (p1 : Option Addr) (c1 : Nat) (p2 : Option Addr) (c2 : Nat) (bs : List Bd) : Prop where
 le : i ≤ l.length
 fr : Fr (fun _ => False) h0 h
 own : Own h A [.slice p1 i c1, .map (some m)] oo
 r1 : Row 25 aE.vals h p1 c1 bs
 r2 : Row 21 aK.vals h p2 c2 (bs.map (·.Rule))
 mm : uL (yA .i64) h m []
 ms : uL (yA .i64) h seen ((l.take i).map fun b => (nj b, .bool true))
 wp : bs.map wipe = (l.take i).map wipe
 st : ∀ b ∈ bs, St (fun x => h0.size ≤ x ∧ x ≠ A.block ∧ x ≠ m ∧ x ≠ seen ∧ ¬ InA p1 x ∧ ¬ InA p2 x) h b
 n1 : ∀ x, InA p1 x → h0.size ≤ x ∧ x ≠ A.block ∧ x ≠ m ∧ x ≠ seen ∧ ¬ InA p2 x
 n2 : ∀ x, InA p2 x → h0.size ≤ x ∧ x ≠ A.block ∧ x ≠ m ∧ x ≠ seen
 nA : h0.size ≤ A.block ∧ h0.size ≤ m ∧ h0.size ≤ seen ∧ A.block ≠ m ∧ A.block ≠ seen ∧ m ≠ seen
 nd : ((l.take i).map nj).Nodup
theorem CpI.len {h0 : aA} {A : Addr} {m seen : Nat} {l : List Bd} {h : aA} {i : Nat} {p1 : Option Addr} {c1 : Nat} {p2 : Option Addr} {c2 : Nat} {bs : List Bd} (C : CpI h0 A m seen l h i p1 c1 p2 c2 bs) : bs.length = i := by
 have h1 := congrArg List.length C.wp
 have h2 := C.le
 simp at h1; omega
set_option maxHeartbeats 1000000 in
theorem Fj [Gh] (l : Sl Bd) {h0 : aA} (ok : bF 25 aE.vals aE.ok h0 l) (hl : l.xs.length ≤ 40) (L : ∀ b ∈ l.xs, I9 b) {A : Addr} {m seen : Nat} {h : aA} (C0 : CpI h0 A m seen l.xs h 0 none 0 none 0 []) {Q : Value → aA → Prop}
  (hbad : ∀ h', Fr (fun _ => False) h0 h' → ¬ (l.xs.map nj).Nodup → Q (.tuple #[.pointer none, .int .i64 7]) h')
  (hk : ∀ h' p1 c1 p2 c2 bs, CpI h0 A m seen l.xs h' l.xs.length p1 c1 p2 c2 bs → jP A p2 l.xs.length c2 Q h') :
  aJ (fun (s : (Option Addr) × Nat × Nat × Int) h Kn => jX A (some seen) l.p l.xs.length l.cap ((l.xs.length : Nat) : Int) Q s.1 s.2.1 s.2.2.1 s.2.2.2 h Kn) (none, 0, 0, 0) h := by
 refine aJ.mk (fun st h' => ∃ (i : Nat) (p1 : Option Addr) (c1 : Nat) (p2 : Option Addr) (c2 : Nat) (bs : List Bd), st = (p2, i, c2, (i : Int)) ∧ CpI h0 A m seen l.xs h' i p1 c1 p2 c2 bs)
  (fun st _ => l.xs.length - st.2.2.2.toNat) ⟨0, none, 0, none, 0, [], rfl, C0⟩ ?_
 rintro st h1 ⟨i, p1, c1, p2, c2, bs, rfl, C⟩
 dsimp only
 have hil := C.le
 have clen := C.len
 subst clen
 unfold jX
 refine ifD (fun hlt => ?_) (fun hge => ?_)
 ·have hi : bs.length < l.xs.length := by omega
  have ok1 := bF.fr0 aE.ok_fr C.fr ok
  have Lb := L _ (List.getElem_mem hi)
  refine dH ok1 bs.length rfl hi fun ad cc okr => ?_
  rw [Int.toNat_natCast]
  refine (aB (cc.at0 rfl) (aB (cc.at rfl) (aC (cc.at rfl) (aC (cc.at rfl) (aC (cc.at rfl) (aC (cc.at rfl) (aN (cc.at rfl) (aB (cc.at rfl) (aB (cc.at rfl) (aB (cc.at rfl) (bH (cc.at rfl) (aB (cc.at rfl) (aB (cc.at rfl) (aC (cc.at rfl) (aC (cc.at rfl) (aC (cc.at rfl) (aC (cc.at rfl) (aB (cc.at rfl) (aB (cc.at rfl) (aB (cc.at rfl) (aB (cc.at rfl) (aC (cc.at rfl) (aC (cc.at rfl) (aC (cc.at rfl) (aC (cc.at rfl) ?_)))))))))))))))))))))))))
  refine qf rfl rfl fun t8 h2 f2 ht8 o8 => ?_
  have zA := C.own.lt
  have zm := C.mm.lt
  have zs := C.ms.lt
  have z2 := f2.size
  refine aB (o8.cells.at (j := 7) rfl) ?_
  refine vO Dl Tryz.underlying79 Jc (C.ms.fr f2 id) (nj l.xs[bs.length]) false ?_
  rw [if_neg (by decide)]
  have etake : l.xs.take (bs.length + 1) = l.xs.take bs.length ++ [l.xs[bs.length]] := by rw [List.take_append_getElem]
  cases hg : oy ((l.xs.take bs.length).map fun b => (nj b, Value.bool true)) (nj l.xs[bs.length]) with
  | some v =>
   have hm := Fe hg
   obtain ⟨b, hb, e⟩ := List.mem_map.1 hm
   simp only [Prod.mk.injEq] at e
   obtain ⟨e1, e2⟩ := e
   refine ⟨true, by rw [← e2]; rfl, ?_⟩
   rw [if_pos rfl]
   refine hbad h2 (C.fr.trans f2) fun nd => ?_
   have nd2 : ((l.xs.take (bs.length + 1)).map nj).Nodup := nd.sublist ((List.take_sublist _ _).map _)
   rw [etake, List.map_append, List.nodup_append] at nd2
   exact nd2.2.2 _ (List.mem_map_of_mem hb) _ (by simp) e1
  | none =>
   have hn := Ev hg
   refine ⟨false, rfl, ?_⟩
   rw [if_neg (by decide)]
   refine aB (o8.cells.at (j := 7) rfl) ?_
   refine zY Dl Tryz.underlying79 (C.ms.fr f2 id) (nj l.xs[bs.length]) (.bool true) fun h3 f3 s3 M3 => ?_
   rw [HL hn] at M3
   have z3 := f3.size
   have o83 := o8.fr f3 (by omega)
   refine (aB (o83.cells.at0 rfl) (aB (o83.cells.at rfl) (aC (o83.cells.at rfl) (aC (o83.cells.at rfl) (aC (o83.cells.at rfl) (aC (o83.cells.at rfl) (aN (o83.cells.at rfl) (aB (o83.cells.at rfl) (aB (o83.cells.at rfl) (aB (o83.cells.at rfl) (bH (o83.cells.at rfl) (aB (o83.cells.at rfl) (aB (o83.cells.at rfl) (aC (o83.cells.at rfl) (aC (o83.cells.at rfl) (aC (o83.cells.at rfl) (aC (o83.cells.at rfl) (aB (o83.cells.at rfl) (aB (o83.cells.at rfl) (aB (o83.cells.at rfl) (aB (o83.cells.at rfl) (aC (o83.cells.at rfl) (aC (o83.cells.at rfl) (aC (o83.cells.at rfl) (aC (o83.cells.at rfl) ?_)))))))))))))))))))))))))
   have C3fr : Fr (fun _ => False) h0 h3 := (C.fr.trans f2).tr f3 fun x hx hh => by have := C.nA; omega
   refine Cv l.xs[bs.length] (aE.ok_fr _ _ _ C3fr (by obtain ⟨_, _, _, o⟩ := ok.at_ bs.length hi; exact o)) Lb fun b' h4 f4 S4 w4 => ⟨_, _, _, _, _, _, _, _, _, _, _, _, _, _, _, _, _, _, _, _, _, _, _, _, _, _, _, _, _, _, _, _, _, _, _, _, _, _, _, _, _, _, _, _, _, _, _, _, _, rfl, ?_⟩
   have z4 := f4.size
   refine qf rfl rfl fun t9 h5 f5 ht9 o9 => ?_
   have z5 := f5.size
   have A5 : Own h5 A _ _ := (((C.own.fr f2 id).fr f3 (fun e => C.nA.2.2.2.2.1 e)).fr f4 id).fr f5 id
   refine aC (A5.cells.at0 rfl) ?_
   refine (aB (o9.cells.at0 rfl) (aB (o9.cells.at rfl) (aC (o9.cells.at rfl) (aC (o9.cells.at rfl) (aC (o9.cells.at rfl) (aC (o9.cells.at rfl) (aN (o9.cells.at rfl) (aB (o9.cells.at rfl) (aB (o9.cells.at rfl) (aB (o9.cells.at rfl) (bH (o9.cells.at rfl) (aB (o9.cells.at rfl) (aB (o9.cells.at rfl) (aC (o9.cells.at rfl) (aC (o9.cells.at rfl) (aC (o9.cells.at rfl) (aC (o9.cells.at rfl) (aB (o9.cells.at rfl) (aB (o9.cells.at rfl) (aB (o9.cells.at rfl) (aB (o9.cells.at rfl) (aC (o9.cells.at rfl) (aC (o9.cells.at rfl) (aC (o9.cells.at rfl) (aC (o9.cells.at rfl) ?_)))))))))))))))))))))))))
   refine aZ (vs := b'.vals) fun t44 h6 f6 e6 o44 => ?_
   have z6 := f6.size
   have A6 := A5.fr f6 id
   refine ⟨aC (A6.cells.at0 rfl) rfl, ?_⟩
   have Rb : Row 25 aE.vals h6 p1 c1 bs := ((((C.r1.fr f2 fun _ _ => id).fr f3 fun x hx hh => (C.n1 x hx).2.2.2.1 hh).fr f4 fun _ _ => id).fr f5 fun _ _ => id).fr f6 fun _ _ => id
   have Rr : Row 21 aK.vals h6 p2 c2 (bs.map (·.Rule)) := ((((C.r2.fr f2 fun _ _ => id).fr f3 fun x hx hh => (C.n2 x hx).2.2.2 hh).fr f4 fun _ _ => id).fr f5 fun _ _ => id).fr f6 fun _ _ => id
   refine Rb.app Hg Tryz.underlying22 (by intro k e; cases e) (by kernel_rfl) (by decide +kernel) Ao Dk o44 1 (by omega) fun p1' c1' h7 R1' f7 hn1 => ⟨_, _, _, rfl, ?_⟩
   have z7 := f7.size
   have hA1 : ¬ InA p1 A.block := fun hh => (C.n1 _ hh).2.1 rfl
   have lp1 : ∀ x, InA p1 x → x < h1.size := fun x hx => C.r1.lt hx
   have lp2 : ∀ x, InA p2 x → x < h1.size := fun x hx => C.r2.lt hx
   refine mL (A6.fr f7 hA1) (by show 0 < 2; omega) rfl fun h8 f8 z8 o8A => ?_
   have z8' := f8.size
   have o98 : Own h8 t9 _ _ := (((o9.fr f6 id)).fr f7 fun hh => by have := lp1 _ hh; omega).fr f8 (by omega)
   refine (aB (o98.cells.at0 rfl) (aB (o98.cells.at rfl) (aC (o98.cells.at rfl) (aC (o98.cells.at rfl) (aC (o98.cells.at rfl) (aC (o98.cells.at rfl) (aN (o98.cells.at rfl) (aB (o98.cells.at rfl) (aB (o98.cells.at rfl) (aB (o98.cells.at rfl) (bH (o98.cells.at rfl) (aB (o98.cells.at rfl) (aB (o98.cells.at rfl) (aC (o98.cells.at rfl) (aC (o98.cells.at rfl) (aC (o98.cells.at rfl) (aC (o98.cells.at rfl) (aB (o98.cells.at rfl) (aB (o98.cells.at rfl) (aB (o98.cells.at rfl) (aB (o98.cells.at rfl) ?_)))))))))))))))))))))
   refine aZ (vs := b'.Rule.vals) fun t51 h9 f9 e9 o51 => ?_
   have z9 := f9.size
   have R2 : Row 21 aK.vals h9 p2 c2 (bs.map (·.Rule)) := ((Rr.fr f7 fun x hx hh => (C.n1 x hh).2.2.2.2 hx).fr f8 fun x hx hh => (C.n2 x hx).2.1 hh).fr f9 fun _ _ => id
   rw [show (Value.slice p2 bs.length c2) = .slice p2 (bs.map (·.Rule)).length c2 by rw [List.length_map]]
   refine R2.app Il Tryz.underlying80 (by intro k e; cases e) (by kernel_rfl) (by decide +kernel) Cc Ep o51 1 (by rw [List.length_map]; omega) fun p2' c2' h10 R2' f10 hn2 => ⟨_, _, _, rfl, ?_⟩
   have z10 := f10.size
   rw [wr (by omega) (by omega)]
   have F6 : Fr (fun x => x = seen) h1 h6 := ((((f2.mono fun _ => False.elim).trans f3).trans (f4.mono fun _ => False.elim)).trans (f5.mono fun _ => False.elim)).trans (f6.mono fun _ => False.elim)
   have F10 : Fr (fun x => x = seen ∨ InA p1 x ∨ x = A.block ∨ InA p2 x) h1 h10 := ((((F6.mono fun _ => .inl).trans (f7.mono fun _ hh => .inr (.inl hh))).trans (f8.mono fun _ hh => .inr (.inr (.inl hh)))).trans (f9.mono fun _ => False.elim)).trans (f10.mono fun _ hh => .inr (.inr (.inr hh)))
   have new1 : ∀ x, InA p1' x → InA p1 x ∨ h6.size ≤ x := hn1
   have hlen : (bs ++ [b']).length = bs.length + 1 := by simp
   have nA := C.nA
   have p1n : ∀ x, InA p1' x → h0.size ≤ x ∧ x ≠ A.block ∧ x ≠ m ∧ x ≠ seen ∧ ¬ InA p2 x := fun x hx => by
    rcases hn1 x hx with hh | hh
    ·exact C.n1 x hh
    ·have := C.fr.size
     exact ⟨by omega, by omega, by omega, by omega, fun h2 => by have := lp2 x h2; omega⟩
   have p2n : ∀ x, InA p2' x → h0.size ≤ x ∧ x ≠ A.block ∧ x ≠ m ∧ x ≠ seen ∧ (InA p2 x ∨ h9.size ≤ x) := fun x hx => by
    rcases hn2 x hx with hh | hh
    ·have := C.n2 x hh; exact ⟨this.1, this.2.1, this.2.2.1, this.2.2.2, .inl hh⟩
    ·have := C.fr.size
     exact ⟨by omega, by omega, by omega, by omega, .inr hh⟩
   refine ⟨⟨bs.length + 1, p1', c1', p2', c2', bs ++ [b'], by simp, ?_⟩, by dsimp only; omega⟩
   refine ⟨by omega, C.fr.tr F10 fun x hx hh => ?_, ?_, ?_, ?_, ?_, ?_, ?_, ?_, ?_, ?_, C.nA, ?_⟩
   ·rcases hh with hh | hh | hh | hh
    ·omega
    ·have := C.n1 x hh; omega
    ·omega
    ·have := C.n2 x hh; omega
   ·have o8A' := (o8A.fr f9 id).fr f10 fun hh => (C.n2 _ hh).2.1 rfl
    rw [List.length_append, List.length_singleton] at o8A'
    exact o8A'
   ·exact ((R1'.fr f8 fun x hx hh => (p1n x hx).2.1 hh).fr f9 fun _ _ => id).fr f10 fun x hx hh => (p1n x hx).2.2.2.2 hh
   ·rw [List.map_append]; exact R2'
   ·exact C.mm.fr F10 fun hh => by
     rcases hh with hh | hh | hh | hh
     ·omega
     ·have := C.n1 _ hh; omega
     ·omega
     ·have := C.n2 _ hh; omega
   ·rw [etake, List.map_append]
    exact (((((((M3.fr f4 id).fr f5 id).fr f6 id).fr f7 fun hh => by have := C.n1 _ hh; omega).fr f8 (by omega)).fr f9 id).fr f10 fun hh => by have := C.n2 _ hh; omega)
   ·rw [etake, List.map_append, List.map_append, C.wp]; simp [w4]
   ·intro b hb
    rcases List.mem_append.1 hb with hb | hb
    ·refine (C.st b hb).fr F10 (fun x hx ⟨b1, b2, b3, b4, b5, b6⟩ hh => ?_) fun x hx ⟨b1, b2, b3, b4, b5, b6⟩ => ?_
     ·rcases hh with hh | hh | hh | hh
      ·exact b4 hh
      ·exact b5 hh
      ·exact b2 hh
      ·exact b6 hh
     ·refine ⟨b1, b2, b3, b4, fun hh => ?_, fun hh => ?_⟩
      ·rcases hn1 x hh with h | h
       ·exact b5 h
       ·omega
      ·rcases hn2 x hh with h | h
       ·exact b6 h
       ·omega
    ·rw [List.mem_singleton.1 hb]
     have F4 : Fr (fun x => InA p1 x ∨ x = A.block ∨ InA p2 x) h4 h10 := ((((((f5.trans f6).mono fun _ => False.elim).trans (f7.mono fun _ hh => .inl hh)).trans (f8.mono fun _ hh => .inr (.inl hh)))).trans (f9.mono fun _ => False.elim)).trans (f10.mono fun _ hh => .inr (.inr hh))
     have z0 := C.fr.size
     refine S4.fr F4 (fun x hx b1 hh => ?_) fun x hx b1 => ?_
     ·rcases hh with hh | hh | hh
      ·have := lp1 x hh; omega
      ·omega
      ·have := lp2 x hh; omega
     ·refine ⟨by omega, by omega, by omega, by omega, fun hh => ?_, fun hh => ?_⟩
      ·rcases hn1 x hh with h | h
       ·have := lp1 x h; omega
       ·omega
      ·rcases hn2 x hh with h | h
       ·have := lp2 x h; omega
       ·omega
   ·intro x hx
    have := p1n x hx
    refine ⟨this.1, this.2.1, this.2.2.1, this.2.2.2.1, fun hh => ?_⟩
    rcases hn2 x hh with h | h
    ·exact this.2.2.2.2 h
    ·have := R1'.lt hx; omega
   ·intro x hx
    have := p2n x hx
    exact ⟨this.1, this.2.1, this.2.2.1, this.2.2.2.1⟩
   ·rw [etake, List.map_append, List.nodup_append]
    refine ⟨C.nd, by simp, fun a ha b hb e => ?_⟩
    obtain ⟨y, hy, rfl⟩ := List.mem_map.1 ha
    rw [List.map_singleton, List.mem_singleton] at hb
    exact hn _ (List.mem_map_of_mem hy) (e.trans hb)
 ·have : bs.length = l.xs.length := by omega
  rw [this] at C ⊢
  exact hk h1 p1 c1 p2 c2 bs C
end Go.Proofs.YtjmfpeiidlpngaaGreatDoor
