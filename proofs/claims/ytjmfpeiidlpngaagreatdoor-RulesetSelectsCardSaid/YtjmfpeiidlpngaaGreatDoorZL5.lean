/-
  Part 5 of 6 of the proofs: the texts of wip/ in one file, without what this claim does not use.
-/
import Derived.Test.YtjmfpeiidlpngaaGreatDoorZL4
namespace Go.Proofs
open Go.Shelf
shelf_lay Lays.n189 Nm 189 at Tryz as Tryz.lays189
end Go.Proofs
namespace Go.Proofs.YtjmfpeiidlpngaaGreatDoor.Au
set_option linter.unusedSimpArgs false
set_option linter.unusedVariables false
set_option maxRecDepth 20000
open Go
open Go.IntKind (wrap)
def lZ (n : Int) : List Value := [.int .i64 n]
def oW (xs : List Int) : List Int := xs.mergeSort fun x y => decide (x ≤ y)
theorem GR [Gh] {p : Option Addr} {cap : Nat} {xs : List Int} {h : aB} (R : Row 1 lZ h p cap xs) (hl : xs.length ≤ 2 ^ 40) {K : Value → aB → Prop}
  (hk : ∀ h', Fr (InA p) h h' → Row 1 lZ h' p cap (oW xs) → K (.tuple #[]) h') : aD Tryz.prog ir #[.slice p xs.length cap] h K := by
 cases p with
 | none =>
  have : xs = [] := by
   cases xs with
   | nil => rfl
   | cons x xs => have := R.own.1; simp [lZ] at this
  subst this
  refine Ff (fun _ _ => rfl) (fun w => Any.slices_Sort_int_none Tryz.lays189 none cap w) ?_
  exact hk h (Fr.refl _ _) (by simpa [oW] using R)
 | some ad =>
  exact Ek (enc := Value.int .i64) (ys := oW xs) (fun _ _ => rfl) (List.length_mergeSort xs) R (fun w hw hH hb => Any.slices_Sort_int Tryz.lays189 ad.block 0 cap xs w hH hb (by omega)) hk
theorem C7 : ∀ {xs ys : List Int}, xs.Perm ys → xs.Pairwise (· ≤ ·) → ys.Pairwise (· < ·) → xs = ys
 | [], ys, p, _, _ => (List.Perm.nil_eq p)
 | x :: xs, [], p, _, _ => by have := p.length_eq; simp at this
 | x :: xs, y :: ys, p, h1, h2 => by
  rw [List.pairwise_cons] at h1 h2
  have e : x = y := by
   have hx : x ∈ y :: ys := p.mem_iff.1 (by simp)
   have hy : y ∈ x :: xs := p.mem_iff.2 (by simp)
   rcases List.mem_cons.1 hx with e | hx
   ·exact e
   ·rcases List.mem_cons.1 hy with e | hy
    ·exact e.symm
    ·have := h1.1 y hy; have := h2.1 x hx; omega
  subst e
  rw [C7 (List.Perm.cons_inv p) h1.2 h2.2]
theorem Ji {xs ys : List Int} (p : xs.Perm ys) (h : ys.Pairwise (· < ·)) : oW xs = ys := by
 refine C7 ((List.mergeSort_perm xs _).trans p) ?_ h
 have := List.pairwise_mergeSort (le := fun (x y : Int) => decide (x ≤ y)) (fun a b c h1 h2 => by simp only [decide_eq_true_eq] at *; omega) (fun a b => by simp only [Bool.or_eq_true, decide_eq_true_eq]; omega) xs
 exact this.imp fun h => of_decide_eq_true h
theorem ED (l : List Nat) : (l.map Int.ofNat).flatMap lZ = l.flatMap inV := by
 rw [List.flatMap_map]; rfl
theorem Lv [Gh] {p : Option Addr} {cap : Nat} {xs ys : List Nat} {h : aB} (R : Row 1 inV h p cap xs) (hl : xs.length ≤ 2 ^ 20) (hp : xs.Perm ys) (hs : ys.Pairwise (· < ·)) {K : Value → aB → Prop}
  (hk : ∀ h', Fr (InA p) h h' → Row 1 inV h' p cap ys → K (.tuple #[]) h') : aD Tryz.prog ir #[.slice p xs.length cap] h K := by
 have R' : Row 1 lZ h p cap (xs.map Int.ofNat) := ⟨by rw [ED]; exact R.own, by rw [List.length_map]; exact R.le⟩
 have e : oW (xs.map Int.ofNat) = ys.map Int.ofNat := Ji (hp.map _) (List.pairwise_map.2 (hs.imp fun h => Int.ofNat_lt.2 h))
 have := GR R' (by rw [List.length_map]; omega) (K := K) fun h' f R2 => by
  rw [e] at R2
  exact hk h' f ⟨by rw [← ED]; exact R2.own, by have := R2.le; rw [List.length_map] at this; exact this⟩
 rw [List.length_map] at this; exact this
theorem _root_.Go.Proofs.YtjmfpeiidlpngaaGreatDoor.Row.none0 {α : Type} {sz : Nat} {vals : α → List Value} {h : aB} {p : Option Addr} {cap : Nat} {L : List α} (R : Row sz vals h p cap L) : Row sz vals h p cap ([] : List α) := by
 refine ⟨?_, Nat.zero_le _⟩
 have o := R.own
 cases p with
 | none => exact ⟨rfl, o.2⟩
 | some ad =>
  obtain ⟨h1, h2, ds, t, fr, hfr, hg, hc, hl, hcs⟩ := o
  exact ⟨h1, h2, ds, t, fr, hfr, hg, hc, Nat.zero_le _, fun i hi => absurd hi (Nat.not_lt_zero _)⟩
section
variable {N : Nat} {h0 h : aB} {c a : Addr} {sg : List St} {ws : List Nm} {L : List Pt}
theorem It (s : Nm) (b : UInt8) : (s ++ [b]).drop ((s ++ [b]).length - 64) = (if (s.drop (s.length - 64)).length = 64 then (s.drop (s.length - 64)).drop 1 else s.drop (s.length - 64)) ++ [b] := by
 rw [List.length_append, List.length_singleton, List.length_drop]
 split
 ·rename_i hh
  rw [List.drop_drop, List.drop_append_of_le_length (by omega)]
  congr 2; omega
 ·rename_i hh
  rw [List.drop_append_of_le_length (by omega)]
  congr 2; omega
theorem GV [Gh] (A : yq N h a sg ws L) {now : Nat} {tl : Nm} {p : Option Addr} {cap : Nat} (text : Nm) (C : yU h c a now (text.length + 1) tl p cap) (hN : N ≤ c.block) (hp : ∀ x, InA p x → N ≤ x) (b : UInt8)
  (htl : tl ++ [b] = (text ++ [b]).drop ((text ++ [b]).length - 64)) (hnow : ws[now]? = some (ls ws (cF text))) (hlen : text.length ≤ 2 ^ 30) {Q : Value → aB → Prop}
  (hk : ∀ h' now' p' cap' r rc, Fr (fun x => x = c.block ∨ InA p x) h h' → yU h' c a now' (text.length + 1) ((text ++ [b]).drop ((text ++ [b]).length - 64)) p' cap' → ws[now']? = some (ls ws (cF (text ++ [b]))) → (∀ x, InA p' x → InA p x ∨ h.size ≤ x) → Row 1 inV h' r rc (oz L (text ++ [b])) → (∀ x, InA r x → h.size ≤ x) → (∀ x, InA r x → ¬ InA p' x) → Q (.slice r (oz L (text ++ [b])).length rc) h') :
  ee (some c) (bA b) Q h := by
 unfold ee
 have cc := C.own.cells
 have lt := C.own.lt
 have htl64 : (tl ++ [b]).length ≤ 64 := by rw [htl, List.length_drop]; omega
 have htll : (tl ++ [b]).length = tl.length + 1 := by simp
 refine aV (aC (cc.at (j := 3) rfl) ?_)
 refine aU (vs := bV b) fun t40 h4 f4 e4 o4 => ?_
 have z4 := f4.size
 refine MB (C.row.fr0 f4) o4 (by omega) fun p' cap' h5 R5 f5 hn5 => ⟨_, _, _, rfl, ?_⟩
 have z5 := f5.size
 have o5 := (C.own.fr0 f4).fr f5 C.nc
 have nc5 : ¬ InA p' c.block := fun hh => by
  rcases hn5 _ hh with h | h
  ·exact C.nc h
  ·omega
 refine aV (cO o5 3 (by simp) rfl fun h6 f6 s6 o6 => ?_)
 have o6 : Own h6 c [.pointer (some a), .int .u16 now, .int .i64 (text.length + 1 : Nat), .slice p' (tl ++ [b]).length cap'] fW := o6
 have R6 := R5.fr f6 fun x hx hb => by subst hb; exact nc5 hx
 have F6 : Fr (fun x => x = c.block ∨ InA p x) h h6 := ((f4.mono fun _ h => h.elim).tr f5 fun x hx hh => .inr hh).tr f6 fun x hx hh => .inl hh
 have hge : ∀ x, x < h.size → (x = c.block ∨ InA p x) → N ≤ x := fun x hx hh => by
  rcases hh with h | h
  ·omega
  ·exact hp x h
 have A6 := A.fr F6 hge
 have z6 := F6.size
 obtain ⟨q, cq, pq, pc, ca, cst, _⟩ := A6.s.now.blk
 have D := A.d
 have hlt : now < sg.length := by rw [D.len]; exact (List.getElem?_eq_some_iff.1 hnow).1
 have c6 := o6.cells
 obtain ⟨ad, had, ci⟩ := cst now hlt
 subst had
 refine aV (bB (c6.at0 rfl) (aV (aC (ca.at0 rfl) (aV (aA (c6.at (j := 1) rfl) (bQ now rfl hlt (aV ?_)))))))
 rw [Int.toNat_natCast]
 have hbl := jJ b
 refine AE _ hbl.1 hbl.2 ⟨_, rfl, bB (c6.at0 rfl) rfl, aC (ca.at0 rfl) rfl, aA (c6.at (j := 1) rfl) rfl, ?_⟩
 rw [← qN]
 have hc256 : (fK b).toNat < 256 := (fK b).toNat_lt
 have hcn : (bA (fK b)).toNat * 1 = (fK b).toNat := by unfold bA; omega
 refine bQ (fK b).toNat rfl hc256 ?_
 rw [hcn]
 refine aA (ci.at (DF _ hc256)) ?_
 have hlow : cF (text ++ [b]) = cF text ++ [fK b] := by unfold cF; rw [List.map_append]; rfl
 have hnx : ws[sg[now].nx (fK b).toNat]? = some (ls ws (cF (text ++ [b]))) := by
  rw [D.nx now hlt _ (fK b) hnow, hlow, Hq D.pre' (cF text)]
 generalize sg[now].nx (fK b).toNat = now' at *
 have hlt' : now' < sg.length := by rw [D.len]; exact (List.getElem?_eq_some_iff.1 hnx).1
 refine aV (cO o6 1 (by simp) rfl fun h8 f8 s8 o8 => ?_)
 have o8 : Own h8 c [.pointer (some a), .int .u16 now', .int .i64 (text.length + 1 : Nat), .slice p' (tl ++ [b]).length cap'] fW := o8
 have R8 := R6.fr f8 fun x hx hb => by subst hb; exact nc5 hx
 have F8 : Fr (fun x => x = c.block ∨ InA p x) h h8 := F6.tr f8 fun x hx hh => .inl hh
 have z8 := F8.size
 have A8 := A.fr F8 hge
 have C8 : yU h8 c a now' (text.length + 1) (tl ++ [b]) p' cap' := ⟨o8, R8, nc5⟩
 have hp' : ∀ x, InA p' x → InA p x ∨ h.size ≤ x := fun x hx => by
  rcases hn5 x hx with h | h
  ·exact .inl h
  ·exact .inr (by omega)
 refine aV (aA (o8.cells.at (j := 1) rfl) ?_)
 generalize hu0 : ls ws (cF (text ++ [b])) = u0 at *
 have hu0s : u0 <:+ cF (text ++ [b]) := by rw [← hu0]; exact vR _
 have hfn := HH D A.w A.ok (cF (text ++ [b]))
 rw [hu0] at hfn
 have hm := A.m
 have hpe := Gj D A.w A.ok (text ++ [b])
 rw [hu0, ← htl] at hpe
 generalize hsp : spB L (tl ++ [b]) = sp at *
 refine aH.go (fun n st h' => ∃ (i : Nat) (u : Nm) (F : List Nat), st.2.2.2 = (i : Int) ∧ st.2.1 = F.length ∧ ws[i]? = some u ∧ n = u.length ∧ u <:+ u0 ∧ F ++ (mQ ws (iJ L L.length) u).filter sp = (mQ ws (iJ L L.length) u0).filter sp ∧ Fr (fun _ => False) h8 h' ∧ Row 1 inV h' st.1 st.2.2.1 F ∧ ∀ x, InA st.1 x → h8.size ≤ x) u0.length
  ⟨now', u0, [], rfl, rfl, hnx, rfl, List.suffix_refl _, rfl, Fr.refl _ _, Row.nil, fun x hx => (cU hx).elim⟩ ?_
 rintro n ⟨ra, rn, rc, t⟩ h9 ⟨i, u, F, e1, e2, hu, rfl, hus, hF, f9, R9, hr⟩ Kn hK
 dsimp only at e1 e2 R9 hr
 subst e1 e2
 dsimp only
 unfold jB
 have z9 := f9.size
 have hFl : F.length ≤ 512 := by
  have h1 := congrArg List.length hF
  rw [List.length_append] at h1
  have := List.length_filter_le sp (mQ ws (iJ L L.length) u0)
  omega
 have A9 := A8.fr0 f9
 refine lu (fun hi => ?_) fun hi => ?_
 ·have hil : i < sg.length := by rw [D.len]; exact (List.getElem?_eq_some_iff.1 hu).1
  have hune : u ≠ [] := fun h => by
   subst h
   exact hi (by rw [jr D.nd hu D.z]; rfl)
  have C9 := C8.fr0 f9
  have c9 := C9.own.cells
  have X9 := A9.s.now
  obtain ⟨q, cq, pq, pc, ca9, cst9, _⟩ := X9.blk
  obtain ⟨ad9, had9, ci9⟩ := cst9 i hil
  subst had9
  refine aV (bB (c9.at0 rfl) (aV (aC (ca9.at0 rfl) (bQ i rfl hil (aV ?_)))))
  rw [Int.toNat_natCast]
  refine aC (ci9.at (DW _)) ?_
  have hen := D.en i hil u hu
  have hE := X9.ends i hil
  have hel := CV L L.length u
  rw [← hen] at hel
  refine LI hE (by omega) _ sp (fun h' f' j hj K hK => ?_) fun r2 rc2 h10 f10 R10 hr10 => ⟨_, _, _, rfl, ?_⟩
  ·rw [cM]
   rw [hen] at hj
   obtain ⟨hj1, hj2⟩ := th.1 hj
   rw [CF L j hj1] at hj2
   have hjl : L[j].t.length ≤ text.length + 1 := by
    have := (hus.trans hu0s).length_le
    rw [← hj2, jR, jR] at this
    simpa using this
   have h64 := (wv A.ok _ (List.getElem_mem hj1)).2
   rw [← hsp] at hK
   refine KF (A9.fr0 f').s.now (C9.fr0 f') j hj1 ?_ htl64 hK
   rw [htl, List.length_drop, List.length_append, List.length_singleton]; omega
  have z10 := f10.size
  refine (R9.fr0 f10).appL rq Tryz.underlying46 (by intro k e; cases e) (by kernel_rfl) (by decide +kernel) wB (fun _ => rfl) (R10.src wB (by decide)) (by have := List.length_filter_le sp sg[i].en; omega) fun p11 cap11 h11 R11 f11 hn11 => ⟨_, _, _, rfl, ?_⟩
  have f911 : Fr (fun _ => False) h8 h11 := (f9.trans f10).tr f11 fun x hx hh => by have := hr x hh; omega
  have F911 : Fr (InA ra) h9 h11 := (f10.mono fun _ h => h.elim).tr f11 fun x hx hh => hh
  have C11 := C8.fr0 f911
  have A11 := A8.fr0 f911
  have c11 := C11.own.cells
  obtain ⟨q, cq, pq, pc, ca11, cst11, _⟩ := A11.s.now.blk
  obtain ⟨ad11, had11, ci11⟩ := cst11 i hil
  subst had11
  refine aV (bB (c11.at0 rfl) (aV (aC (ca11.at0 rfl) (bQ i rfl hil (aV ?_)))))
  refine aA (ci11.at (JI _)) ?_
  have hou := D.ou i hil u hu
  have hol := vV (sg := ws) (iJ L L.length) _ u (Nat.le_refl _) hune
  refine hK _ _ _ hol ⟨sg[i].ou, vm ws (iJ L L.length) u, _, rfl, rfl, hou, rfl, (Ba _ _ u (Nat.le_refl _)).trans hus, ?_, f911, R11, fun x hx => ?_⟩
  ·rw [← hF, zt _ hune, List.filter_append, hen, List.append_assoc]
  ·rcases hn11 x hx with h | h
   ·exact hr x h
   ·omega
 ·have hun : u = [] := by
   have : i = 0 := by omega
   subst this
   exact Option.some.inj (hu.symm.trans D.z)
  subst hun
  rw [uw, List.filter_nil, List.append_nil] at hF
  subst hF
  unfold jA
  refine Lv R9 (by omega) hpe (Gy _ _) fun h10 f10 R10 => ⟨rfl, ?_⟩
  rw [hpe.length_eq]
  have f810 : Fr (fun _ => False) h8 h10 := f9.tr f10 fun x hx hh => by have := hr x hh; omega
  refine hk h10 now' p' cap' ra rc (F8.tr f810 fun _ _ h => h.elim) ?_ hnx hp' R10 (fun x hx => by have := hr x hx; omega) fun x hx hh => ?_
  ·rw [← htl]; exact C8.fr0 f810
  ·have := hr x hx
   have := R8.lt hh
   omega
theorem LW [Gh] (A : yq N h a sg ws L) {now : Nat} {p : Option Addr} {cap : Nat} (text : Nm) (C : yU h c a now text.length (text.drop (text.length - 64)) p cap) (hN : N ≤ c.block) (hp : ∀ x, InA p x → N ≤ x) (b : UInt8)
  (hnow : ws[now]? = some (ls ws (cF text))) (hlen : text.length ≤ 2 ^ 30) {Q : Value → aB → Prop}
  (hk : ∀ h' now' p' cap' r rc, Fr (fun x => x = c.block ∨ InA p x) h h' → yU h' c a now' (text.length + 1) ((text ++ [b]).drop ((text ++ [b]).length - 64)) p' cap' → ws[now']? = some (ls ws (cF (text ++ [b]))) → (∀ x, InA p' x → InA p x ∨ h.size ≤ x) → Row 1 inV h' r rc (oz L (text ++ [b])) → (∀ x, InA r x → h.size ≤ x) → (∀ x, InA r x → ¬ InA p' x) → Q (.slice r (oz L (text ++ [b])).length rc) h') :
  aD Tryz.prog gJ #[.pointer (some c), .int .u8 (bA b)] h Q := by
 apply tv
 unfold m7
 have cc := C.own.cells
 have lt := C.own.lt
 refine aV (aA (cc.at (j := 2) rfl) ?_)
 rw [wr (by omega) (by omega)]
 refine aV (cO C.own 2 (by simp) rfl fun h1 f1 s1 o1 => ?_)
 have o1 : Own h1 c [.pointer (some a), .int .u16 now, .int .i64 (text.length + 1 : Nat), .slice p (text.drop (text.length - 64)).length cap] fW := o1
 have R1 := C.row.fr f1 fun x hx hb => by subst hb; exact C.nc hx
 have F1 : Fr (fun x => x = c.block ∨ InA p x) h h1 := f1.mono fun x hx => .inl hx
 have z1 := F1.size
 have hge : ∀ x, x < h.size → (x = c.block ∨ InA p x) → N ≤ x := fun x hx hh => by
  rcases hh with h | h
  ·omega
  ·exact hp x h
 have c1 := o1.cells
 have hts := It text b
 refine aV (aC (c1.at (j := 3) rfl) (ifE (fun e => ?_) fun e => ?_))
 ·rw [if_pos (by omega)] at hts
  generalize htl : text.drop (text.length - 64) = tl at *
  refine aV (aC (c1.at (j := 3) rfl) ?_)
  refine ⟨by omega, by have := R1.le; omega, aV (aC (c1.at (j := 3) rfl) ?_)⟩
  have hl64 : tl.length = 64 := by omega
  refine Eg R1 1 rfl (by omega) fun p2 c2 h3 h4 => ?_
  have R0 : Row 1 bV h1 p cap [] := R1.none0
  have s : Src h1 1 (.slice p2 (tl.drop 1).length c2) (tl.drop 1).length ((tl.drop 1).flatMap bV) := by
   rw [wj]
   cases p2 with
   | none => exact absurd (congrArg List.length (h4 rfl)) (by rw [List.length_drop, List.length_nil]; omega)
   | some ad => exact .sl ad _ _ _ (by unfold dW; rw [List.length_map, Nat.mul_one]) (h3 ad rfl)
  refine R0.appL Ei Tryz.underlying98 (by intro k e; cases e) (by kernel_rfl) (by decide +kernel) rF (fun _ => rfl) s (by rw [List.length_drop, List.length_nil]; omega) fun p5 cap5 h5 R5 f5 hn5 => ⟨_, _, _, rfl, ?_⟩
  rw [List.nil_append] at R5 ⊢
  have z5 := f5.size
  have o5 := o1.fr f5 C.nc
  have nc5 : ¬ InA p5 c.block := fun hh => by
   rcases hn5 _ hh with h | h
   ·exact C.nc h
   ·omega
  refine aV (cO o5 3 (by simp) rfl fun h6 f6 s6 o6 => ?_)
  have o6 : Own h6 c [.pointer (some a), .int .u16 now, .int .i64 (text.length + 1 : Nat), .slice p5 (tl.drop 1).length cap5] fW := o6
  have R6 := R5.fr f6 fun x hx hb => by subst hb; exact nc5 hx
  have F6 : Fr (fun x => x = c.block ∨ InA p x) h h6 := (F1.tr f5 fun x hx hh => .inr hh).tr f6 fun x hx hh => .inl hh
  have z6 := F6.size
  have hp5 : ∀ x, InA p5 x → InA p x ∨ h.size ≤ x := fun x hx => by
   rcases hn5 x hx with h | h
   ·exact .inl h
   ·exact .inr (by omega)
  refine GV (A.fr F6 hge) text ⟨o6, R6, nc5⟩ hN (fun x hx => ?_) b hts.symm hnow hlen fun h' now' p' cap' r rc f C' hn' hp' R hr hrp => ?_
  ·rcases hp5 x hx with h | h
   ·exact hp x h
   ·have := A.s.1; omega
  ·refine hk h' now' p' cap' r rc (F6.tr f fun x hx hh => ?_) C' hn' (fun x hx => ?_) R (fun x hx => by have := hr x hx; omega) hrp
   ·rcases hh with h | h
    ·exact .inl h
    ·rcases hp5 x h with h | h
     ·exact .inr h
     ·omega
   ·rcases hp' x hx with h | h
    ·exact hp5 x h
    ·exact .inr (by omega)
 ·rw [if_neg (by omega)] at hts
  refine GV (A.fr F1 hge) text ⟨o1, R1, C.nc⟩ hN hp b hts.symm hnow hlen fun h' now' p' cap' r rc f C' hn' hp' R hr hrp => ?_
  refine hk h' now' p' cap' r rc (F1.trans f) C' hn' (fun x hx => ?_) R (fun x hx => by have := hr x hx; omega) hrp
  rcases hp' x hx with h | h
  ·exact .inl h
  ·exact .inr (by omega)
end
end Go.Proofs.YtjmfpeiidlpngaaGreatDoor.Au
namespace Go.Proofs.YtjmfpeiidlpngaaGreatDoor.Au
set_option linter.unusedSimpArgs false
set_option linter.unusedVariables false
set_option maxRecDepth 20000
open Go
open Go.IntKind (wrap)
theorem Bp (p : Pt) (s : Nm) (n : Nat) : vl p (s.take n) n = vl p s n := by
 unfold vl
 by_cases h : p.t.length ≤ n
 ·have : A7 (s.take n) p.t.length n = A7 s p.t.length n := by
   unfold A7
   rw [List.drop_take, List.take_take]
   congr 1; omega
  rw [this]
 ·simp [h]
theorem GZ {α β : Type} (f : α → Bool) (g : α → β) : ∀ l : List α, (l.flatMap fun x => if f x = true then [g x] else []) = (l.filter f).map g
 | [] => rfl
 | x :: l => by
  rw [List.flatMap_cons, GZ f g l, List.filter_cons]
  by_cases h : f x = true
  ·rw [if_pos h, if_pos h]; rfl
  ·rw [if_neg h, if_neg h]; rfl
theorem Jx (L : List Pt) (s : Nm) (n : Nat) (hn : n ≤ s.length) : hA L s n L.length = (oz L (s.take n)).map fun j => (j, n) := by
 unfold hA oz
 rw [GZ]
 have e : (s.take n).length = n := by rw [List.length_take]; omega
 rw [e]
 congr 1
 refine List.filter_congr fun j _ => (Bp _ s n).symm
def tO (N : Nat) (ws : List Nm) (h : aB) (c a : Addr) (text : Nm) (p : Option Addr) : Prop :=
 ∃ now cap, yU h c a now text.length (text.drop (text.length - 64)) p cap ∧ ws[now]? = some (ls ws (cF text)) ∧ N ≤ c.block ∧ ∀ x, InA p x → N ≤ x
section
variable {N : Nat} {h : aB} {c a : Addr} {sg : List St} {ws : List Nm} {L : List Pt} {text : Nm} {p : Option Addr}
theorem tO.fr {S : Nat → Prop} {h' : aB} (C : tO N ws h c a text p) (f : Fr S h h') (h1 : ¬ S c.block) (h2 : ∀ x, InA p x → ¬ S x) : tO N ws h' c a text p := by
 obtain ⟨now, cap, C, r⟩ := C
 exact ⟨now, cap, C.fr f h1 h2, r⟩
theorem tO.fr0 {h' : aB} (f : Fr (fun _ => False) h h') (C : tO N ws h c a text p) : tO N ws h' c a text p := C.fr f id fun _ _ => id
theorem tO.lt (C : tO N ws h c a text p) : c.block < h.size := by
 obtain ⟨_, _, C, _⟩ := C; exact C.own.lt
theorem tO.lt' (C : tO N ws h c a text p) {x : Nat} (hx : InA p x) : x < h.size := by
 obtain ⟨_, _, C, _⟩ := C; exact C.row.lt hx
theorem tO.ge (C : tO N ws h c a text p) {x : Nat} (hx : x = c.block ∨ InA p x) : N ≤ x := by
 obtain ⟨_, _, _, _, h1, h2⟩ := C
 rcases hx with h | h
 ·omega
 ·exact h2 x h
theorem yO [Gh] (A : yq N h a sg ws L) {Q : Value → aB → Prop} (hk : ∀ c h', Fr (fun _ => False) h h' → h.size ≤ c.block → tO N ws h' c a [] none → Q (.pointer (some c)) h') : aD Tryz.prog eu #[.pointer (some a)] h Q := by
 apply qF
 unfold kY
 refine Cx (aU (vs := [.pointer (some a), .int .u16 0, .int .i64 0, .slice none 0 0]) fun c h1 f1 e1 o1 => ?_)
 have := A.s.1
 exact hk c h1 f1 (by omega) ⟨0, 0, ⟨o1, Row.nil, cU⟩, A.d.z, by omega, fun x hx => (cU hx).elim⟩
theorem MW [Gh] (A : yq N h a sg ws L) (C : tO N ws h c a text p) (b : UInt8) (hlen : text.length ≤ 2 ^ 30) {Q : Value → aB → Prop}
  (hk : ∀ h' p' r rc, Fr (fun x => x = c.block ∨ InA p x) h h' → tO N ws h' c a (text ++ [b]) p' → (∀ x, InA p' x → InA p x ∨ h.size ≤ x) → Row 1 inV h' r rc (oz L (text ++ [b])) → (∀ x, InA r x → h.size ≤ x) → (∀ x, InA r x → ¬ InA p' x) → Q (.slice r (oz L (text ++ [b])).length rc) h') :
  aD Tryz.prog gJ #[.pointer (some c), .int .u8 (bA b)] h Q := by
 obtain ⟨now, cap, C, hn, h1, h2⟩ := C
 refine LW A text C h1 h2 b hn hlen fun h' now' p' cap' r rc f C' hn' hp' R hr hrp => ?_
 refine hk h' p' r rc f ⟨now', cap', ?_, hn', h1, fun x hx => ?_⟩ hp' R hr hrp
 ·rw [List.length_append, List.length_singleton] at C' ⊢; exact C'
 ·rcases hp' x hx with h | h
  ·exact h2 x h
  ·have := A.s.1; omega
theorem IG [Gh] (A : yq N h a sg ws L) (C : tO N ws h c a text p) (s : Nm) (hlen : text.length + s.length ≤ 2 ^ 16) {Q : Value → aB → Prop}
  (hk : ∀ h' p' r rc, Fr (fun x => x = c.block ∨ InA p x) h h' → tO N ws h' c a (text ++ s) p' → (∀ x, InA p' x → InA p x ∨ h.size ≤ x) → Row 2 BE h' r rc (qd L (text ++ s) text.length s.length) → (∀ x, InA r x → h.size ≤ x) → (∀ x, InA r x → ¬ InA p' x) → Q (.slice r (qd L (text ++ s) text.length s.length).length rc) h') :
  aD Tryz.prog gL #[.pointer (some c), .string (bs s)] h Q := by
 apply tK
 unfold m6
 rw [aX]
 have lt := C.lt
 have hm := A.m
 have hcap : ∀ k, k ≤ s.length → (qd L (text ++ s) text.length k).length ≤ 2 ^ 25 := fun k hk => by
  have h1 := xW L (text ++ s) text.length k
  have h2 : k * L.length ≤ 2 ^ 16 * 512 := Nat.mul_le_mul (by omega) hm
  omega
 refine Cx ?_
 refine aH.go (fun n st h' => ∃ (i : Nat) (p' : Option Addr), st.2.2.2 = (i : Int) ∧ st.2.1 = (qd L (text ++ s) text.length i).length ∧ i ≤ s.length ∧ n = s.length - i ∧ Fr (fun x => x = c.block ∨ InA p x) h h' ∧ tO N ws h' c a (text ++ s.take i) p' ∧ (∀ x, InA p' x → InA p x ∨ h.size ≤ x) ∧ Row 2 BE h' st.1 st.2.2.1 (qd L (text ++ s) text.length i) ∧ (∀ x, InA st.1 x → h.size ≤ x) ∧ (∀ x, InA st.1 x → ¬ InA p' x)) s.length
  ⟨0, p, rfl, rfl, by omega, rfl, Fr.refl _ _, by rw [List.take_zero, List.append_nil]; exact C, fun x hx => .inl hx, Row.nil, fun x hx => (cU hx).elim, fun x hx => (cU hx).elim⟩ ?_
 rintro n ⟨oa, on, oc, t⟩ h1 ⟨i, p1, e1, e2, hi, rfl, f1, C1, hp1, R1, ho1, hd1⟩ Kn hK
 dsimp only at e1 e2 R1 ho1 hd1
 subst e1 e2
 dsimp only
 unfold jz
 have z1 := f1.size
 have hge : ∀ x, x < h.size → (x = c.block ∨ InA p x) → N ≤ x := fun x _ hx => C.ge hx
 have A1 := A.fr f1 hge
 refine ifD (fun e => ?_) fun e => ?_
 ·have hil : i < s.length := by omega
  refine ixS s i rfl hil ?_
  have hck := hcap i (by omega)
  have htk : text ++ s.take i ++ [s[i]] = text ++ s.take (i + 1) := by rw [List.append_assoc, List.take_append_getElem]
  refine MW A1 C1 s[i] (by rw [List.length_append, List.length_take]; omega) fun h2 p2 r rc f2 C2 hp2 R2 hr2 hrp2 => ⟨_, _, _, rfl, ?_⟩
  rw [htk] at C2 R2 ⊢
  have z2 := f2.size
  have hn2 : (text ++ s.take (i + 1)).length = text.length + 1 + i := by rw [List.length_append, List.length_take]; omega
  have hfd : hA L (text ++ s) (text.length + 1 + i) L.length = (oz L (text ++ s.take (i + 1))).map fun j => (j, text.length + 1 + i) := by
   rw [Jx L (text ++ s) _ (by rw [List.length_append]; omega)]
   congr 2
   rw [List.take_append, List.take_of_length_le (by omega)]
   congr 2; omega
  have hfl : (oz L (text ++ s.take (i + 1))).length ≤ 512 := by
   unfold oz
   exact Nat.le_trans (List.length_filter_le ..) (by rw [List.length_range]; exact hm)
  generalize hFd : oz L (text ++ s.take (i + 1)) = F at *
  have R12 : Row 2 BE h2 oa oc (qd L (text ++ s) text.length i) := R1.fr f2 fun x hx hh => by
   rcases hh with hh | hh
   ·have := ho1 x hx; omega
   ·exact hd1 x hx hh
  have F2 : Fr (fun x => x = c.block ∨ InA p x) h h2 := f1.tr f2 fun x hx hh => by
   rcases hh with hh | hh
   ·exact .inl hh
   ·rcases hp1 x hh with h | h
    ·exact .inr h
    ·omega
  have hp2' : ∀ x, InA p2 x → InA p x ∨ h.size ≤ x := fun x hx => by
   rcases hp2 x hx with h | h
   ·exact hp1 x h
   ·exact .inr (by omega)
  have d2 : ∀ x, InA oa x → ¬ InA p2 x := fun x hx hh => by
   rcases hp2 x hh with h | h
   ·exact hd1 x hx h
   ·have := R1.lt hx; omega
  have dr2 : ∀ x, InA r x → ¬ InA oa x := fun x hx hh => by have := hr2 x hx; have := R1.lt hh; omega
  refine aH.go (fun n st h' => ∃ (k : Nat), st.2.2.2 = (k : Int) ∧ st.2.1 = (qd L (text ++ s) text.length i ++ (F.take k).map fun j => (j, text.length + 1 + i)).length ∧ k ≤ F.length ∧ n = F.length - k ∧ Fr (fun x => x = c.block ∨ InA p x) h h' ∧ tO N ws h' c a (text ++ s.take (i + 1)) p2 ∧ Row 1 inV h' r rc F ∧ Row 2 BE h' st.1 st.2.2.1 (qd L (text ++ s) text.length i ++ (F.take k).map fun j => (j, text.length + 1 + i)) ∧ (∀ x, InA st.1 x → h.size ≤ x) ∧ (∀ x, InA st.1 x → ¬ InA p2 x) ∧ (∀ x, InA r x → ¬ InA st.1 x)) F.length
   ⟨0, rfl, by simp, by omega, rfl, F2, C2, R2, by simpa using R12, ho1, d2, dr2⟩ ?_
  rintro n ⟨oa, on, oc, t⟩ h3 ⟨k, e1, e2, hk', rfl, f3, C3, Rr3, R3, ho3, hd3, hr3⟩ Kn2 hK2
  dsimp only at e1 e2 R3 ho3 hd3 hr3
  subst e1 e2
  dsimp only
  unfold ju
  have z3 := f3.size
  refine ifD (fun e => ?_) fun e => ?_
  ·have hkl : k < F.length := by omega
   refine Rr3.idx wB (by decide) k rfl hkl fun ad ci => ?_
   rw [Int.toNat_natCast]
   have c3 := C3
   obtain ⟨now3, cap3, Cf3, _⟩ := c3
   have hat := Cf3.own.cells.at (j := 2) rfl
   rw [hn2] at hat
   refine aA (ci.at0 rfl) (aV (aA hat ?_))
   refine aU (vs := BE (F[k], text.length + 1 + i)) fun t33 h4 f4 e4 o4 => ?_
   have z4 := f4.size
   have e5 : (qd L (text ++ s) text.length i ++ (F.take k).map fun j => (j, text.length + 1 + i)) ++ [(F[k], text.length + 1 + i)] = qd L (text ++ s) text.length i ++ (F.take (k + 1)).map fun j => (j, text.length + 1 + i) := by
    rw [List.append_assoc, show F.take (k + 1) = F.take k ++ [F[k]] by rw [List.take_append_getElem], List.map_append]; rfl
   refine Mv (R3.fr0 f4) o4 (by rw [List.length_append, List.length_map, List.length_take]; omega) fun p' c' h5 R5 f5 hn5 => ⟨_, _, _, rfl, ?_⟩
   rw [e5] at R5 ⊢
   rw [wr (by omega) (by omega)]
   have lt3 := C3.lt
   refine hK2 (F.length - (k + 1)) _ _ (by omega) ⟨k + 1, rfl, rfl, hkl, rfl, (f3.tr f4 fun _ _ h => h.elim).tr f5 fun x hx hh => by have := ho3 x hh; omega, (C3.fr0 f4).fr f5 (fun hh => by have := ho3 _ hh; omega) (fun x hx hh => hd3 x hh hx), (Rr3.fr0 f4).fr f5 (fun x hx hh => hr3 x hx hh), R5, fun x hx => ?_, fun x hx hh => ?_, fun x hx hh => ?_⟩
   ·rcases hn5 x hx with h | h
    ·exact ho3 x h
    ·omega
   ·rcases hn5 x hx with h | h
    ·exact hd3 x h hh
    ·have := C3.lt' hh; omega
   ·rcases hn5 x hh with h | h
    ·exact hr3 x hx h
    ·have := Rr3.lt hx; omega
  ·have : k = F.length := by omega
   subst this
   rw [List.take_length, ← hfd, ← Db] at R3 ⊢
   rw [wr (by omega) (by omega)]
   exact hK (s.length - (i + 1)) _ _ (by omega) ⟨i + 1, p2, rfl, rfl, hil, rfl, f3, C3, hp2', R3, ho3, hd3⟩
 ·have : i = s.length := by omega
  subst this
  rw [List.take_length] at C1
  exact hk h1 p1 oa oc f1 C1 hp1 R1 ho1 hd1
theorem MR [Gh] (A : yq N h a sg ws L) (s : Nm) (hlen : s.length ≤ 2 ^ 16) {Q : Value → aB → Prop}
  (hk : ∀ h' r rc, Fr (fun _ => False) h h' → Row 2 BE h' r rc (qd L s 0 s.length) → (∀ x, InA r x → h.size ≤ x) → Q (.slice r (qd L s 0 s.length).length rc) h') :
  aD Tryz.prog iQ #[.pointer (some a), .string (bs s)] h Q := by
 apply rO
 unfold mh
 refine yO A fun c h1 f1 hc C1 => ⟨_, rfl, ?_⟩
 have z1 := f1.size
 refine IG (A.fr0 f1) C1 s (by rw [List.length_nil]; omega) fun h2 p' r rc f2 C2 hp' R2 hr hrp => ⟨_, _, _, rfl, ?_⟩
 rw [List.nil_append, List.length_nil] at R2 ⊢
 exact hk h2 r rc (f1.tr f2 fun x hx hh => by
  rcases hh with h | h
  ·omega
  ·exact (cU h).elim) R2 fun x hx => by have := hr x hx; omega
end
end Go.Proofs.YtjmfpeiidlpngaaGreatDoor.Au
namespace Go.Proofs.YtjmfpeiidlpngaaGreatDoor
set_option linter.unusedSimpArgs false
set_option linter.unusedVariables false
set_option maxRecDepth 20000
open Go
open Go.IntKind (wrap)
theorem nk (n : Int) : (Au.lZ n).length = 1 := rfl
theorem AA (n : Int) : (Au.lZ n).all eH = true := rfl
def u7 (p : Nat → Bool) (n : Nat) : List Int := ((List.range n).filter p).map fun i : Nat => (i : Int)
theorem zy (p : Nat → Bool) (n : Nat) : u7 p (n + 1) = if p n then u7 p n ++ [(n : Int)] else u7 p n := by
 unfold u7
 rw [List.range_succ, List.filter_append]
 cases h : p n <;> simp [h]
theorem vo (p : Nat → Bool) (n : Nat) : (u7 p n).length ≤ n := by
 unfold u7; rw [List.length_map]
 exact Nat.le_trans (List.length_filter_le _ _) (by simp)
def atB (q : Bd → Bool) (l : List Bd) (i : Nat) : Bool := (l[i]?).any q
theorem wd (q : Bd → Bool) (l : List Bd) (i : Nat) (hi : i < l.length) : atB q l i = q l[i] := by
 unfold atB; rw [List.getElem?_eq_getElem hi]; rfl
def Ew (l : List Bd) (f : aR) (dir : Int) : List Int := u7 (atB (fun b => Au.eE b f dir) l) l.length
theorem Ch (b : Bd) (f : aR) (dir : Int) : Au.eE (wipe b) f dir = Au.eE b f dir := rfl
theorem Ej {q : Bd → Bool} (hq : ∀ b, q (wipe b) = q b) {l l' : List Bd} (e : l.map wipe = l'.map wipe) : atB q l = atB q l' := by
 have h : ∀ l : List Bd, atB q l = atB q (l.map wipe) := fun l => by
  funext i
  unfold atB
  rw [List.getElem?_map]
  cases l[i]? with
  | none => rfl
  | some b => exact (hq b).symm
 rw [h, h l', e]
theorem H6 {l l' : List Bd} (e : l.map wipe = l'.map wipe) (f : aR) (dir : Int) : Ew l f dir = Ew l' f dir := by
 unfold Ew
 rw [Ej (fun b => Ch b f dir) e, show l.length = l'.length by have := congrArg List.length e; simpa using this]
section
variable {N : Nat} {h : aB} {s : Addr} {bs : List Bd} {gs : List Gr} {Q : Value → aB → Prop}
theorem xu.rd (T : xu N h s bs gs) (hb : bs.length ≤ 40) : ∃ p1 c1 v, aY h s [.slice p1 bs.length c1, v] ∧ bH 25 aE.vals aE.ok h ⟨p1, c1, bs⟩ := by
 obtain ⟨hN, p1, c1, m, mm, k1, k2⟩ := T
 obtain ⟨c, R, ok, _⟩ := k1.now
 exact ⟨p1, c1, _, c, R.sl Dj (by omega) (by omega) ok⟩
theorem LF [Gh] (T : xu N h s bs gs) (hb : bs.length ≤ 40) (hk : Q (.int .i64 bs.length) h) : aD Tryz.prog j8 #[.pointer (some s)] h Q := by
 apply yL
 unfold rU
 obtain ⟨p1, c1, v, c, _⟩ := T.rd hb
 exact Cx (aV (aC (c.at0 rfl) hk))
def Hk : Bd := ⟨⟨0, 0, tu, tu, tu, tu, false, 0, 0, 0, [], 0, 0, tu, tu, tu, tu, ⟨0, 0, 0, 0⟩⟩, tu, tu, tu, tu⟩
theorem I9 [Gh] (T : xu N h s bs gs) (hb : bs.length ≤ 40) (f : aR) (dir : Int)
  (hk : ∀ p c h', Fr (fun _ => False) h h' → Row 1 Au.lZ h' p c (Ew bs f dir) → (∀ x, InA p x → h.size ≤ x) → Q (.slice p (Ew bs f dir).length c) h') :
  aD Tryz.prog kL #[.pointer (some s), .agg f.vals.toArray, .int .i64 dir] h Q := by
 apply vD
 unfold pK
 refine aU (vs := f.vals) fun t4 h1 f1 e1 o1 => ?_
 have z1 := f1.size
 refine LF (T.fr0 f1) hb ⟨_, rfl, ?_⟩
 refine aH.mk (fun st h' => ∃ (i : Nat) (p : Option Addr) (c : Nat), st = (p, (u7 (atB (fun b => Au.eE b f dir) bs) i).length, c, (i : Int)) ∧ i ≤ bs.length ∧ Fr (fun _ => False) h1 h' ∧ Row 1 Au.lZ h' p c (u7 (atB (fun b => Au.eE b f dir) bs) i) ∧ ∀ x, InA p x → h1.size ≤ x)
  (fun st _ => bs.length - st.2.2.2.toNat) ⟨0, none, 0, rfl, by omega, Fr.refl _ _, Row.nil, fun x hx => (cU hx).elim⟩ ?_
 rintro st h2 ⟨i, p, c, rfl, hi, f2, R, hn⟩
 dsimp only
 unfold kW
 have z2 := f2.size
 refine ifD (fun hlt => ?_) (fun hge => ?_)
 ·have hi' : i < bs.length := by omega
  obtain ⟨p1, c1, v, cc, ok⟩ := ((T.fr0 f1).fr0 f2).rd hb
  refine aV (aC (cc.at0 rfl) ?_)
  refine cL ok i rfl hi' fun ad cb okr => ?_
  rw [Int.toNat_natCast]
  refine (aA (cb.at0 rfl) (aA (cb.at rfl) (aC (cb.at rfl) (aC (cb.at rfl) (aC (cb.at rfl) (aC (cb.at rfl) (aG (cb.at rfl) (aA (cb.at rfl) (aA (cb.at rfl) (aA (cb.at rfl) (aT (cb.at rfl) (aA (cb.at rfl) (aA (cb.at rfl) (aC (cb.at rfl) (aC (cb.at rfl) (aC (cb.at rfl) (aC (cb.at rfl) (aA (cb.at rfl) (aA (cb.at rfl) (aA (cb.at rfl) (aA (cb.at rfl) (aC (cb.at rfl) (aC (cb.at rfl) (aC (cb.at rfl) (aC (cb.at rfl) ?_)))))))))))))))))))))))))
  have o2 := o1.fr0 f2
  refine (aA (o2.cells.at0 rfl) (aG (o2.cells.at rfl) (aA (o2.cells.at rfl) (aA (o2.cells.at rfl) (aG (o2.cells.at rfl) (aA (o2.cells.at rfl) (aA (o2.cells.at rfl) (aA (o2.cells.at rfl) (aA (o2.cells.at rfl) ?_)))))))))
  refine Au.CZ bs[i] f dir okr fun h3 f3 => ⟨_, rfl, ?_⟩
  have z3 := f3.size
  have hl := vo (atB (fun b => Au.eE b f dir) bs) i
  have hs := zy (atB (fun b => Au.eE b f dir) bs) i
  rw [wd _ _ _ hi'] at hs
  refine ifB (fun e => ?_) fun e => ?_
  ·rw [e] at hs
   rw [if_pos rfl] at hs
   refine aU (vs := [.int .i64 i]) fun t26 h4 f4 e4 o4 => ?_
   have z4 := f4.size
   refine ((R.fr0 f3).fr0 f4).app Au.rq Tryz.underlying46 (by intro k e; cases e) (by kernel_rfl) (by decide +kernel) nk AA (e := (i : Int)) o4 1 (by omega) fun p5 c5 h5 R5 f5 hn5 => ⟨_, _, _, rfl, ?_⟩
   rw [wr (by omega) (by omega)]
   refine ⟨⟨i + 1, p5, c5, by rw [hs]; simp, by omega, ?_, by rw [hs]; exact R5, fun x hx => ?_⟩, by dsimp only; omega⟩
   ·exact ((f2.trans f3).trans f4).tr f5 fun x hx hh => by have := hn x hh; omega
   ·rcases hn5 x hx with h | h
    ·exact hn x h
    ·omega
  ·rw [e] at hs
   rw [if_neg (by decide)] at hs
   rw [wr (by omega) (by omega)]
   exact ⟨⟨i + 1, p, c, by rw [hs]; simp, by omega, f2.trans f3, by rw [hs]; exact R.fr0 f3, hn⟩, by dsimp only; omega⟩
 ·have : i = bs.length := by omega
  subst this
  exact hk p c h2 (f1.trans f2) R fun x hx => by have := hn x hx; omega
end
end Go.Proofs.YtjmfpeiidlpngaaGreatDoor
namespace Go.Proofs.YtjmfpeiidlpngaaGreatDoor.Au
set_option linter.unusedSimpArgs false
set_option linter.unusedVariables false
set_option maxRecDepth 20000
open Go
open Go.IntKind (wrap)
def mkB (x : Int) : UInt8 := UInt8.ofNat x.toNat
theorem tA {x : Int} (h0 : 0 ≤ x) (h1 : x ≤ 255) : bA (mkB x) = x := by
 unfold bA mkB
 rw [UInt8.toNat_ofNat']; omega
def lV (c : Int) : Int := if 48 ≤ c ∧ c ≤ 57 then c - 48 else if 97 ≤ c ∧ c ≤ 102 then c - 87 else if 65 ≤ c ∧ c ≤ 70 then c - 55 else -1
theorem wn (c : Int) : -1 ≤ lV c ∧ lV c ≤ 15 := by unfold lV; split <;> (try split) <;> (try split) <;> omega
def qP (b : UInt8) : Bool := !(bA b == 9 || bA b == 10 || bA b == 13 || bA b == 32)
def kM (l : Nm) : Nm := l.filter qP
theorem Bh (l : Nm) (i : Nat) (hi : i < l.length) : kM (l.take (i + 1)) = kM (l.take i) ++ (if qP l[i] = true then [l[i]] else []) := by
 unfold kM
 rw [show l.take (i + 1) = l.take i ++ [l[i]] by rw [List.take_append_getElem], List.filter_append, List.filter_cons, List.filter_nil]
def pS : Nm → Nm
 | [] => []
 | [a] => [a]
 | [a, b] => [a, b]
 | c :: a :: b :: r => if bA c = 37 ∧ 0 ≤ lV (bA a) ∧ 0 ≤ lV (bA b) then mkB (16 * lV (bA a) + lV (bA b)) :: pS r else c :: pS (a :: b :: r)
theorem wk {l : Nm} {i : Nat} (hi : i < l.length) (h : bA l[i] ≠ 37 ∨ l.length ≤ i + 2) : pS (l.drop i) = l[i] :: pS (l.drop (i + 1)) := by
 rw [List.drop_eq_getElem_cons hi]
 cases h1 : l.drop (i + 1) with
 | nil => rfl
 | cons a r =>
  cases r with
  | nil => rfl
  | cons b r =>
   have hl : (l.drop (i + 1)).length = r.length + 2 := by rw [h1]; rfl
   rw [List.length_drop] at hl
   rw [pS, if_neg]
   rintro ⟨h2, _⟩
   rcases h with h | h
   ·exact h h2
   ·omega
theorem C6 {l : Nm} {i : Nat} (hi : i + 2 < l.length) : pS (l.drop i) = if bA (l[i]'(by omega)) = 37 ∧ 0 ≤ lV (bA (l[i + 1]'(by omega))) ∧ 0 ≤ lV (bA l[i + 2]) then mkB (16 * lV (bA (l[i + 1]'(by omega))) + lV (bA l[i + 2])) :: pS (l.drop (i + 3)) else l[i]'(by omega) :: pS (l.drop (i + 1)) := by
 have e : l.drop i = l[i]'(by omega) :: l[i + 1]'(by omega) :: l[i + 2] :: l.drop (i + 3) := by
  rw [List.drop_eq_getElem_cons (show i < l.length by omega), List.drop_eq_getElem_cons (show i + 1 < l.length by omega), List.drop_eq_getElem_cons hi]
 have e1 : l.drop (i + 1) = l[i + 1]'(by omega) :: l[i + 2] :: l.drop (i + 3) := by
  rw [List.drop_eq_getElem_cons (show i + 1 < l.length by omega), List.drop_eq_getElem_cons hi]
 rw [e, pS, ← e1]
def oQ (high : Int) : Nm → Nm
 | [] => []
 | c :: r => if lV (bA c) < 0 then oQ high r else if high < 0 then oQ (lV (bA c)) r else mkB (16 * high + lV (bA c)) :: oQ (-1) r
section
variable {h : aB} {Q : Value → aB → Prop}
theorem Bo [Gh] (c : Int) (h0 : 0 ≤ c) (h1 : c ≤ 255) (hk : Q (.int .i64 (lV c)) h) : aD Tryz.prog iE #[.int .u8 c] h Q := by
 apply xJ
 unfold rX kg
 unfold lV at hk
 by_cases a : 48 ≤ c ∧ c ≤ 57
 ·rw [if_pos a] at hk
  rw [if_pos (by simpa using a.1), if_pos (by simpa using a.2), wrb (by omega) (by omega), wr (by omega) (by omega)]; exact hk
 rw [if_neg a] at hk
 have b1 : (if (decide (97 ≤ c)) = true then (if (decide (c ≤ 102)) = true then (Q (.int .i64 (wrap .i64 ((wrap .i64 (wrap .u8 (c - 97))) + 10))) h) else (if (decide (65 ≤ c)) = true then (if (decide (c ≤ 70)) = true then (Q (.int .i64 (wrap .i64 ((wrap .i64 (wrap .u8 (c - 65))) + 10))) h) else (Q (.int .i64 (-1)) h)) else (Q (.int .i64 (-1)) h))) else (if (decide (65 ≤ c)) = true then (if (decide (c ≤ 70)) = true then (Q (.int .i64 (wrap .i64 ((wrap .i64 (wrap .u8 (c - 65))) + 10))) h) else (Q (.int .i64 (-1)) h)) else (Q (.int .i64 (-1)) h))) := by
  by_cases b : 97 ≤ c ∧ c ≤ 102
  ·rw [if_pos b] at hk
   rw [if_pos (by simpa using b.1), if_pos (by simpa using b.2), wrb (x := c - 97) (by omega) (by omega), wr (x := c - 97) (by omega) (by omega), wr (by omega) (by omega), show c - 97 + 10 = c - 87 by omega]; exact hk
  rw [if_neg b] at hk
  have b2 : (if (decide (65 ≤ c)) = true then (if (decide (c ≤ 70)) = true then (Q (.int .i64 (wrap .i64 ((wrap .i64 (wrap .u8 (c - 65))) + 10))) h) else (Q (.int .i64 (-1)) h)) else (Q (.int .i64 (-1)) h)) := by
   by_cases d : 65 ≤ c ∧ c ≤ 70
   ·rw [if_pos d] at hk
    rw [if_pos (by simpa using d.1), if_pos (by simpa using d.2), wrb (x := c - 65) (by omega) (by omega), wr (x := c - 65) (by omega) (by omega), wr (by omega) (by omega), show c - 65 + 10 = c - 55 by omega]; exact hk
   ·rw [if_neg d] at hk
    exact ifD (fun _ => ifD (fun _ => by omega) fun _ => hk) fun _ => hk
  exact ifD (fun _ => ifD (fun _ => by omega) fun _ => b2) fun _ => b2
 exact ifD (fun _ => ifD (fun _ => by omega) fun _ => b1) fun _ => b1
theorem vq [Gh] (c : Int) (h0 : 0 ≤ c) (h1 : c ≤ 255) (hk : Q (.int .i64 (lV c)) h) : aD Tryz.prog iH #[.int .u8 c] h Q := by
 apply Cl
 unfold wT oy
 unfold lV at hk
 by_cases a : 48 ≤ c ∧ c ≤ 57
 ·rw [if_pos a] at hk
  rw [if_pos (by simpa using a.1), if_pos (by simpa using a.2), wrb (by omega) (by omega), wr (by omega) (by omega)]; exact hk
 rw [if_neg a] at hk
 have b1 : (if (decide (c ≥ 97)) = true then (if (decide (c ≤ 102)) = true then (Q (.int .i64 (wrap .i64 ((wrap .i64 (wrap .u8 (c - 97))) + 10))) h) else (if (decide (c ≥ 65)) = true then (if (decide (c ≤ 70)) = true then (Q (.int .i64 (wrap .i64 ((wrap .i64 (wrap .u8 (c - 65))) + 10))) h) else (Q (.int .i64 (-1)) h)) else (Q (.int .i64 (-1)) h))) else (if (decide (c ≥ 65)) = true then (if (decide (c ≤ 70)) = true then (Q (.int .i64 (wrap .i64 ((wrap .i64 (wrap .u8 (c - 65))) + 10))) h) else (Q (.int .i64 (-1)) h)) else (Q (.int .i64 (-1)) h))) := by
  by_cases b : 97 ≤ c ∧ c ≤ 102
  ·rw [if_pos b] at hk
   rw [if_pos (by simpa using b.1), if_pos (by simpa using b.2), wrb (x := c - 97) (by omega) (by omega), wr (x := c - 97) (by omega) (by omega), wr (by omega) (by omega), show c - 97 + 10 = c - 87 by omega]; exact hk
  rw [if_neg b] at hk
  have b2 : (if (decide (c ≥ 65)) = true then (if (decide (c ≤ 70)) = true then (Q (.int .i64 (wrap .i64 ((wrap .i64 (wrap .u8 (c - 65))) + 10))) h) else (Q (.int .i64 (-1)) h)) else (Q (.int .i64 (-1)) h)) := by
   by_cases d : 65 ≤ c ∧ c ≤ 70
   ·rw [if_pos d] at hk
    rw [if_pos (by simpa using d.1), if_pos (by simpa using d.2), wrb (x := c - 65) (by omega) (by omega), wr (x := c - 65) (by omega) (by omega), wr (by omega) (by omega), show c - 65 + 10 = c - 55 by omega]; exact hk
   ·rw [if_neg d] at hk
    exact ifD (fun _ => ifD (fun _ => by omega) fun _ => hk) fun _ => hk
  exact ifD (fun _ => ifD (fun _ => by omega) fun _ => b2) fun _ => b2
 exact ifD (fun _ => ifD (fun _ => by omega) fun _ => b1) fun _ => b1
theorem B8 [Gh] {h0 h : aB} {p : Option Addr} {cap : Nat} {L : Nm} (R : Row 1 bV h p cap L) (hp : ∀ x, InA p x → h0.size ≤ x) (f : Fr (fun _ => False) h0 h) (hl : L.length ≤ 2 ^ 29) {x : Int} (b : UInt8) (hb : bA b = x) {K : Value → aB → Prop}
  (hk : ∀ p' cap' h', Row 1 bV h' p' cap' (L ++ [b]) → Fr (fun _ => False) h0 h' → (∀ x, InA p' x → h0.size ≤ x) → K (.slice p' (L ++ [b]).length cap') h') :
  alV h (.cells #[.int .u8 x] gK) fun t h2 => cQ Tryz.prog .append #[aL, aL] aL #[false, false] #[.slice p L.length cap, .slice (some t) 1 1] h2 K := by
 subst hb
 refine aU (vs := bV b) fun t h2 f2 e2 o2 => ?_
 have z := f.size
 have z2 := f2.size
 refine MB (R.fr0 f2) o2 hl fun p' c' h3 R3 f3 hn3 => ?_
 refine hk p' c' h3 R3 ((f.trans f2).tr f3 fun x hx hh => by have := hp x hh; omega) fun x hx => ?_
 rcases hn3 x hx with h | h
 ·exact hp x h
 ·omega
theorem m9 {b : UInt8} (h : bA b = 9 ∨ bA b = 10 ∨ bA b = 13 ∨ bA b = 32) : qP b = false := by
 unfold qP
 rcases h with h | h | h | h <;> simp [h]
theorem Dp {b : UInt8} (h1 : bA b ≠ 9) (h2 : bA b ≠ 10) (h3 : bA b ≠ 13) (h4 : bA b ≠ 32) : qP b = true := by
 unfold qP; simp [h1, h2, h3, h4]
theorem Lm [Gh] (l : Nm) (hl : l.length ≤ 2 ^ 28) (hk : ∀ h', Fr (fun _ => False) h h' → Q (.string (bs (kM l))) h') : aD Tryz.prog mX #[.string (bs l)] h Q := by
 apply uo
 unfold nC
 rw [aX]
 refine aH.go (fun n st h' => ∃ (i : Nat), st.2.2.2 = (i : Int) ∧ st.2.1 = (kM (l.take i)).length ∧ i ≤ l.length ∧ n = l.length - i ∧ Fr (fun _ => False) h h' ∧ Row 1 bV h' st.1 st.2.2.1 (kM (l.take i)) ∧ (∀ b, InA st.1 b → h.size ≤ b)) l.length
  ⟨0, rfl, rfl, by omega, rfl, Fr.refl _ _, Row.nil, fun b hb => (cU hb).elim⟩ ?_
 rintro n ⟨a, m, c, t⟩ h1 ⟨i, e1, e2, hi, rfl, f1, R1, ha⟩ Kn hK
 dsimp only at e1 e2 R1 ha
 subst e1 e2
 dsimp only
 unfold jW
 have hsl : (kM (l.take i)).length ≤ i := Nat.le_trans (List.length_filter_le ..) (by rw [List.length_take]; omega)
 refine ifD (fun e => ?_) fun e => ?_
 ·have hil : i < l.length := by omega
  have hs := Bh l i hil
  rw [wr (by omega) (by omega)]
  have skip : qP l[i] = false → Kn (a, (kM (l.take i)).length, c, (i : Int) + 1) h1 := fun hb => by
   rw [if_neg (by rw [hb]; decide), List.append_nil] at hs
   exact hK (l.length - (i + 1)) _ _ (by omega) ⟨i + 1, rfl, by dsimp only; rw [hs], hil, rfl, f1, by rw [hs]; exact R1, ha⟩
  have put : qP l[i] = true → cN (bs l) a (kM (l.take i)).length c (i : Int) ((l.length : Nat) : Int) (i : Int) Q Kn h1 := fun hb => by
   unfold cN
   rw [if_pos hb] at hs
   refine ixS l i rfl hil (B8 R1 ha f1 (by omega) l[i] rfl fun p' c' h2 R2 f2 hp2 => ⟨_, _, _, rfl, ?_⟩)
   rw [wr (by omega) (by omega)]
   rw [← hs] at R2 ⊢
   exact hK (l.length - (i + 1)) _ _ (by omega) ⟨i + 1, rfl, rfl, hil, rfl, f2, R2, hp2⟩
  refine ixS l i rfl hil ?_
  refine ifE (fun e1 => ?_) fun e1 => ifE (fun e2 => ?_) fun e2 => ifE (fun e3 => ?_) fun e3 => ifE (fun e4 => ?_) fun e4 => put (Dp e1 e2 e3 e4)
  ·rw [e1, if_pos (by decide)]; exact skip (m9 (.inl e1))
  ·rw [e2, if_pos (by decide)]; exact skip (m9 (.inr (.inl e2)))
  ·rw [e3, if_pos (by decide)]; exact skip (m9 (.inr (.inr (.inl e3))))
  ·exact skip (m9 (.inr (.inr (.inr e4))))
 ·have : i = l.length := by omega
  subst this
  rw [List.take_length] at R1 ⊢
  exact u3 R1 ⟨_, rfl, hk h1 f1⟩
theorem I3 [Gh] (l : Nm) (hl : l.length ≤ 2 ^ 28) (hk : ∀ h', Fr (fun _ => False) h h' → Q (.string (bs (kM l))) h') : aD Tryz.prog qR #[.string (bs l)] h Q := by
 apply B9
 unfold xb
 refine aU (vs := []) fun t5 h0 f0 e0 o0 => ?_
 have z0 := f0.size
 have R0 : Row 1 bV h0 (some t5) 0 [] := Row.of_own (L := []) rF o0
 refine aH.go (fun n st h' => ∃ (i : Nat), st.2.2.2 = (i : Int) ∧ st.2.1 = (kM (l.take i)).length ∧ i ≤ l.length ∧ n = l.length - i ∧ Fr (fun _ => False) h h' ∧ Row 1 bV h' st.1 st.2.2.1 (kM (l.take i)) ∧ (∀ b, InA st.1 b → h.size ≤ b)) l.length
  ⟨0, rfl, rfl, by omega, rfl, f0, R0, fun b hb => by obtain ⟨ad, h1, h2⟩ := hb; cases h1; omega⟩ ?_
 rintro n ⟨a, m, c, t⟩ h1 ⟨i, e1, e2, hi, rfl, f1, R1, ha⟩ Kn hK
 dsimp only at e1 e2 R1 ha
 subst e1 e2
 dsimp only
 unfold q8
 rw [aX]
 have hsl : (kM (l.take i)).length ≤ i := Nat.le_trans (List.length_filter_le ..) (by rw [List.length_take]; omega)
 refine ifD (fun e => ?_) fun e => ?_
 ·have hil : i < l.length := by omega
  have hs := Bh l i hil
  rw [wr (by omega) (by omega)]
  have skip : qP l[i] = false → Kn (a, (kM (l.take i)).length, c, (i : Int) + 1) h1 := fun hb => by
   rw [if_neg (by rw [hb]; decide), List.append_nil] at hs
   exact hK (l.length - (i + 1)) _ _ (by omega) ⟨i + 1, rfl, by dsimp only; rw [hs], hil, rfl, f1, by rw [hs]; exact R1, ha⟩
  refine ixS l i rfl hil (lu (fun e1 => ?_) fun e1 => skip (m9 (.inl e1)))
  refine ixS l i rfl hil (lu (fun e2 => ?_) fun e2 => skip (m9 (.inr (.inl e2))))
  refine ixS l i rfl hil (lu (fun e3 => ?_) fun e3 => skip (m9 (.inr (.inr (.inl e3)))))
  refine ixS l i rfl hil (lu (fun e4 => ?_) fun e4 => skip (m9 (.inr (.inr (.inr e4)))))
  rw [if_pos (Dp e1 e2 e3 e4)] at hs
  refine ixS l i rfl hil (B8 R1 ha f1 (by omega) l[i] rfl fun p' c' h2 R2 f2 hp2 => ⟨_, _, _, rfl, ?_⟩)
  rw [← hs] at R2 ⊢
  exact hK (l.length - (i + 1)) _ _ (by omega) ⟨i + 1, rfl, rfl, hil, rfl, f2, R2, hp2⟩
 ·have : i = l.length := by omega
  subst this
  rw [List.take_length] at R1 ⊢
  exact u3 R1 ⟨_, rfl, hk h1 f1⟩
theorem Hy [Gh] (l : Nm) (hl : l.length ≤ 2 ^ 28) (hk : ∀ h', Fr (fun _ => False) h h' → Q (.string (bs (pS l))) h') : aD Tryz.prog me #[.string (bs l)] h Q := by
 apply sv
 unfold mD
 refine aH.go (fun n st h' => ∃ (i : Nat) (out : Nm), st.2.2.2 = (i : Int) ∧ st.2.1 = out.length ∧ out.length ≤ i ∧ i ≤ l.length ∧ n = l.length - i ∧ Fr (fun _ => False) h h' ∧ out ++ pS (l.drop i) = pS l ∧ Row 1 bV h' st.1 st.2.2.1 out ∧ (∀ b, InA st.1 b → h.size ≤ b)) l.length
  ⟨0, [], rfl, rfl, by simp, by omega, rfl, Fr.refl _ _, rfl, Row.nil, fun b hb => (cU hb).elim⟩ ?_
 rintro n ⟨a, m, c, t⟩ h1 ⟨i, out, e1, e2, hol, hi, rfl, f1, hout, R1, ha⟩ Kn hK
 dsimp only at e1 e2 R1 ha
 subst e1 e2
 dsimp only
 unfold iW
 rw [aX]
 refine ifD (fun e => ?_) fun e => ?_
 ·have hil : i < l.length := by omega
  have b2 : pS (l.drop i) = l[i] :: pS (l.drop (i + 1)) → cG (bs l) a out.length c (i : Int) Q Kn h1 := fun hp => by
   unfold cG
   refine ixS l i rfl hil (B8 R1 ha f1 (by omega) l[i] rfl fun p' c' h2 R2 f2 hp2 => ⟨_, _, _, rfl, ?_⟩)
   rw [wr (by omega) (by omega)]
   exact hK (l.length - (i + 1)) _ _ (by omega) ⟨i + 1, _, rfl, rfl, by rw [List.length_append, List.length_singleton]; omega, hil, rfl, f2, by rw [← hout, hp, List.append_assoc]; rfl, R2, hp2⟩
  refine ixS l i rfl hil (ifE (fun e3 => ?_) fun e3 => b2 (wk hil (.inl e3)))
  rw [wr (by omega) (by omega)]
  refine ifD (fun e4 => ?_) fun e4 => b2 (wk hil (.inr (by omega)))
  rw [wr (x := (i : Int) + 1) (by omega) (by omega), wr (x := (i : Int) + 2) (by omega) (by omega)]
  have h3 := C6 (l := l) (i := i) (by omega)
  refine ixS l (i + 1) (by omega) (by omega) (ixS l (i + 2) (by omega) (by omega) ?_)
  have q1 := jJ (l[i + 1]'(by omega))
  have q2 := jJ (l[i + 2]'(by omega))
  have d1 := wn (bA (l[i + 1]'(by omega)))
  have d2 := wn (bA (l[i + 2]'(by omega)))
  refine Bo _ q1.1 q1.2 ⟨_, rfl, Bo _ q2.1 q2.2 ⟨_, rfl, ?_⟩⟩
  refine ifD (fun e5 => ifD (fun e6 => ?_) fun e6 => b2 (by rw [h3, if_neg (fun hh => by omega)])) fun e5 => b2 (by rw [h3, if_neg (fun hh => by omega)])
  rw [if_pos ⟨e3, by omega, by omega⟩] at h3
  rw [wr (x := 16 * lV (bA (l[i + 1]'(by omega)))) (by omega) (by omega), wr (x := 16 * lV (bA (l[i + 1]'(by omega))) + lV (bA (l[i + 2]'(by omega)))) (by omega) (by omega), wrb (by omega) (by omega)]
  refine B8 R1 ha f1 (by omega) (mkB (16 * lV (bA (l[i + 1]'(by omega))) + lV (bA (l[i + 2]'(by omega))))) (tA (by omega) (by omega)) fun p' c' h2 R2 f2 hp2 => ⟨_, _, _, rfl, ?_⟩
  rw [wr (by omega) (by omega)]
  refine hK (l.length - (i + 3)) _ _ (by omega) ⟨i + 3, _, ?_, rfl, by rw [List.length_append, List.length_singleton]; omega, by omega, rfl, f2, by rw [← hout, h3, List.append_assoc]; rfl, R2, hp2⟩
  dsimp only; omega
 ·have : i = l.length := by omega
  subst this
  rw [List.drop_length] at hout
  have : out = pS l := by rw [← hout]; show out = out ++ []; rw [List.append_nil]
  subst this
  exact u3 R1 ⟨_, rfl, hk h1 f1⟩
theorem FH [Gh] (l : Nm) (hl : l.length ≤ 2 ^ 28) (hk : ∀ h', Fr (fun _ => False) h h' → Q (.string (bs (pS l))) h') : aD Tryz.prog pB #[.string (bs l)] h Q := by
 apply Aj
 unfold u4
 refine aU (vs := []) fun t5 h0 f0 e0 o0 => ?_
 have z0 := f0.size
 have R0 : Row 1 bV h0 (some t5) 0 [] := Row.of_own (L := []) rF o0
 refine aH.go (fun n st h' => ∃ (i : Nat) (out : Nm), st.2.2.2 = (i : Int) ∧ st.2.1 = out.length ∧ out.length ≤ i ∧ i ≤ l.length ∧ n = l.length - i ∧ Fr (fun _ => False) h h' ∧ out ++ pS (l.drop i) = pS l ∧ Row 1 bV h' st.1 st.2.2.1 out ∧ (∀ b, InA st.1 b → h.size ≤ b)) l.length
  ⟨0, [], rfl, rfl, by simp, by omega, rfl, f0, rfl, R0, fun b hb => by obtain ⟨ad, h1, h2⟩ := hb; cases h1; omega⟩ ?_
 rintro n ⟨a, m, c, t⟩ h1 ⟨i, out, e1, e2, hol, hi, rfl, f1, hout, R1, ha⟩ Kn hK
 dsimp only at e1 e2 R1 ha
 subst e1 e2
 dsimp only
 unfold oY
 rw [aX]
 refine ifD (fun e => ?_) fun e => ?_
 ·have hil : i < l.length := by omega
  have b2 : pS (l.drop i) = l[i] :: pS (l.drop (i + 1)) → fV (bs l) a out.length c (i : Int) Q Kn h1 := fun hp => by
   unfold fV
   refine ixS l i rfl hil (B8 R1 ha f1 (by omega) l[i] rfl fun p' c' h2 R2 f2 hp2 => ⟨_, _, _, rfl, ?_⟩)
   rw [wr (by omega) (by omega)]
   exact hK (l.length - (i + 1)) _ _ (by omega) ⟨i + 1, _, rfl, rfl, by rw [List.length_append, List.length_singleton]; omega, hil, rfl, f2, by rw [← hout, hp, List.append_assoc]; rfl, R2, hp2⟩
  refine ixS l i rfl hil (ifE (fun e3 => ?_) fun e3 => b2 (wk hil (.inl e3)))
  rw [wr (x := (i : Int) + 2) (by omega) (by omega)]
  refine ifD (fun e4 => ?_) fun e4 => b2 (wk hil (.inr (by omega)))
  rw [wr (x := (i : Int) + 1) (by omega) (by omega)]
  have h3 := C6 (l := l) (i := i) (by omega)
  have q1 := jJ (l[i + 1]'(by omega))
  have q2 := jJ (l[i + 2]'(by omega))
  have d1 := wn (bA (l[i + 1]'(by omega)))
  have d2 := wn (bA (l[i + 2]'(by omega)))
  refine ixS l (i + 1) (by omega) (by omega) (vq _ q1.1 q1.2 ⟨_, rfl, ?_⟩)
  refine ifD (fun e5 => ?_) fun e5 => b2 (by rw [h3, if_neg (fun hh => by omega)])
  refine ixS l (i + 2) (by omega) (by omega) (vq _ q2.1 q2.2 ⟨_, rfl, ?_⟩)
  refine ifD (fun e6 => ?_) fun e6 => b2 (by rw [h3, if_neg (fun hh => by omega)])
  rw [if_pos ⟨e3, by omega, by omega⟩] at h3
  refine ixS l (i + 1) (by omega) (by omega) (ixS l (i + 2) (by omega) (by omega) (vq _ q1.1 q1.2 ⟨_, rfl, vq _ q2.1 q2.2 ⟨_, rfl, ?_⟩⟩))
  rw [wr (x := lV (bA (l[i + 1]'(by omega))) * 16) (by omega) (by omega), wr (x := lV (bA (l[i + 1]'(by omega))) * 16 + lV (bA (l[i + 2]'(by omega)))) (by omega) (by omega), wrb (by omega) (by omega)]
  refine B8 R1 ha f1 (by omega) (mkB (16 * lV (bA (l[i + 1]'(by omega))) + lV (bA (l[i + 2]'(by omega))))) (by rw [tA (by omega) (by omega)]; omega) fun p' c' h2 R2 f2 hp2 => ⟨_, _, _, rfl, ?_⟩
  rw [wr (by omega) (by omega)]
  refine hK (l.length - (i + 3)) _ _ (by omega) ⟨i + 3, _, ?_, rfl, by rw [List.length_append, List.length_singleton]; omega, by omega, rfl, f2, by rw [← hout, h3, List.append_assoc]; rfl, R2, hp2⟩
  dsimp only; omega
 ·have : i = l.length := by omega
  subst this
  rw [List.drop_length] at hout
  have : out = pS l := by rw [← hout]; show out = out ++ []; rw [List.append_nil]
  subst this
  exact u3 R1 ⟨_, rfl, hk h1 f1⟩
theorem MZ [Gh] (l : Nm) (hl : l.length ≤ 2 ^ 28) (hk : ∀ h', Fr (fun _ => False) h h' → Q (.string (bs (oQ (-1) l))) h') : aD Tryz.prog oK #[.string (bs l)] h Q := by
 apply vT
 unfold pM
 rw [aX]
 refine aH.go (fun n st h' => ∃ (i : Nat) (out : Nm), st.2.2.2.2 = (i : Int) ∧ st.2.1 = out.length ∧ out.length ≤ i ∧ i ≤ l.length ∧ n = l.length - i ∧ Fr (fun _ => False) h h' ∧ -1 ≤ st.2.2.2.1 ∧ st.2.2.2.1 ≤ 15 ∧ out ++ oQ st.2.2.2.1 (l.drop i) = oQ (-1) l ∧ Row 1 bV h' st.1 st.2.2.1 out ∧ (∀ b, InA st.1 b → h.size ≤ b)) l.length
  ⟨0, [], rfl, rfl, by simp, by omega, rfl, Fr.refl _ _, by simp, by simp, rfl, Row.nil, fun b hb => (cU hb).elim⟩ ?_
 rintro n ⟨a, m, c, hg, t⟩ h1 ⟨i, out, e1, e2, hol, hi, rfl, f1, g1, g2, hout, R1, ha⟩ Kn hK
 dsimp only at e1 e2 g1 g2 hout R1 ha
 subst e1 e2
 dsimp only
 unfold kP
 refine ifD (fun e => ?_) fun e => ?_
 ·have hil : i < l.length := by omega
  have q1 := jJ l[i]
  have d1 := wn (bA l[i])
  rw [List.drop_eq_getElem_cons hil, oQ] at hout
  refine ixS l i rfl hil (Bo _ q1.1 q1.2 ⟨_, rfl, ?_⟩)
  rw [wr (x := (i : Int) + 1) (by omega) (by omega)]
  refine ifD (fun e3 => ?_) fun e3 => ?_
  ·rw [if_pos e3] at hout
   exact hK (l.length - (i + 1)) _ _ (by omega) ⟨i + 1, out, rfl, rfl, by omega, hil, rfl, f1, g1, g2, hout, R1, ha⟩
  rw [if_neg e3] at hout
  refine ifD (fun e4 => ?_) fun e4 => ?_
  ·rw [if_pos e4] at hout
   exact hK (l.length - (i + 1)) _ _ (by omega) ⟨i + 1, out, rfl, rfl, by omega, hil, rfl, f1, by dsimp only; omega, by dsimp only; omega, hout, R1, ha⟩
  ·rw [if_neg e4] at hout
   rw [wr (x := 16 * hg) (by omega) (by omega), wr (x := 16 * hg + lV (bA l[i])) (by omega) (by omega), wrb (by omega) (by omega)]
   refine B8 R1 ha f1 (by omega) (mkB (16 * hg + lV (bA l[i]))) (tA (by omega) (by omega)) fun p' c' h2 R2 f2 hp2 => ⟨_, _, _, rfl, ?_⟩
   exact hK (l.length - (i + 1)) _ _ (by omega) ⟨i + 1, _, rfl, rfl, by rw [List.length_append, List.length_singleton]; omega, hil, rfl, f2, by simp, by simp, by rw [← hout, List.append_assoc]; rfl, R2, hp2⟩
 ·have : i = l.length := by omega
  subst this
  rw [List.drop_length] at hout
  have : out = oQ (-1) l := by rw [← hout]; show out = out ++ []; rw [List.append_nil]
  subst this
  exact u3 R1 ⟨_, rfl, hk h1 f1⟩
theorem LJ [Gh] (l : Nm) (hl : l.length ≤ 2 ^ 28) (hk : ∀ h', Fr (fun _ => False) h h' → Q (.string (bs (oQ (-1) l))) h') : aD Tryz.prog uC #[.string (bs l)] h Q := by
 apply E8
 unfold zW
 refine aU (vs := []) fun t5 h0 f0 e0 o0 => ?_
 have z0 := f0.size
 have R0 : Row 1 bV h0 (some t5) 0 [] := Row.of_own (L := []) rF o0
 refine aH.go (fun n st h' => ∃ (i : Nat) (out : Nm), st.2.2.2.2 = (i : Int) ∧ st.2.1 = out.length ∧ out.length ≤ i ∧ i ≤ l.length ∧ n = l.length - i ∧ Fr (fun _ => False) h h' ∧ -1 ≤ st.2.2.2.1 ∧ st.2.2.2.1 ≤ 15 ∧ out ++ oQ st.2.2.2.1 (l.drop i) = oQ (-1) l ∧ Row 1 bV h' st.1 st.2.2.1 out ∧ (∀ b, InA st.1 b → h.size ≤ b)) l.length
  ⟨0, [], rfl, rfl, by simp, by omega, rfl, f0, by simp, by simp, rfl, R0, fun b hb => by obtain ⟨ad, h1, h2⟩ := hb; cases h1; omega⟩ ?_
 rintro n ⟨a, m, c, hg, t⟩ h1 ⟨i, out, e1, e2, hol, hi, rfl, f1, g1, g2, hout, R1, ha⟩ Kn hK
 dsimp only at e1 e2 g1 g2 hout R1 ha
 subst e1 e2
 dsimp only
 unfold uv
 rw [aX]
 refine ifD (fun e => ?_) fun e => ?_
 ·have hil : i < l.length := by omega
  have q1 := jJ l[i]
  have d1 := wn (bA l[i])
  rw [List.drop_eq_getElem_cons hil, oQ] at hout
  refine ixS l i rfl hil (vq _ q1.1 q1.2 ⟨_, rfl, ?_⟩)
  rw [wr (x := (i : Int) + 1) (by omega) (by omega)]
  refine ifD (fun e3 => ?_) fun e3 => ?_
  ·rw [if_pos e3] at hout
   exact hK (l.length - (i + 1)) _ _ (by omega) ⟨i + 1, out, rfl, rfl, by omega, hil, rfl, f1, g1, g2, hout, R1, ha⟩
  rw [if_neg e3] at hout
  refine ifD (fun e4 => ?_) fun e4 => ?_
  ·rw [if_pos e4] at hout
   exact hK (l.length - (i + 1)) _ _ (by omega) ⟨i + 1, out, rfl, rfl, by omega, hil, rfl, f1, by dsimp only; omega, by dsimp only; omega, hout, R1, ha⟩
  ·rw [if_neg e4] at hout
   rw [wr (x := hg * 16) (by omega) (by omega), wr (x := hg * 16 + lV (bA l[i])) (by omega) (by omega), wrb (by omega) (by omega)]
   refine B8 R1 ha f1 (by omega) (mkB (16 * hg + lV (bA l[i]))) (by rw [tA (by omega) (by omega)]; omega) fun p' c' h2 R2 f2 hp2 => ⟨_, _, _, rfl, ?_⟩
   exact hK (l.length - (i + 1)) _ _ (by omega) ⟨i + 1, _, rfl, rfl, by rw [List.length_append, List.length_singleton]; omega, hil, rfl, f2, by simp, by simp, by rw [← hout, List.append_assoc]; rfl, R2, hp2⟩
 ·have : i = l.length := by omega
  subst this
  rw [List.drop_length] at hout
  have : out = oQ (-1) l := by rw [← hout]; show out = out ++ []; rw [List.append_nil]
  subst this
  exact u3 R1 ⟨_, rfl, hk h1 f1⟩
end
theorem JB [Gh] (l : Nm) (hl : l.length ≤ 2 ^ 28) {h : aB} {Q : Value → aB → Prop} (hk : ∀ h', Fr (fun _ => False) h h' → Q (.string (bs (cF l))) h') : aD Tryz.prog nb #[.string (bs l)] h Q := by
 apply tU
 unfold ns
 refine zx Tryz.underlying194 Tryz.underlying98 Tryz.underlying5 l fun p c h1 f1 hp o1 hc => ⟨_, _, _, rfl, ?_⟩
 have R : Row 1 bV h1 p c l := ⟨by rw [wj]; exact o1, hc⟩
 have z1 := f1.size
 refine aH.go (fun n st h' => ∃ (i : Nat), st = (i : Int) ∧ i ≤ l.length ∧ n = l.length - i ∧ Fr (fun _ => False) h h' ∧ Row 1 bV h' p c (cF (l.take i) ++ l.drop i)) l.length ⟨0, rfl, by omega, rfl, f1, by simpa [cF] using R⟩ ?_
 rintro n - h2 ⟨i, rfl, hi, rfl, f2, R2⟩ Kn hK
 unfold jP
 refine ifD (fun e => ?_) fun e => ?_
 ·have hlt : i < l.length := by omega
  have ht := LL l i hi
  have hx := jJ l[i]
  obtain ⟨ad, had, ce⟩ := R2.cellsAt rF (by omega) i (by omega)
  rw [LD l i hlt] at ce
  have hnx : bA (fK l[i]) = bA l[i] → cF (l.take i) ++ l.drop i = cF (l.take (i + 1)) ++ l.drop (i + 1) := fun hb => by
   rw [← Jr l i hlt]
   have : fK l[i] = l[i] := ng hb
   rw [this]
   refine (List.ext_getElem (by rw [List.length_set]) fun j h1 h2 => ?_).symm
   rw [List.getElem_set]
   split
   ·rename_i hij; subst hij; exact (LD l i hlt _).symm
   ·rfl
  have hst := R2.setB (n := (i : Int)) i rfl ht.symm (by omega) (fK l[i]) (c := bA (fK l[i])) rfl (K := fun h3 => Kn (wrap .i64 ((i : Int) + 1)) h3) fun h3 f3 R3 => by
   rw [Jr l i hlt] at R3
   rw [wr (by omega) (by omega)]
   exact hK (l.length - (i + 1)) _ _ (by omega) ⟨i + 1, rfl, hlt, rfl, f2.tr f3 fun b hb hi => by have := hp b hi; omega, R3⟩
  rw [had] at hst ⊢
  have hno : bA (fK l[i]) = bA l[i] → Kn (wrap .i64 ((i : Int) + 1)) h2 := fun hb => by
   rw [wr (by omega) (by omega)]
   exact hK (l.length - (i + 1)) _ _ (by omega) ⟨i + 1, rfl, hlt, rfl, f2, by rw [← hnx hb]; exact R2⟩
  refine bQ i rfl hlt (aV ?_)
  refine aA (n := bA l[i]) (by rw [Int.toNat_natCast]; exact ce.at0 rfl) ?_
  have hlo := qN l[i]
  unfold xF at hlo
  refine ifD (fun e3 => ifD (fun e4 => ?_) fun e4 => ?_) fun e3 => ?_
  ·rw [if_pos ⟨e3, e4⟩] at hlo
   rw [wrb (x := bA l[i] + 97) (by omega) (by omega), wrb (by omega) (by omega), show bA l[i] + 97 - 65 = bA (fK l[i]) by omega]
   exact hst
  ·exact hno (by rw [hlo, if_neg (by omega)])
  ·exact hno (by rw [hlo, if_neg (by omega)])
 ·have hil : i = l.length := by omega
  subst hil
  rw [List.take_length, List.drop_length, List.append_nil] at R2
  have := u3 R2 (K := fun v h4 => ∃ t22 : ByteArray, v = .string t22 ∧ Q (.string t22) h4) ⟨_, rfl, hk h2 f2⟩
  rw [jR] at this; exact this
end Go.Proofs.YtjmfpeiidlpngaaGreatDoor.Au
namespace Go.Proofs.YtjmfpeiidlpngaaGreatDoor.Au
set_option linter.unusedSimpArgs false
set_option linter.unusedVariables false
set_option maxRecDepth 20000
open Go
open Go.IntKind (wrap)
def B5 (c : UInt8) (l : Nm) : Option Nat := l.findIdx? (· == c)
def Iu (c : UInt8) (l : Nm) : Int := match B5 c l with | some i => (i : Int) | none => -1
theorem FP (c : UInt8) (l : Nm) : (List.range l.length).find? (fun i => l.getD i 0 == c) = B5 c l := by
 unfold B5
 induction l with
 | nil => rfl
 | cons x l ih =>
  rw [List.length_cons, List.range_succ_eq_map, List.find?_cons, List.findIdx?_cons]
  by_cases hx : (x == c) = true
  ·simp [hx]
  ·have hx' : (x == c) = false := by simpa using hx
   simp only [List.getD_cons_zero, hx', List.find?_map, Bool.false_eq_true, if_false]
   rw [← ih]
   congr 1
theorem E7 (c : UInt8) (l : Nm) : firstIdx (bs l) c = Iu c l := by
 unfold firstIdx Iu
 have : (fun i => (bs l)[i]! == c) = (fun i => l.getD i 0 == c) := by
  funext i
  congr 1
  have e : (bs l)[i]! = l.toArray[i]! := by
   by_cases h : i < l.length
   ·have h1 : i < (bs l).size := by rw [aX]; exact h
    rw [getElem!_pos (bs l) i h1, getElem!_pos l.toArray i (by simpa using h)]; rfl
   ·have h1 : ¬ i < (bs l).size := by rw [aX]; exact h
    rw [getElem!_neg (bs l) i h1, getElem!_neg l.toArray i (by simpa using h)]
  rw [e]; simp [List.getD_eq_getElem?_getD]; rfl
 rw [this, aX, FP]
 cases B5 c l <;> rfl
theorem Gv [Gh] (l : Nm) (c : UInt8) {h : aB} {Q : Value → aB → Prop} (hk : Q (.int .i64 (Iu c l)) h) :
  aD Tryz.prog iB #[.string (bs l), .int .u8 (bA c)] h Q := by
 rintro w rfl hs
 rw [run_callFunc_extern (fn := Tryz.f190) (e := Extern.BytealgIndexByte.indexByte) rfl (by kernel_rfl) (by kernel_rfl) (by kernel_rfl) (by kernel_rfl), run_indexByte_string]
 simp only [Result.andThen]
 have : (bA c).toNat.toUInt8 = c := by
  unfold bA
  rw [Int.toNat_natCast]
  apply UInt8.toNat_inj.1
  rw [Nat.toUInt8, UInt8.toNat_ofNat']
  have := c.toNat_lt
  omega
 rw [this, E7]; exact ⟨hk, hs⟩
theorem Ac [Gh] (l : Nm) (c : UInt8) {h : aB} {Q : Value → aB → Prop} (hk : Q (.int .i64 (Iu c l)) h) : aD Tryz.prog jh #[.string (bs l), .int .u8 (bA c)] h Q := by
 apply wG
 unfold qs
 apply n7
 unfold jl
 exact Gv l c ⟨_, rfl, _, rfl, hk⟩
def zo : Nm := [65, 66, 67, 68, 69, 70, 71, 72, 73, 74, 75, 76, 77, 78, 79, 80, 81, 82, 83, 84, 85, 86, 87, 88, 89, 90, 97, 98, 99, 100, 101, 102, 103, 104, 105, 106, 107, 108, 109, 110, 111, 112, 113, 114, 115, 116, 117, 118, 119, 120, 121, 122, 48, 49, 50, 51, 52, 53, 54, 55, 56, 57, 43, 47]
def vj (c : UInt8) : Int := Iu c zo
theorem EU {p : UInt8 → Bool} (h : ((List.range 256).all fun n => p (UInt8.ofNat n)) = true) (c : UInt8) : p c = true := by
 have := List.all_eq_true.1 h c.toNat (List.mem_range.2 c.toNat_lt)
 rwa [UInt8.ofNat_toNat] at this
theorem Hf (c : UInt8) : -1 ≤ vj c ∧ vj c < 64 := of_decide_eq_true (EU (p := fun c => decide (-1 ≤ vj c ∧ vj c < 64)) (by decide +kernel) c)
def El (c : UInt8) : Nat → Int
 | 0 => -1
 | k + 1 => if zo.getD k 0 = c then k else El c k
theorem IM (c : UInt8) : El c 64 = vj c := of_decide_eq_true (EU (p := fun c => decide (El c 64 = vj c)) (by decide +kernel) c)
def oM (bits n : Nat) : Nm → Nm
 | [] => []
 | c :: r => if bA c = 61 then [] else if vj c < 0 then oM bits n r else
  if 2 ≤ n then mkB (((bits * 64 + (vj c).toNat) / 2 ^ (n - 2) : Nat) : Int) :: oM ((bits * 64 + (vj c).toNat) % 2 ^ (n - 2)) (n - 2) r else oM (bits * 64 + (vj c).toNat) (n + 6) r
theorem Nd (n b : Nat) (hn : n < 2 ^ 24) (hb : b < 64) :
  wrap .i64 (BitVec.toNat (BitVec.ofInt (IntKind.bits .i64) (wrap .i64 ((n : Int) * 2 ^ (min (Int.toNat (6 : Int)) (IntKind.bits .i64)))) ||| BitVec.ofInt (IntKind.bits .i64) (b : Int)) : Int) = ((n * 64 + b : Nat) : Int) := by
 have e1 : (2 : Int) ^ (min (Int.toNat (6 : Int)) (IntKind.bits .i64)) = 64 := rfl
 have e2 : (n : Int) * 64 = ((n * 64 : Nat) : Int) := by omega
 rw [e1, e2, wr (x := ((n * 64 : Nat) : Int)) (by omega) (by omega), BitVec.ofInt_natCast, BitVec.ofInt_natCast, BitVec.toNat_or, BitVec.toNat_ofNat, BitVec.toNat_ofNat]
 have e3 : n * 64 % 2 ^ (IntKind.bits .i64) = n * 64 := Nat.mod_eq_of_lt (by show _ < 2 ^ 64; omega)
 have e4 : b % 2 ^ (IntKind.bits .i64) = b := Nat.mod_eq_of_lt (by show _ < 2 ^ 64; omega)
 have e5 : (n * 64) ||| b = n * 64 + b := by
  have := Nat.two_pow_add_eq_or_of_lt (i := 6) (b := b) hb n
  rw [show 2 ^ 6 * n = n * 64 by omega] at this
  exact this.symm
 rw [e3, e4, e5, wr (by omega) (by omega)]
theorem IX (x k : Nat) (hx : x < 2 ^ 24) (hk : k ≤ 20) : wrap .i64 (BitVec.toNat (BitVec.ofInt (IntKind.bits .i64) (x : Int) &&& BitVec.ofInt (IntKind.bits .i64) (((2 ^ k - 1 : Nat)) : Int)) : Int) = ((x % 2 ^ k : Nat) : Int) := by
 have hp : 2 ^ k ≤ 2 ^ 20 := Nat.pow_le_pow_right (by omega) hk
 have hp0 : 0 < 2 ^ k := Nat.two_pow_pos k
 rw [BitVec.ofInt_natCast, BitVec.ofInt_natCast, BitVec.toNat_and, BitVec.toNat_ofNat, BitVec.toNat_ofNat]
 have e3 : x % 2 ^ (IntKind.bits .i64) = x := Nat.mod_eq_of_lt (by show _ < 2 ^ 64; omega)
 have e4 : (2 ^ k - 1) % 2 ^ (IntKind.bits .i64) = 2 ^ k - 1 := Nat.mod_eq_of_lt (by show _ < 2 ^ 64; omega)
 rw [e3, e4, Nat.and_two_pow_sub_one_eq_mod]
 have := Nat.mod_lt x hp0
 exact wr (by omega) (by omega)
theorem EY (x k : Nat) : Int.fdiv (x : Int) (((2 ^ k : Nat)) : Int) = ((x / 2 ^ k : Nat) : Int) := by
 rw [Int.fdiv_eq_ediv_of_nonneg _ (Int.natCast_nonneg _)]; exact (Int.natCast_ediv ..).symm
section
variable {h : aB} {Q : Value → aB → Prop}
theorem IJ [Gh] (l : Nm) (hl : l.length ≤ 2 ^ 28) (hk : ∀ h', Fr (fun _ => False) h h' → Q (.string (bs (oM 0 0 l))) h') : aD Tryz.prog mo #[.string (bs l)] h Q := by
 apply sR
 unfold nf
 rw [aX]
 refine aH.go (fun m st h' => ∃ (i bits n : Nat) (out : Nm), st.2.2.2.2.2 = (i : Int) ∧ st.2.2.2.1 = (bits : Int) ∧ st.2.2.2.2.1 = (n : Int) ∧ st.2.1 = out.length ∧ out.length ≤ i ∧ i ≤ l.length ∧ m = l.length - i ∧ (n = 0 ∨ n = 2 ∨ n = 4 ∨ n = 6) ∧ bits < 2 ^ n ∧ Fr (fun _ => False) h h' ∧ out ++ oM bits n (l.drop i) = oM 0 0 l ∧ Row 1 bV h' st.1 st.2.2.1 out ∧ (∀ b, InA st.1 b → h.size ≤ b)) l.length
  ⟨0, 0, 0, [], rfl, rfl, rfl, rfl, by simp, by omega, rfl, .inl rfl, by decide, Fr.refl _ _, rfl, Row.nil, fun b hb => (cU hb).elim⟩ ?_
 rintro m ⟨a, on, c, bt, nn', t⟩ h1 ⟨i, bits, n, out, e1, e2, e3, e4, hol, hi, rfl, hn, hbits, f1, hout, R1, ha⟩ Kn hK
 dsimp only at e1 e2 e3 e4 R1 ha
 subst e1 e2 e3 e4
 dsimp only
 unfold jx
 refine ifD (fun e => ?_) fun e => ?_
 ·have hil : i < l.length := by omega
  rw [List.drop_eq_getElem_cons hil, oM] at hout
  refine ixS l i rfl hil (ifE (fun e5 => ?_) fun e5 => ?_)
  ·rw [if_pos e5, List.append_nil] at hout
   subst hout
   exact u3 R1 ⟨_, rfl, hk h1 f1⟩
  rw [if_neg e5] at hout
  have hv := Hf l[i]
  refine ixS l i rfl hil ?_
  refine Ac zo l[i] ⟨vj l[i], rfl, ?_⟩
  rw [wr (x := (i : Int) + 1) (by omega) (by omega)]
  refine ifD (fun e6 => ?_) fun e6 => ?_
  ·rw [if_pos e6] at hout
   exact hK (l.length - (i + 1)) _ _ (by omega) ⟨i + 1, bits, n, out, rfl, rfl, rfl, rfl, by omega, hil, rfl, hn, hbits, f1, hout, R1, ha⟩
  rw [if_neg e6] at hout
  obtain ⟨v, hve⟩ : ∃ v : Nat, vj l[i] = v := ⟨(vj l[i]).toNat, by omega⟩
  rw [hve] at hout hv ⊢
  rw [Int.toNat_natCast] at hout
  have hb64 : bits < 64 := by rcases hn with rfl | rfl | rfl | rfl <;> simp at hbits <;> omega
  rw [Nd bits v (by omega) (by omega), wr (x := (n : Int) + 6) (by omega) (by omega)]
  generalize hX : bits * 64 + v = X at *
  refine ⟨by decide, ifD (fun e7 => ?_) fun e7 => ?_⟩
  ·have hn2 : 2 ≤ n := by omega
   rw [if_pos hn2] at hout
   rw [wr (x := (n : Int) + 6 - 8) (by omega) (by omega)]
   have eP : (2 : Int) ^ (min (Int.toNat ((n : Int) + 6 - 8)) (IntKind.bits .i64)) = ((2 ^ (n - 2) : Nat) : Int) := by
    rcases hn with rfl | rfl | rfl | rfl
    ·omega
    ·rfl
    ·rfl
    ·rfl
   have hP : 2 ^ (n - 2) ≤ 16 ∧ X / 2 ^ (n - 2) < 256 := by
    rcases hn with rfl | rfl | rfl | rfl
    ·omega
    ·simp at hbits ⊢; omega
    ·simp at hbits ⊢; omega
    ·simp at hbits ⊢; omega
   have hX2 : X < 4096 := by omega
   have hp0 : 0 < 2 ^ (n - 2) := Nat.two_pow_pos _
   have hand := IX X (n - 2) (by omega) (by omega)
   have hml := Nat.mod_lt X hp0
   have hfd := EY X (n - 2)
   rw [eP, hfd]
   generalize hBd : X / 2 ^ (n - 2) = B at *
   generalize hMd : X % 2 ^ (n - 2) = M at *
   have hbn : M < 2 ^ (n - 2) := hml
   generalize hPd : 2 ^ (n - 2) = P at *
   rw [wrb (by omega) (by omega)]
   refine ⟨by omega, B8 R1 ha f1 (by omega) (mkB ((B : Nat) : Int)) (tA (by omega) (by omega)) fun p' c' h2 R2 f2 hp2 => ⟨_, _, _, rfl, by omega, ?_⟩⟩
   rw [Int.one_mul, wr (x := ((P : Nat) : Int)) (by omega) (by omega)]
   rw [show ((P : Nat) : Int) - 1 = ((P - 1 : Nat) : Int) by omega, wr (x := ((P - 1 : Nat) : Int)) (by omega) (by omega), hand]
   refine hK (l.length - (i + 1)) _ _ (by omega) ⟨i + 1, M, n - 2, _, rfl, rfl, ?_, rfl, by rw [List.length_append, List.length_singleton]; omega, hil, rfl, by omega, by rw [hPd]; exact hbn, f2, by rw [← hout, List.append_assoc]; rfl, R2, hp2⟩
   dsimp only; omega
  ·have hn0 : n = 0 := by omega
   subst hn0
   rw [if_neg (by omega)] at hout
   refine hK (l.length - (i + 1)) _ _ (by omega) ⟨i + 1, X, 6, out, rfl, rfl, rfl, rfl, by omega, hil, rfl, .inr (.inr (.inr rfl)), ?_, f1, hout, R1, ha⟩
   simp at hbits ⊢; omega
 ·have : i = l.length := by omega
  subst this
  rw [List.drop_length] at hout
  have : out = oM 0 0 l := by rw [← hout]; show out = out ++ []; rw [List.append_nil]
  subst this
  exact u3 R1 ⟨_, rfl, hk h1 f1⟩
theorem HA [Gh] (l : Nm) (hl : l.length ≤ 2 ^ 28) (hk : ∀ h', Fr (fun _ => False) h h' → Q (.string (bs (oM 0 0 l))) h') : aD Tryz.prog qj #[.string (bs l)] h Q := by
 apply BK
 unfold wb
 refine aU (vs := []) fun t5 h0 f0 e0 o0 => ?_
 have z0 := f0.size
 have R0 : Row 1 bV h0 (some t5) 0 [] := Row.of_own (L := []) rF o0
 refine aH.go (fun m st h' => ∃ (i bits n : Nat) (out : Nm), st.2.2.2.2.2 = (i : Int) ∧ st.2.2.2.1 = (bits : Int) ∧ st.2.2.2.2.1 = (n : Int) ∧ st.2.1 = out.length ∧ out.length ≤ i ∧ i ≤ l.length ∧ m = l.length - i ∧ (n = 0 ∨ n = 2 ∨ n = 4 ∨ n = 6) ∧ bits < 2 ^ n ∧ Fr (fun _ => False) h h' ∧ out ++ oM bits n (l.drop i) = oM 0 0 l ∧ Row 1 bV h' st.1 st.2.2.1 out ∧ (∀ b, InA st.1 b → h.size ≤ b)) l.length
  ⟨0, 0, 0, [], rfl, rfl, rfl, rfl, by simp, by omega, rfl, .inl rfl, by decide, f0, rfl, R0, fun b hb => by obtain ⟨ad, h1, h2⟩ := hb; cases h1; omega⟩ ?_
 rintro m ⟨a, on, c, bt, nn', t⟩ h1 ⟨i, bits, n, out, e1, e2, e3, e4, hol, hi, rfl, hn, hbits, f1, hout, R1, ha⟩ Kn hK
 dsimp only at e1 e2 e3 e4 R1 ha
 subst e1 e2 e3 e4
 dsimp only
 unfold qe
 rw [aX]
 refine ifD (fun e => ?_) fun e => ?_
 ·have hil : i < l.length := by omega
  rw [List.drop_eq_getElem_cons hil, oM] at hout
  refine ixS l i rfl hil (lu (fun e5 => ?_) fun e5 => ?_)
  ·rw [if_neg e5] at hout
   have hv := Hf l[i]
   refine aH.go (fun m st h' => ∃ k : Nat, st.2 = (k : Int) ∧ st.1 = El l[i] k ∧ k ≤ 64 ∧ m = 64 - k ∧ h' = h1) 64 ⟨0, rfl, rfl, by omega, rfl, rfl⟩ ?_
   rintro m ⟨v, k'⟩ h2 ⟨k, e6, e7, hk', rfl, rfl⟩ Kn2 hK2
   dsimp only at e6 e7
   subst e6 e7
   dsimp only
   unfold pZ
   refine ifD (fun e8 => ?_) fun e8 => ?_
   ·have hkl : k < 64 := by omega
    refine ixS zo k rfl hkl (ixS l i rfl hil ?_)
    rw [wr (x := (k : Int) + 1) (by omega) (by omega)]
    have hg : zo.getD k 0 = zo[k]'hkl := by rw [List.getD_eq_getElem?_getD, List.getElem?_eq_getElem hkl]; rfl
    refine ifE (fun e9 => ?_) fun e9 => ?_
    ·refine hK2 (64 - (k + 1)) _ _ (by omega) ⟨k + 1, rfl, ?_, hkl, rfl, rfl⟩
     show (k : Int) = (if _ then _ else _)
     rw [hg, if_pos (ng e9)]
    ·refine hK2 (64 - (k + 1)) _ _ (by omega) ⟨k + 1, rfl, ?_, hkl, rfl, rfl⟩
     show El l[i] k = (if _ then _ else _)
     rw [hg, if_neg (fun h => e9 (by rw [h]))]
   ·have : k = 64 := by omega
    subst this
    rw [IM]
    unfold qb
    rw [wr (x := (i : Int) + 1) (by omega) (by omega)]
    refine ifD (fun e6 => ?_) fun e6 => ?_
    ·rw [if_pos e6] at hout
     exact hK (l.length - (i + 1)) _ _ (by omega) ⟨i + 1, bits, n, out, rfl, rfl, rfl, rfl, by omega, hil, rfl, hn, hbits, f1, hout, R1, ha⟩
    rw [if_neg e6] at hout
    obtain ⟨v, hve⟩ : ∃ v : Nat, vj l[i] = v := ⟨(vj l[i]).toNat, by omega⟩
    rw [hve] at hout hv ⊢
    rw [Int.toNat_natCast] at hout
    have hb64 : bits < 64 := by rcases hn with rfl | rfl | rfl | rfl <;> simp at hbits <;> omega
    rw [wr (x := (bits : Int) * 64) (by omega) (by omega), wr (x := (bits : Int) * 64 + (v : Int)) (by omega) (by omega), wr (x := (n : Int) + 6) (by omega) (by omega), show (bits : Int) * 64 + (v : Int) = ((bits * 64 + v : Nat) : Int) by omega]
    generalize hX : bits * 64 + v = X at *
    refine ifD (fun e7 => ?_) fun e7 => ?_
    ·have hn2 : 2 ≤ n := by omega
     rw [if_pos hn2] at hout
     rw [wr (x := (n : Int) + 6 - 8) (by omega) (by omega)]
     have eP : (2 : Int) ^ (min (Int.toNat ((n : Int) + 6 - 8)) (IntKind.bits .i64)) = ((2 ^ (n - 2) : Nat) : Int) := by
      rcases hn with rfl | rfl | rfl | rfl
      ·omega
      ·rfl
      ·rfl
      ·rfl
     have hP : 2 ^ (n - 2) ≤ 16 ∧ X / 2 ^ (n - 2) < 256 := by
      rcases hn with rfl | rfl | rfl | rfl
      ·omega
      ·simp at hbits ⊢; omega
      ·simp at hbits ⊢; omega
      ·simp at hbits ⊢; omega
     have hX2 : X < 4096 := by omega
     have hp0 : 0 < 2 ^ (n - 2) := Nat.two_pow_pos _
     have hml := Nat.mod_lt X hp0
     have em : Int.tmod (X : Int) ((2 ^ (n - 2) : Nat) : Int) = ((X % 2 ^ (n - 2) : Nat) : Int) := by
      rw [Int.tmod_eq_emod_of_nonneg (by omega)]; exact (Int.natCast_emod ..).symm
     have hfd := EY X (n - 2)
     rw [eP, hfd]
     generalize hBd : X / 2 ^ (n - 2) = B at *
     generalize hMd : X % 2 ^ (n - 2) = M at *
     have hbn : M < 2 ^ (n - 2) := hml
     generalize hPd : 2 ^ (n - 2) = P at *
     rw [wrb (by omega) (by omega)]
     refine ⟨by omega, B8 R1 ha f1 (by omega) (mkB ((B : Nat) : Int)) (tA (by omega) (by omega)) fun p' c' h2 R2 f2 hp2 => ⟨_, _, _, rfl, by omega, ?_⟩⟩
     rw [Int.one_mul, wr (x := ((P : Nat) : Int)) (by omega) (by omega)]
     refine ⟨by omega, ?_⟩
     rw [em]
     refine hK (l.length - (i + 1)) _ _ (by omega) ⟨i + 1, M, n - 2, _, rfl, rfl, ?_, rfl, by rw [List.length_append, List.length_singleton]; omega, hil, rfl, by omega, by rw [hPd]; exact hbn, f2, by rw [← hout, List.append_assoc]; rfl, R2, hp2⟩
     dsimp only; omega
    ·have hn0 : n = 0 := by omega
     subst hn0
     rw [if_neg (by omega)] at hout
     refine hK (l.length - (i + 1)) _ _ (by omega) ⟨i + 1, X, 6, out, rfl, rfl, rfl, rfl, by omega, hil, rfl, .inr (.inr (.inr rfl)), ?_, f1, hout, R1, ha⟩
     simp at hbits ⊢; omega
  ·rw [if_pos e5, List.append_nil] at hout
   subst hout
   exact u3 R1 ⟨_, rfl, hk h1 f1⟩
 ·have : i = l.length := by omega
  subst this
  rw [List.drop_length] at hout
  have : out = oM 0 0 l := by rw [← hout]; show out = out ++ []; rw [List.append_nil]
  subst this
  exact u3 R1 ⟨_, rfl, hk h1 f1⟩
end
end Go.Proofs.YtjmfpeiidlpngaaGreatDoor.Au
namespace Go.Proofs
open Go.Shelf
shelf_lay Lays.n221 Nm 221 at Tryz as Tryz.lays221
shelf_lay Lays.n156 Nm 156 at Tryz as Tryz.lays156
theorem Tryz.extra156 : Builder.Extra Tryz.prog Tryz.lays156_ren where
 sizeBuilder := by kernel_rfl
 liesBuilder := by kernel_rfl
 t5 := Tryz.underlying5
 a5 := Tryz.isAgg5
 z5 := Tryz.sizeOf5
 v5 := Tryz.zeroValue5
 infoByte := by kernel_rfl
 cellsByte := by kernel_rfl
 sizeByte := by kernel_rfl
 neB5 := by decide
end Go.Proofs
namespace Go.Proofs.YtjmfpeiidlpngaaGreatDoor.Au
set_option linter.unusedSimpArgs false
set_option linter.unusedVariables false
set_option maxRecDepth 20000
open Go Go.RowKit
open Go.IntKind (wrap)
def aF : Nm → List Nm
 | [] => [[]]
 | c :: l => if c = 47 then [] :: aF l else match aF l with
  | [] => [[c]]
  | x :: xs => (c :: x) :: xs
theorem gA : ∀ l, aF l ≠ []
 | [] => by unfold aF; simp
 | c :: l => by
  unfold aF; split
  ·simp
  ·split <;> simp
theorem AV (b c : UInt8) (l : Nm) : Lib.index (b :: l) [c] = if b = c then 0 else if Lib.index l [c] = -1 then -1 else Lib.index l [c] + 1 := by
 rw [Lib.index_one, Lib.index_one]
 show (if _ then _ else _) = _
 unfold Lib.indexByte
 first
  | rfl
  | (by_cases h : b = c <;> simp [h])
theorem CO : ∀ (l : Nm), Lib.splitK [47] 0 (l.count 47) l = aF l
 | [] => rfl
 | c :: l => by
  have ih := CO l
  unfold aF
  by_cases h : c = 47
  ·subst h
   rw [if_pos rfl, List.count_cons_self, ← ih]
   show (if _ then _ else _) = _
   have e : Lib.index (47 :: l) [47] = 0 := by rw [AV, if_pos rfl]
   rw [if_neg (by rw [e]; decide), e]
   rfl
  ·rw [if_neg h, List.count_cons_of_ne (by simpa using h), ← ih]
   cases hk : l.count 47 with
   | zero => rfl
   | succ k =>
    unfold Lib.splitK
    have e := AV c 47 l
    rw [if_neg h] at e
    have hge := Lib.index_ge l [47]
    by_cases hm : Lib.index l [47] = -1
    ·rw [if_pos hm] at e
     rw [if_pos (by rw [e]; rfl), if_pos (by rw [hm]; rfl)]
    ·rw [if_neg hm] at e
     obtain ⟨j, hj⟩ : ∃ j : Nat, Lib.index l [47] = j := ⟨(Lib.index l [47]).toNat, by omega⟩
     rw [if_neg (by rw [e, hj, beq_iff_eq]; omega), if_neg (by rw [hj, beq_iff_eq]; omega), e, hj]
     have e1 : (((j : Int) + 1).toNat + 0) = j + 1 := by omega
     have e2 : (((j : Int) + 1).toNat + ([47] : Nm).length) = (j + 1) + 1 := by simp
     have e3 : ((j : Int).toNat + 0) = j := by omega
     have e4 : ((j : Int).toNat + ([47] : Nm).length) = j + 1 := by simp
     rw [e1, e2, e3, e4]
     rfl
def ve (s : Nm) : List Value := [.string (bs s)]
theorem jS (s : Nm) : (ve s).length = 1 := rfl
theorem Fc [Gh] {P : Program} {f : FuncId} {args : Array Value} {h : aB} {v : Value} {o : Obj} (hc : ∀ args w, (callFunc f args).run P w = .ok (.enter f args) w)
  (hs : ∀ w : World, w.heap = h → Calls P f args w fun e w' => e = .returned v ∧ w' = w.alloc o) {K : Value → aB → Prop} (hk : K v (h.push o)) : aD P f args h K := by
 intro w hw hsm
 rw [hc]
 simp only
 refine (hs w hw).mono ?_
 rintro e w' ⟨rfl, rfl⟩
 refine ⟨_, rfl, ?_, ⟨hsm.1, hsm.2.1, hsm.2.2⟩⟩
 have : (w.alloc o).heap = h.push o := by rw [← hw]; rfl
 rw [this]; exact hk
theorem JN (l : Nm) : l.count 47 ≤ l.length := List.count_le_length
theorem KQ [Gh] (l : Nm) (hl : l.length ≤ 2 ^ 30) {h : aB} {Q : Value → aB → Prop}
  (hk : ∀ p cap h', Fr (fun _ => False) h h' → Row 1 ve h' p cap (aF l) → (∀ b, InA p b → h.size ≤ b) → Q (.slice p (aF l).length cap) h') :
  aD Tryz.prog oZ #[.string (bs l), .string (⟨#[47]⟩ : ByteArray)] h Q := by
 apply Ap
 unfold uG
 have hcb : Lib.countB (bs l) ⟨#[47]⟩ = l.count 47 := by
  show Lib.count (bs l).data.toList [47] = _
  rw [x6, Lib.count_one]
 have hcl := JN l
 have hlen := Lib.splitB_all (⟨#[47]⟩ : ByteArray) (by decide) 0 (l.count 47) (bs l) hcb
 have hdata := Lib.splitB_data (⟨#[47]⟩ : ByteArray) 0 (l.count 47) (bs l)
 have e47 : (⟨#[47]⟩ : ByteArray).data.toList = [47] := rfl
 rw [x6, e47, CO] at hdata
 have hbs : Lib.splitB (⟨#[47]⟩ : ByteArray) 0 (l.count 47) (bs l) = (aF l).map bs := by
  rw [← hdata, List.map_map]
  conv => lhs; rw [← List.map_id (Lib.splitB (⟨#[47]⟩ : ByteArray) 0 (l.count 47) (bs l))]
  apply List.map_congr_left
  intro x _
  show x = bs x.data.toList
  simp [bs]
 have hl2 : (aF l).length = l.count 47 + 1 := by rw [← hlen, hbs, List.length_map]
 refine Fc (v := .slice (some ⟨h.size, 0, none⟩) (aF l).length (aF l).length) (o := .cells ((aF l).flatMap ve).toArray bW) (fun _ _ => rfl) (fun w hw => ?_) ?_
 ·have c := Any.strings_genSplit_core Tryz.lays221 (by kernel_rfl) (bs l) (⟨#[47]⟩ : ByteArray) 0 (-1) (l.count 47 + 1) w (by rw [aX]; omega) (by decide) (Nat.zero_le _)
   (fun x c hx => (Any.strings_Index_one { Tryz.lays221 with } x 47 _).mono fun e w' ⟨h1, h2⟩ => ⟨by rw [h1]; show _ = Ending.returned (.int .i64 (Lib.index x.data.toList [47])); rw [Lib.index_one], h2⟩)
   ((Any.strings_Count_one { Tryz.lays221 with } (bs l) 47 w).mono fun e w' ⟨h1, h2⟩ => ⟨by rw [h1, hcb, x6]; rfl, h2⟩)
   (by decide) (by decide) (by rw [hcb, if_pos (by decide), aX]; omega)
  rw [Nat.add_sub_cancel, hbs, List.length_map, hw] at c
  refine c.mono fun e w' ⟨h1, h2⟩ => ⟨by rw [h1, ← hl2], ?_⟩
  rw [h2, ← hl2]
  have := Lib.cellsOf_full ((aF l).map bs)
  rw [List.length_map] at this
  rw [this]
  have e : ((aF l).map bs).map Value.string = (aF l).flatMap ve := by
   generalize aF l = m
   induction m with
   | nil => rfl
   | cons a m ih => rw [List.map_cons, List.map_cons, List.flatMap_cons, ih]; rfl
  rw [e]
  rfl
 ·refine ⟨_, _, _, rfl, ?_⟩
  have o : Own (h.push (.cells ((aF l).flatMap ve).toArray bW)) ⟨h.size, 0, none⟩ ((aF l).flatMap ve) bW := ⟨rfl, rfl, dN⟩
  refine hk _ _ _ (Fr.push _ _ _) (Row.of_own jS o) fun b hb => ?_
  obtain ⟨ad, h1, rfl⟩ := hb
  cases h1; exact Nat.le_refl _
theorem EB [Gh] {P : Program} {f : FuncId} {args : Array Value} {h : aB} {v : Value} {B : Nat} {R : World → Prop} (hc : ∀ args w, (callFunc f args).run P w = .ok (.enter f args) w)
  (hs : ∀ w : World, w.heap = h → Calls P f args w fun e w' => e = .returned v ∧ Below B w w' ∧ R w') {K : Value → aB → Prop} (hk : ∀ w', Fr (fun x => B ≤ x) h w'.heap → R w' → K v w'.heap) : aD P f args h K := by
 intro w hw hsm
 rw [hc]
 simp only
 refine (hs w hw).mono ?_
 rintro e w' ⟨rfl, hb, hr⟩
 subst hw
 exact ⟨_, rfl, hk w' ⟨hb.size, fun b _ hn => hb.block b (Nat.lt_of_not_le hn)⟩ hr, hb.os.trans hsm.1, hb.tape.trans hsm.2.1, hb.output.trans hsm.2.2⟩
theorem K7 [Gh] (l : Nm) {h : aB} {Q : Value → aB → Prop} (hk : Q (.bool (decide (l.take 1 = [47]))) h) : aD Tryz.prog eO #[.string (bs l), .string (⟨#[47]⟩ : ByteArray)] h Q := by
 apply nY
 unfold jd
 have e1 : (((⟨#[47]⟩ : ByteArray).size : Nat) : Int) = ((1 : Nat) : Int) := rfl
 rw [e1, aX]
 refine ifD (fun e => ?_) fun e => ?_
 ·refine slT l 1 rfl (by omega) ?_
  have e2 : (⟨#[47]⟩ : ByteArray) = bs [47] := rfl
  rw [e2, jO, jO]
  refine Qeq hk ?_
  congr 1
  rw [Bool.eq_iff_iff, decide_eq_true_iff, beq_iff_eq]
 ·have : l = [] := List.length_eq_zero_iff.1 (by omega)
  subst this
  exact hk
theorem Et [Gh] (l : Nm) {h : aB} {Q : Value → aB → Prop} (hk : Q (.bool (decide (l.take 1 = [47]))) h) : aD Tryz.prog lJ #[.string (bs l), .string (⟨#[47]⟩ : ByteArray)] h Q := by
 apply wL
 unfold qp
 exact K7 l ⟨_, rfl, hk⟩
theorem LN [Gh] {h : aB} {p : Option Addr} {c : Nat} {ts : List Nm} (R : Row 1 ve h p c ts) (h0 : ts ≠ []) (hl : ts.length ≤ 2 ^ 30) (hj : (Lib.join ts [47]).length ≤ 2 ^ 40) {Q : Value → aB → Prop} (hk : ∀ h', Fr (fun _ => False) h h' → Q (.string (bs (Lib.join ts [47]))) h') :
  aD Tryz.prog mH #[.slice p ts.length c, .string (⟨#[47]⟩ : ByteArray)] h Q := by
 obtain ⟨ad, hp, _⟩ := R.cellsAt jS (by omega) 0 (List.length_pos_iff.2 h0)
 subst hp
 have o := R.own
 obtain ⟨b, off, sp⟩ := ad
 obtain ⟨h1, h2, _⟩ := o
 simp only at h1 h2
 subst h1 h2
 have hlt : b < h.size := R.lt ⟨_, rfl, rfl⟩
 have hd : (ts.map bs).map (fun x : ByteArray => x.data.toList) = ts := by
  rw [List.map_map]
  conv => rhs; rw [← List.map_id ts]
  exact List.map_congr_left fun x _ => x6 x
 have e47 : (⟨#[47]⟩ : ByteArray).data.toList = [47] := rfl
 have hlen : (ts.map bs).length = ts.length := List.length_map ..
 refine EB (R := fun _ => True) (B := h.size) (v := .string (bs (Lib.join ts [47]))) (fun _ _ => rfl) (fun w hw => ?_) fun w' f _ => hk _ (f.mono' fun b hb h => by omega)
 have := Any.strings_Join Tryz.lays156 Tryz.extra156 b 0 c (ts.map bs) (⟨#[47]⟩ : ByteArray) w (fun j x hx => by
  rw [List.getElem?_map, Option.map_eq_some_iff] at hx
  obtain ⟨y, hy, rfl⟩ := hx
  obtain ⟨hjl, rfl⟩ := List.getElem?_eq_some_iff.1 hy
  obtain ⟨ad, he, cc⟩ := R.cellsAt jS (by omega) j hjl
  cases he
  have c0 : aY h (Addr.add ⟨b, 0, none⟩ (j * 1)) [.string (bs ts[j])] := cc
  have := c0.at0 rfl
  rw [gN, Nat.mul_one] at this
  show hcell w.heap ⟨b, 0 + j, none⟩ = _
  rw [hw]; exact this) (by rw [hw]; exact hlt) (by rw [hlen]; omega) (by rw [hlen]; exact R.le) (by rw [hd, e47]; exact Nat.le_trans hj (by decide))
 rw [hlen, hd, e47] at this
 exact this.mono fun e w' ⟨h1, h2⟩ => ⟨h1, by rw [hw] at h2; exact h2, trivial⟩
end Go.Proofs.YtjmfpeiidlpngaaGreatDoor.Au
namespace Go.Proofs.YtjmfpeiidlpngaaGreatDoor.Au
set_option linter.unusedSimpArgs false
set_option linter.unusedVariables false
set_option maxRecDepth 20000
open Go
open Go.IntKind (wrap)
def mE (kept : List Nm) (s : Nm) : List Nm := if s = [] ∨ s = [46] then kept else if s = [46, 46] then kept.dropLast else kept ++ [s]
def bJ (ss : List Nm) : List Nm := ss.foldl mE []
def jq (s : Nm) : Bool := decide (s = []) || decide (s = [46]) || decide (s = [46, 46])
def tG (p : Nm) : Nm :=
 if bJ (aF p) = [] then [47] else
  (if p.take 1 = [47] then [47] else []) ++ Lib.join (bJ (aF p)) [47] ++ (if jq ((aF p).getLast (gA p)) = true then [47] else [])
def jL (l : Nm) : Nat := (B5 63 l).getD l.length
def zX (l : Nm) : Nm := tG (l.take (jL l)) ++ l.drop (jL l)
theorem D6 (l : Nm) : jL l ≤ l.length := by
 unfold jL
 cases h : B5 63 l with
 | none => exact Nat.le_refl _
 | some i =>
  unfold B5 at h
  rw [List.findIdx?_eq_some_iff_getElem] at h
  exact Nat.le_of_lt h.1
theorem _root_.Go.Proofs.YtjmfpeiidlpngaaGreatDoor.Row.pre {α : Type} {sz : Nat} {vals : α → List Value} {h : aB} {p : Option Addr} {cap : Nat} {L : List α} (R : Row sz vals h p cap L) (hv : ∀ x, (vals x).length = sz) (k : Nat) (hk : k ≤ L.length) : Row sz vals h p cap (L.take k) := by
 refine ⟨?_, by rw [List.length_take]; have := R.le; omega⟩
 have o := R.own
 cases p with
 | none =>
  have h1 := o.1
  rw [List.flatMap_eq_nil_iff] at h1
  exact ⟨List.flatMap_eq_nil_iff.2 fun x hx => h1 x (List.mem_of_mem_take hx), o.2⟩
 | some ad =>
  obtain ⟨h1, h2, ds, t, fr, hfr, hg, hc, hl, hcs⟩ := o
  have e : (L.take k).flatMap vals = (L.flatMap vals).take (k * sz) := by
   conv => rhs; rw [← List.take_append_drop k L, List.flatMap_append]
   rw [List.take_left' (by rw [mq hv, List.length_take, Nat.min_eq_left hk])]
  rw [e]
  refine ⟨h1, h2, ds, t, fr, hfr, hg, hc, by rw [List.length_take]; omega, fun i hi => ?_⟩
  rw [List.length_take] at hi
  rw [List.getElem_take]; exact hcs i (by omega)
theorem Mc : gU Tryz.prog eJ bW Tryz.t9 (.string (bs [])) := ⟨Tryz.underlying28, by kernel_rfl, by kernel_rfl, by kernel_rfl, by decide⟩
theorem Cv (sep : Nm) (r : List Nm) (x : Nm) : Lib.joinTail sep (r ++ [x]) = Lib.joinTail sep r ++ sep ++ x := by
 unfold Lib.joinTail
 rw [List.map_append, List.flatten_append]
 simp
theorem HK (ts : List Nm) (x : Nm) : Lib.join (ts ++ [x]) [47] = if ts = [] then x else Lib.join ts [47] ++ [47] ++ x := by
 cases ts with
 | nil => rw [if_pos rfl]; exact Lib.join_one x [47]
 | cons a r => rw [if_neg (by simp), List.cons_append, Lib.join_cons, Lib.join_cons, Cv]; simp
def bX (ts : List Nm) : Nat := (ts.map (fun t => t.length + 1)).sum
theorem wa (ts : List Nm) (x : Nm) : bX (ts ++ [x]) = bX ts + x.length + 1 := by unfold bX; simp; omega
theorem zE (ts : List Nm) : bX ts.dropLast ≤ bX ts := by
 rcases List.eq_nil_or_concat ts with h | ⟨a, b, h⟩
 ·subst h; exact Nat.le_refl _
 ·rw [List.concat_eq_append] at h
  subst h
  rw [List.dropLast_concat, wa]; omega
theorem CD (k : List Nm) (s : Nm) : bX (mE k s) ≤ bX k + s.length + 1 := by
 unfold mE
 split
 ·omega
 ·split
  ·have := zE k; omega
  ·rw [wa]; omega
theorem yQ (ts : List Nm) : (Lib.join ts [47]).length ≤ bX ts := by
 cases ts with
 | nil => rw [Lib.join_nil]; exact Nat.zero_le _
 | cons a r =>
  rw [Lib.join_cons]
  unfold Lib.joinTail bX
  rw [List.length_append, List.length_flatten, List.map_map, List.map_cons, List.sum_cons]
  have : (r.map (List.length ∘ fun x => [47] ++ x)).sum = (r.map fun t => t.length + 1).sum := by
   have hf : (List.length ∘ fun x : Nm => [47] ++ x) = fun t => t.length + 1 := by funext x; show ([47] ++ x : Nm).length = _; simp
   rw [hf]
  rw [this]; omega
theorem sY : ∀ l : Nm, bX (aF l) ≤ l.length + 1
 | [] => by unfold aF bX; simp
 | c :: l => by
  have ih := sY l
  have hne := gA l
  unfold aF
  split
  ·unfold bX at ih ⊢; simp at ih ⊢; omega
  ·cases h : aF l with
   | nil => exact absurd h hne
   | cons x xs => rw [h] at ih; unfold bX at ih ⊢; simp at ih ⊢; omega
theorem rx : ∀ (ss : List Nm) (k : List Nm), bX (ss.foldl mE k) ≤ bX k + bX ss
 | [], k => by simp [bX]
 | s :: ss, k => by
  have h1 := rx ss (mE k s)
  have h2 := CD k s
  rw [List.foldl_cons]
  have : bX (s :: ss) = s.length + 1 + bX ss := by unfold bX; simp
  omega
theorem xS (ts : List Nm) : ts.length ≤ bX ts := by
 unfold bX
 induction ts with
 | nil => simp
 | cons a r ih => rw [List.length_cons, List.map_cons, List.sum_cons]; omega
theorem G0 : ∀ (ss : List Nm) (k : List Nm), (∀ x ∈ k, x ≠ []) → ∀ x ∈ ss.foldl mE k, x ≠ []
 | [], k, h => h
 | s :: ss, k, h => by
  rw [List.foldl_cons]
  refine G0 ss (mE k s) fun x hx => ?_
  unfold mE at hx
  split at hx
  ·exact h x hx
  ·split at hx
   ·exact h x (List.dropLast_subset _ hx)
   ·rename_i h1 h2
    rcases List.mem_append.1 hx with hx | hx
    ·exact h x hx
    ·rw [List.mem_singleton.1 hx]; exact fun e => h1 (.inl e)
theorem GE (ss : List Nm) (h : bJ ss ≠ []) : Lib.join (bJ ss) [47] ≠ [] := by
 have hk := G0 ss [] (by simp)
 unfold bJ at *
 cases hh : ss.foldl mE [] with
 | nil => exact absurd hh h
 | cons a r =>
  rw [hh] at hk
  rw [Lib.join_cons]
  intro e
  exact hk a List.mem_cons_self (List.append_eq_nil_iff.1 e).1
theorem vv (ss : List Nm) (i : Nat) (hi : i < ss.length) : bJ (ss.take (i + 1)) = mE (bJ (ss.take i)) ss[i] := by
 unfold bJ
 rw [show ss.take (i + 1) = ss.take i ++ [ss[i]] by rw [List.take_append_getElem], List.foldl_append]; rfl
section
variable {h : aB} {Q : Value → aB → Prop}
theorem IC [Gh] {h0 h : aB} {p : Option Addr} {cap : Nat} {L : List Nm} (R : Row 1 ve h p cap L) (hp : ∀ x, InA p x → h0.size ≤ x) (f : Fr (fun _ => False) h0 h) (hl : L.length ≤ 2 ^ 29) (b : Nm) {K : Value → aB → Prop}
  (hk : ∀ p' cap' h', Row 1 ve h' p' cap' (L ++ [b]) → Fr (fun _ => False) h0 h' → (∀ x, InA p' x → h0.size ≤ x) → K (.slice p' (L ++ [b]).length cap') h') :
  alV h (.cells #[.string (bs b)] bW) fun t h2 => cQ Tryz.prog .append #[eJ, eJ] eJ #[false, false] #[.slice p L.length cap, .slice (some t) 1 1] h2 K := by
 refine aU (vs := ve b) fun t h2 f2 e2 o2 => ?_
 have z := f.size
 have z2 := f2.size
 refine (R.fr0 f2).app Mc Tryz.underlying28 (by intro k e; cases e) (by kernel_rfl) (by decide +kernel) jS (fun _ => rfl) o2 1 hl fun p' c' h3 R3 f3 hn3 => ?_
 refine hk p' c' h3 R3 ((f.trans f2).tr f3 fun x hx hh => by have := hp x hh; omega) fun x hx => ?_
 rcases hn3 x hx with h | h
 ·exact hp x h
 ·omega
theorem Kv [Gh] {p : Option Addr} {c : Nat} (hk : Q (.string (bs [])) h) : aD Tryz.prog mH #[.slice p 0 c, .string (⟨#[47]⟩ : ByteArray)] h Q := by
 apply BP
 unfold vO
 rw [if_pos (by decide)]; exact hk
theorem sB : IntKind.max .i64 = 9223372036854775807 := by decide
theorem GS [Gh] (q : Nm) (l : Nm) (hl : l.length ≤ 2 ^ 28) (hq : q.length ≤ 2 ^ 28) (hk : ∀ h', Fr (fun _ => False) h h' → Q (.string (bs (tG l ++ q))) h') : fA (bs l) (bs q) Q h := by
 unfold fA
 refine KQ l (by omega) fun sp sc h1 f1 Rs hsp => ⟨_, _, _, rfl, ?_⟩
 have hne := gA l
 have hsa := sY l
 have hsl := xS (aF l)
 refine aH.go (fun n st h' => ∃ (i : Nat), st.2.2.2 = (i : Int) ∧ st.2.1 = (bJ ((aF l).take i)).length ∧ i ≤ (aF l).length ∧ n = (aF l).length - i ∧ Fr (fun _ => False) h1 h' ∧ Row 1 ve h' st.1 st.2.2.1 (bJ ((aF l).take i)) ∧ (∀ b, InA st.1 b → h1.size ≤ b)) (aF l).length
  ⟨0, rfl, rfl, Nat.zero_le _, rfl, Fr.refl _ _, Row.nil, fun b hb => (cU hb).elim⟩ ?_
 rintro n ⟨a, m, c, t⟩ h2 ⟨i, e1, e2, hi, rfl, f2, R2, ha⟩ Kn hK
 dsimp only at e1 e2 R2 ha
 subst e1 e2
 dsimp only
 unfold j9
 have hfa := rx ((aF l).take i) []
 have hkl : (bJ ((aF l).take i)).length ≤ 2 ^ 29 := by
  have h1 := xS (bJ ((aF l).take i))
  have h2 : bX ((aF l).take i) ≤ bX (aF l) := by
   conv => rhs; rw [← List.take_append_drop i (aF l)]
   unfold bX; rw [List.map_append, List.sum_append]; omega
  have h3 : bX [] = 0 := rfl
  unfold bJ at *
  omega
 refine ifD (fun e => ?_) fun e => ?_
 ·have hil : i < (aF l).length := by omega
  have hst := vv (aF l) i hil
  refine (Rs.fr0 f2).idx jS (by decide) i rfl hil fun ad ci => ?_
  rw [Int.toNat_natCast]
  refine aT (ci.at0 rfl) ?_
  have go : ∀ (p' : Option Addr) (c' : Nat) (h3 : aB), Row 1 ve h3 p' c' (bJ ((aF l).take (i + 1))) → Fr (fun _ => False) h1 h3 → (∀ x, InA p' x → h1.size ≤ x) → Kn (p', (bJ ((aF l).take (i + 1))).length, c', wrap .i64 ((i : Int) + 1)) h3 := fun p' c' h3 R3 f3 hp3 => by
   rw [wr (by omega) (by omega)]
   exact hK ((aF l).length - (i + 1)) _ _ (by omega) ⟨i + 1, rfl, rfl, hil, rfl, f3, R3, hp3⟩
  generalize (aF l)[i] = s at *
  have skip : s = [] ∨ s = [46] → Kn (a, (bJ ((aF l).take i)).length, c, wrap .i64 ((i : Int) + 1)) h2 := fun hs => by
   have e : bJ ((aF l).take (i + 1)) = bJ ((aF l).take i) := by rw [hst]; unfold mE; rw [if_pos hs]
   have := go a c h2 (by rw [e]; exact R2) f2 ha
   rw [e] at this; exact this
  refine An (fun e3 => ?_) fun e3 => ?_
  ·rw [if_pos (by rw [e3]; show ((bs []).toList == (bs []).toList) = true; rw [jO]; rfl)]; exact skip (.inl e3)
  refine ifS (m := [46]) (fun e4 => skip (.inr e4)) fun e4 => ?_
  unfold iz
  have hn : ¬ (s = [] ∨ s = [46]) := fun hh => hh.elim e3 e4
  refine ifS (m := [46, 46]) (fun e5 => ?_) fun e5 => ?_
  ·have ek : bJ ((aF l).take (i + 1)) = (bJ ((aF l).take i)).dropLast := by rw [hst]; unfold mE; rw [if_neg hn, if_pos e5]
   have el : (if (0 : Int) > (wrap .i64 ((((bJ ((aF l).take i)).length : Nat) : Int) - 1)) then (0 : Int) else (wrap .i64 ((((bJ ((aF l).take i)).length : Nat) : Int) - 1))) = (((bJ ((aF l).take i)).length - 1 : Nat) : Int) := by
    rw [wr (by omega) (by omega)]; split <;> omega
   rw [el]
   refine ⟨by omega, by have := R2.le; omega, ?_⟩
   rw [Int.toNat_natCast]
   have R3 := R2.pre jS ((bJ ((aF l).take i)).length - 1) (by omega)
   rw [← List.dropLast_eq_take] at R3
   have := go a c h2 (by rw [ek]; exact R3) f2 ha
   rw [ek, List.length_dropLast] at this; exact this
  ·have ek : bJ ((aF l).take (i + 1)) = bJ ((aF l).take i) ++ [s] := by rw [hst]; unfold mE; rw [if_neg hn, if_neg e5]
   refine IC R2 ha f2 hkl s fun p' c' h3 R3 f3 hp3 => ⟨_, _, _, rfl, ?_⟩
   rw [← ek] at R3 ⊢
   exact go p' c' h3 R3 f3 hp3
 ·have : i = (aF l).length := by omega
  subst this
  rw [List.take_length] at R2 hkl ⊢
  unfold ko
  have f02 := f1.trans f2
  unfold tG at hk
  have hja := yQ (bJ (aF l))
  have hfa2 := rx (aF l) []
  have h3 : bX [] = 0 := rfl
  have hkeep : bX (bJ (aF l)) ≤ 2 ^ 29 := by unfold bJ; omega
  have hlast : (aF l).length - 1 < (aF l).length := by have := List.length_pos_iff.2 hne; omega
  have b4 : ∀ (o : Nm), o.length ≤ 1 → o = (if l.take 1 = [47] then [47] else []) → eX (bs q) a (bJ (aF l)).length c sp (aF l).length sc (bs o) Q h2 := fun o ho1 ho => by
   unfold eX
   rw [← ho] at hk
   have b6 : ∀ (x : Nm) (h4 : aB), x.length ≤ 2 ^ 30 → Q (.string (bs (x ++ q))) h4 → eQ (bs q) (bs x) Q h4 := fun x h4 hx hq' => by
    unfold eQ
    rw [lS, aX, aX, sB]
    exact ⟨by omega, hq'⟩
   have fin : ∀ (h4 : aB), Fr (fun _ => False) h2 h4 → bO (wrap .i64 ((((aF l).length : Nat) : Int) - 1)) (aF l).length (nn sp fun t58 => ldS h4 (Addr.add t58 (((wrap .i64 ((((aF l).length : Nat) : Int) - 1))).toNat * 1)) fun t59 => if (decide ((((bJ (aF l)).length : Nat) : Int) > 0)) = true then (if (t59.toList == (⟨#[]⟩ : ByteArray).toList) = true then ((((bs o ++ bs (Lib.join (bJ (aF l)) [47])).size + (⟨#[47]⟩ : ByteArray).size : Nat) : Int) ≤ IntKind.max .i64 ∧ bD (bs q) ((bs o ++ bs (Lib.join (bJ (aF l)) [47])) ++ (⟨#[47]⟩ : ByteArray)) Q h4) else (if (t59.toList == (⟨#[46]⟩ : ByteArray).toList) = true then ((((bs o ++ bs (Lib.join (bJ (aF l)) [47])).size + (⟨#[47]⟩ : ByteArray).size : Nat) : Int) ≤ IntKind.max .i64 ∧ bD (bs q) ((bs o ++ bs (Lib.join (bJ (aF l)) [47])) ++ (⟨#[47]⟩ : ByteArray)) Q h4) else (if (t59.toList == (⟨#[46, 46]⟩ : ByteArray).toList) = true then ((((bs o ++ bs (Lib.join (bJ (aF l)) [47])).size + (⟨#[47]⟩ : ByteArray).size : Nat) : Int) ≤ IntKind.max .i64 ∧ bD (bs q) ((bs o ++ bs (Lib.join (bJ (aF l)) [47])) ++ (⟨#[47]⟩ : ByteArray)) Q h4) else (bD (bs q) (bs o ++ bs (Lib.join (bJ (aF l)) [47])) Q h4)))) else (bD (bs q) (bs o ++ bs (Lib.join (bJ (aF l)) [47])) Q h4)) := fun h4 f4 => by
    have f04 := f02.trans f4
    have hk := hk h4 f04
    rw [wr (by omega) (by omega), show (((aF l).length : Nat) : Int) - 1 = (((aF l).length - 1 : Nat) : Int) by omega]
    refine ((Rs.fr0 f2).fr0 f4).idx jS (by decide) ((aF l).length - 1) rfl hlast fun ad ci => ?_
    rw [Int.toNat_natCast]
    refine aT (ci.at0 rfl) ?_
    have egl : (aF l).getLast (gA l) = (aF l)[(aF l).length - 1]'hlast := List.getLast_eq_getElem _
    rw [egl] at hk
    generalize (aF l)[(aF l).length - 1]'hlast = s at *
    have e47 : (⟨#[47]⟩ : ByteArray) = bs [47] := rfl
    rw [e47, lS, lS, aX, aX, sB, List.length_append]
    have hlen47 : ([47] : Nm).length = 1 := rfl
    refine ifD (fun e6 => ?_) fun e6 => ?_
    ·have hkn : bJ (aF l) ≠ [] := fun h => by rw [h] at e6; simp at e6
     rw [if_neg hkn] at hk
     have b5 : ∀ x : Nm, x ≠ [] → x.length ≤ 2 ^ 30 → Q (.string (bs (x ++ q))) h4 → bD (bs q) (bs x) Q h4 := fun x hx hxl hq' => by
      unfold bD
      exact An (fun h => absurd h hx) fun _ => b6 x h4 hxl hq'
     have yes : jq s = true → (((o.length + (Lib.join (bJ (aF l)) [47]).length + ([47] : Nm).length : Nat) : Int) ≤ 9223372036854775807 ∧ bD (bs q) (bs (o ++ Lib.join (bJ (aF l)) [47] ++ [47])) Q h4) := fun he => by
      rw [if_pos he] at hk
      exact ⟨by omega, b5 _ (by simp) (by simp; omega) hk⟩
     refine An (fun e7 => yes (by unfold jq; rw [decide_eq_true e7]; rfl)) fun e7 => ?_
     refine ifS (m := [46]) (fun e8 => yes (by unfold jq; rw [decide_eq_true e8]; simp)) fun e8 => ?_
     refine ifS (m := [46, 46]) (fun e9 => yes (by unfold jq; rw [decide_eq_true e9]; simp)) fun e9 => ?_
     rw [if_neg (by unfold jq; rw [decide_eq_false e7, decide_eq_false e8, decide_eq_false e9]; decide), List.append_nil] at hk
     refine b5 _ (fun hx => ?_) (by rw [List.length_append]; omega) hk
     exact GE _ hkn (List.append_eq_nil_iff.1 hx).2
    ·have hkn : bJ (aF l) = [] := List.length_eq_zero_iff.1 (by omega)
     rw [if_pos hkn] at hk
     rw [hkn, Lib.join_nil, List.append_nil]
     unfold bD
     refine An (fun _ => b6 [47] h4 (by simp) hk) fun hx => ?_
     have : o = [47] := by
      rw [ho] at hx ⊢
      split at hx
      ·rename_i hh; rw [if_pos hh]
      ·exact absurd rfl hx
     rw [this]
     exact b6 [47] h4 (by simp) hk
   by_cases hkn : bJ (aF l) = []
   ·rw [hkn] at fin ⊢
    refine Kv ⟨_, rfl, ?_⟩
    rw [aX, aX, sB]
    refine ⟨by simp; omega, ?_⟩
    have := fin h2 (Fr.refl _ _)
    rw [Lib.join_nil] at this; exact this
   ·refine LN R2 hkn (by have := xS (bJ (aF l)); omega) (by omega) fun h4 f4 => ⟨_, rfl, ?_⟩
    rw [aX, aX, sB]
    exact ⟨by omega, fin h4 f4⟩
  refine Et l ⟨_, rfl, ifB (fun e6 => ?_) fun e6 => ?_⟩
  ·exact b4 [47] (by simp) (by rw [if_pos (of_decide_eq_true e6)])
  ·exact b4 [] (by simp) (by rw [if_neg (of_decide_eq_false e6)])
theorem L8 [Gh] (l : Nm) (hl : l.length ≤ 2 ^ 28) (hk : ∀ h', Fr (fun _ => False) h h' → Q (.string (bs (zX l))) h') : aD Tryz.prog nM #[.string (bs l)] h Q := by
 apply vk
 unfold oL
 refine Ac l 63 ⟨_, rfl, ?_⟩
 unfold zX jL at hk
 unfold Iu
 cases hx : B5 63 l with
 | none =>
  rw [hx] at hk
  dsimp only
  rw [if_neg (by decide)]
  refine GS [] l hl (by simp) fun h' f => ?_
  have := hk h' f
  rw [Option.getD_none, List.take_length, List.drop_length] at this; exact this
 | some i =>
  rw [hx] at hk
  dsimp only
  have hi : i ≤ l.length := by
   have := D6 l
   unfold jL at this
   rw [hx] at this; exact this
  rw [if_pos (by simp)]
  refine slT l i rfl hi (slF l i rfl hi ?_)
  refine GS (l.drop i) (l.take i) (by rw [List.length_take]; omega) (by rw [List.length_drop]; omega) fun h' f => hk h' f
end
end Go.Proofs.YtjmfpeiidlpngaaGreatDoor.Au
namespace Go.Proofs.YtjmfpeiidlpngaaGreatDoor.Au
set_option linter.unusedSimpArgs false
set_option linter.unusedVariables false
set_option maxRecDepth 20000
open Go
open Go.IntKind (wrap)
def trL (k : Int) (l : Nm) : Nm :=
 if k = 1 then cF l else if k = 2 then kM l else if k = 3 then pS l else if k = 4 then oM 0 0 l else if k = 5 then zX l else if k = 6 then oQ (-1) l else l
def jk (ks : List Int) (l : Nm) : Nm := (ks.take 4).foldl (fun s k => trL k s) l
theorem yr : ∀ l : Nm, (pS l).length ≤ l.length
 | [] => Nat.le_refl _
 | [a] => Nat.le_refl _
 | [a, b] => Nat.le_refl _
 | c :: a :: b :: r => by
  rw [pS]
  split
  ·have := yr r; simp only [List.length_cons]; omega
  ·have := yr (a :: b :: r); simp only [List.length_cons] at this ⊢; omega
theorem wi : ∀ (l : Nm) (k : Int), (oQ k l).length ≤ l.length
 | [], _ => Nat.le_refl _
 | c :: r, k => by
  rw [oQ]
  split
  ·have := wi r k; simp only [List.length_cons]; omega
  ·split
   ·have := wi r (lV (bA c)); simp only [List.length_cons]; omega
   ·have := wi r (-1); simp only [List.length_cons]; omega
theorem ww : ∀ (l : Nm) (b n : Nat), (oM b n l).length ≤ l.length
 | [], _, _ => Nat.le_refl _
 | c :: r, b, n => by
  rw [oM]
  split
  ·simp
  ·split
   ·have := ww r b n; simp only [List.length_cons]; omega
   ·split
    ·have := ww r ((b * 64 + (vj c).toNat) % 2 ^ (n - 2)) (n - 2); simp only [List.length_cons]; omega
    ·have := ww r (b * 64 + (vj c).toNat) (n + 6); simp only [List.length_cons]; omega
theorem HJ (p : Nm) : (tG p).length ≤ p.length + 3 := by
 unfold tG
 split
 ·simp
 ·have h1 := yQ (bJ (aF p))
  have h2 := rx (aF p) []
  have h3 := sY p
  have h4 : bX [] = 0 := rfl
  unfold bJ at *
  rw [List.length_append, List.length_append]
  have a1 : (if p.take 1 = [47] then ([47] : Nm) else []).length ≤ 1 := by split <;> simp
  have a2 : (if jq ((aF p).getLast (gA p)) = true then ([47] : Nm) else []).length ≤ 1 := by split <;> simp
  omega
theorem LP (k : Int) (l : Nm) : (trL k l).length ≤ l.length + 3 := by
 unfold trL
 split
 ·rw [jR]; omega
 split
 ·unfold kM; have := List.length_filter_le qP l; omega
 split
 ·have := yr l; omega
 split
 ·have := ww l 0 0; omega
 split
 ·unfold zX
  rw [List.length_append, List.length_drop]
  have := HJ (l.take (jL l))
  have := D6 l
  rw [List.length_take] at *
  omega
 split
 ·have := wi l (-1); omega
 ·omega
theorem yE : ∀ (ks : List Int) (l : Nm), (ks.foldl (fun s k => trL k s) l).length ≤ l.length + 3 * ks.length
 | [], l => by simp
 | k :: ks, l => by
  rw [List.foldl_cons, List.length_cons]
  have h1 := yE ks (trL k l)
  have h2 := LP k l
  omega
theorem Dk (ks : List Int) (l : Nm) : (jk ks l).length ≤ l.length + 12 := by
 unfold jk
 have := yE (ks.take 4) l
 rw [List.length_take] at this; omega
section
variable {h : aB} {Q : Value → aB → Prop}
theorem K8 [Gh] (k : Int) (l : Nm) (hl : l.length ≤ 2 ^ 28) (hk : ∀ h', Fr (fun _ => False) h h' → Q (.string (bs (trL k l))) h') : aD Tryz.prog mS #[.int .i64 k, .string (bs l)] h Q := by
 apply yH
 unfold r6
 apply BB
 unfold vQ
 unfold trL at hk
 refine ifE (fun e => ?_) fun e => ?_
 ·rw [if_pos e] at hk
  exact ⟨_, rfl, cM.2 (JB l hl fun h' f => ⟨_, rfl, hk h' f⟩)⟩
 rw [if_neg e] at hk
 refine ifE (fun e => ?_) fun e => ?_
 ·rw [if_pos e] at hk
  exact ⟨_, rfl, cM.2 (Lm l hl fun h' f => ⟨_, rfl, hk h' f⟩)⟩
 rw [if_neg e] at hk
 refine ifE (fun e => ?_) fun e => ?_
 ·rw [if_pos e] at hk
  exact ⟨_, rfl, cM.2 (Hy l hl fun h' f => ⟨_, rfl, hk h' f⟩)⟩
 rw [if_neg e] at hk
 refine ifE (fun e => ?_) fun e => ?_
 ·rw [if_pos e] at hk
  exact ⟨_, rfl, cM.2 (IJ l hl fun h' f => ⟨_, rfl, hk h' f⟩)⟩
 rw [if_neg e] at hk
 refine ifE (fun e => ?_) fun e => ?_
 ·rw [if_pos e] at hk
  exact ⟨_, rfl, cM.2 (L8 l hl fun h' f => ⟨_, rfl, hk h' f⟩)⟩
 rw [if_neg e] at hk
 refine ifE (fun e => ?_) fun e => ?_
 ·rw [if_pos e] at hk
  exact ⟨_, rfl, cM.2 (MZ l hl fun h' f => ⟨_, rfl, hk h' f⟩)⟩
 rw [if_neg e] at hk
 refine ⟨_, rfl, cM.2 ?_⟩
 show aD Tryz.prog oq #[.string (bs l)] h _
 apply vb
 unfold oN
 exact ⟨_, rfl, hk h (Fr.refl _ _)⟩
end
end Go.Proofs.YtjmfpeiidlpngaaGreatDoor.Au
namespace Go.Proofs.YtjmfpeiidlpngaaGreatDoor.Au
set_option linter.unusedSimpArgs false
set_option linter.unusedVariables false
set_option maxRecDepth 20000
open Go
open Go.IntKind (wrap)
theorem AK (ks : List Int) (l : Nm) (i : Nat) (hi : i < ks.length) : ((ks.take (i + 1)).foldl (fun s k => trL k s) l) = trL ks[i] ((ks.take i).foldl (fun s k => trL k s) l) := by
 rw [show ks.take (i + 1) = ks.take i ++ [ks[i]] by rw [List.take_append_getElem], List.foldl_append]; rfl
def yF (p : Nm) : List Nm → List Nm
 | [] => []
 | x :: xs => (p ++ x) :: xs
theorem BN : ∀ {ts : List Nm} {x : Nm}, x ∈ ts → x.length + 1 ≤ bX ts
 | [], x, h => absurd h List.not_mem_nil
 | a :: r, x, h => by
  have e : bX (a :: r) = a.length + 1 + bX r := by unfold bX; simp
  rcases List.mem_cons.1 h with rfl | h
  ·omega
  ·have := BN h; omega
theorem zQ (l : Nm) : yF [] (aF l) = aF l := by
 cases h : aF l with
 | nil => rfl
 | cons x xs => rfl
theorem Ef (r : Nm) : aF (47 :: r) = [] :: aF r := by rw [aF, if_pos rfl]
theorem EK (c : UInt8) (r : Nm) (hc : c ≠ 47) (p : Nm) : yF p (aF (c :: r)) = yF (p ++ [c]) (aF r) := by
 rw [aF, if_neg hc]
 cases h : aF r with
 | nil => exact absurd h (gA r)
 | cons x xs => simp [yF]
theorem KK : jL [] = 0 := rfl
theorem EC (c : UInt8) (r : Nm) : jL (c :: r) = if c = 63 then 0 else jL r + 1 := by
 unfold jL B5
 rw [List.findIdx?_cons]
 by_cases h : c = 63
 ·rw [if_pos h, if_pos (by simp [h])]; rfl
 ·rw [if_neg h, if_neg (by simp [h])]
  cases r.findIdx? (· == 63) with
  | none => rfl
  | some i => rfl
section
variable {h : aB} {Q : Value → aB → Prop}
theorem MK [Gh] (ks : Sl Int) (l : Nm) (hl : l.length ≤ 2 ^ 20) (o : bH 1 (fun n : Int => [Value.int .i64 n]) (kOk .i64) h ks) (hk : ∀ h', Fr (fun _ => False) h h' → Q (.string (bs (jk ks.xs l))) h') : aD Tryz.prog po #[.slice ks.p ks.xs.length ks.cap, .string (bs l)] h Q := by
 apply Aq
 unfold uZ
 have hcap := o.cap
 have hle := o.len
 obtain ⟨m, em, hm4, hml, hmt⟩ : ∃ m : Nat, (if (4 : Int) < ((ks.xs.length : Nat) : Int) then (4 : Int) else ((ks.xs.length : Nat) : Int)) = (m : Int) ∧ m ≤ 4 ∧ m ≤ ks.xs.length ∧ ks.xs.take m = ks.xs.take 4 := by
  by_cases h : (4 : Int) < ((ks.xs.length : Nat) : Int)
  ·rw [if_pos h]; exact ⟨4, rfl, by omega, by omega, rfl⟩
  ·rw [if_neg h]; exact ⟨ks.xs.length, rfl, by omega, by omega, by rw [List.take_of_length_le (by omega), List.take_of_length_le (by omega)]⟩
 rw [em]
 refine ⟨by omega, by omega, ?_⟩
 rw [Int.toNat_natCast]
 refine aH.go (fun n st h' => ∃ i : Nat, st.2 = (i : Int) ∧ st.1 = bs ((ks.xs.take i).foldl (fun s k => trL k s) l) ∧ i ≤ m ∧ n = m - i ∧ Fr (fun _ => False) h h') m ⟨0, rfl, rfl, by omega, rfl, Fr.refl _ _⟩ ?_
 rintro n ⟨s, t⟩ h1 ⟨i, e1, e2, hi, rfl, f1⟩ Kn hK
 dsimp only at e1 e2
 subst e1 e2
 dsimp only
 unfold pm
 refine ifD (fun e => ?_) fun e => ?_
 ·have him : i < m := by omega
  have hil : i < ks.xs.length := by omega
  obtain ⟨ad, had, ci, _⟩ := (bH.fr0 zi f1 o).at_ i hil
  rw [had]
  refine bQ i rfl him (aV ?_)
  rw [Int.toNat_natCast]
  have hfl := yE (ks.xs.take i) l
  rw [List.length_take] at hfl
  refine aA (ci.at0 rfl) (K8 ks.xs[i] ((ks.xs.take i).foldl (fun s k => trL k s) l) (by omega) fun h2 f2 => ⟨_, rfl, ?_⟩)
  rw [wr (by omega) (by omega)]
  exact hK (m - (i + 1)) _ _ (by omega) ⟨i + 1, rfl, by rw [AK _ _ _ hil], him, rfl, f1.trans f2⟩
 ·have : i = m := by omega
  subst this
  rw [hmt]
  exact hk h1 f1
theorem E0 [Gh] (l : Nm) (hl : l.length ≤ 2 ^ 28) (hk : ∀ p c h', Fr (fun _ => False) h h' → Row 1 ve h' p c (aF l) → (∀ x, InA p x → h.size ≤ x) → Q (.slice p (aF l).length c) h') : aD Tryz.prog nv #[.string (bs l)] h Q := by
 apply yZ
 unfold sS
 refine aU (vs := []) fun t5 h0 f0 e0 o0 => ?_
 have z0 := f0.size
 have R0 : Row 1 ve h0 (some t5) 0 [] := Row.of_own (L := []) jS o0
 refine aH.go (fun n st h' => ∃ (i fm : Nat) (O : List Nm), st.2.2.2.2 = (i : Int) ∧ st.2.2.2.1 = (fm : Int) ∧ st.2.1 = O.length ∧ O.length ≤ i ∧ fm ≤ i ∧ i ≤ l.length + 1 ∧ n = l.length + 1 - i ∧ ((i ≤ l.length ∧ O ++ yF ((l.drop fm).take (i - fm)) (aF (l.drop i)) = aF l) ∨ (i = l.length + 1 ∧ O = aF l)) ∧ Fr (fun _ => False) h h' ∧ Row 1 ve h' st.1 st.2.2.1 O ∧ (∀ b, InA st.1 b → h.size ≤ b)) (l.length + 1)
  ⟨0, 0, [], rfl, rfl, rfl, Nat.le_refl _, Nat.le_refl _, by omega, rfl, .inl ⟨by omega, zQ l⟩, f0, R0, fun b hb => by obtain ⟨ad, h1, h2⟩ := hb; cases h1; omega⟩ ?_
 rintro n ⟨a, m, c, fr, t⟩ h1 ⟨i, fm, O, e1, e2, e3, hO, hfi, hi, rfl, hinv, f1, R1, ha⟩ Kn hK
 dsimp only at e1 e2 e3 R1 ha
 subst e1 e2 e3
 dsimp only
 unfold nG
 rw [aX]
 refine ifD (fun e => ?_) fun e => ?_
 ·have hil : i ≤ l.length := by omega
  have hinv := (hinv.resolve_right fun hh => by omega).2
  have b2 : ((i = l.length ∨ ∃ hi : i < l.length, l[i] = 47) → jp (bs l) a O.length c (fm : Int) (i : Int) Q Kn h1) := fun hc => by
   unfold jp
   refine slS l fm i rfl rfl hfi hil ?_
   refine IC R1 ha f1 (by omega) ((l.drop fm).take (i - fm)) fun p' c' h2 R2 f2 hp2 => ⟨_, _, _, rfl, ?_⟩
   rw [wr (by omega) (by omega)]
   refine hK (l.length + 1 - (i + 1)) _ _ (by omega) ⟨i + 1, i + 1, _, rfl, rfl, rfl, by rw [List.length_append, List.length_singleton]; omega, Nat.le_refl _, by omega, rfl, ?_, f2, R2, hp2⟩
   rcases hc with hc | ⟨hi', hc⟩
   ·subst hc
    refine .inr ⟨rfl, ?_⟩
    rw [List.drop_length] at hinv
    rw [← hinv]
    show _ = O ++ [(_ ++ [] : Nm)]
    rw [List.append_nil]
   ·refine .inl ⟨hi', ?_⟩
    rw [List.drop_eq_getElem_cons hi', hc, Ef] at hinv
    rw [← hinv, Nat.sub_self, List.take_zero, zQ, List.append_assoc]
    show O ++ ([_] ++ _) = O ++ ((_ ++ [] : Nm) :: _)
    rw [List.append_nil]; rfl
  refine ifE (fun e4 => b2 (.inl (by omega))) fun e4 => ?_
  have hlt : i < l.length := by omega
  refine ixS l i rfl hlt (ifE (fun e5 => b2 (.inr ⟨hlt, ng e5⟩)) fun e5 => ?_)
  rw [wr (by omega) (by omega)]
  refine hK (l.length + 1 - (i + 1)) _ _ (by omega) ⟨i + 1, fm, O, rfl, rfl, rfl, by omega, by omega, by omega, rfl, .inl ⟨hlt, ?_⟩, f1, R1, ha⟩
  rw [List.drop_eq_getElem_cons hlt, EK _ _ (fun hh => e5 (by rw [hh]; rfl))] at hinv
  rw [← hinv]
  congr 2
  have e6 : (l.drop fm).take (i + 1 - fm) = (l.drop fm).take (i - fm) ++ [(l.drop fm)[i - fm]'(by rw [List.length_drop]; omega)] := by
   rw [show i + 1 - fm = (i - fm) + 1 by omega, List.take_append_getElem]
  rw [e6, List.getElem_drop]
  congr 3
  omega
 ·have he : i = l.length + 1 := by omega
  have hO := (hinv.resolve_left fun hh => by omega).2
  subst hO
  exact hk a c h1 f1 R1 ha
theorem ML (k : List Nm) (s : Nm) : mE k s = (if s = [46, 46] then k.dropLast else k) ++ (if s ≠ [] ∧ s ≠ [46] ∧ s ≠ [46, 46] then [s] else []) := by
 unfold mE
 by_cases h1 : s = [46, 46]
 ·rw [if_neg (by rw [h1]; decide), if_pos h1, if_pos h1, if_neg (fun hh => hh.2.2 h1), List.append_nil]
 ·by_cases h2 : s = [] ∨ s = [46]
  ·rw [if_pos h2, if_neg h1, if_neg (fun hh => h2.elim hh.1 hh.2.1), List.append_nil]
  ·rw [if_neg h2, if_neg h1, if_neg h1, if_pos ⟨fun h => h2 (.inl h), fun h => h2 (.inr h), h1⟩]
theorem K2 [Gh] (l : Nm) (hl : l.length ≤ 2 ^ 28) (hk : ∀ h', Fr (fun _ => False) h h' → Q (.string (bs (zX l))) h') : aD Tryz.prog su #[.string (bs l)] h Q := by
 apply DR
 unfold yN
 rw [aX, wr (by omega) (by omega)]
 refine aH.go (fun n st h' => ∃ i : Nat, st.2 = (i : Int) - 1 ∧ st.1 = ((i + jL (l.drop i) : Nat) : Int) ∧ i ≤ l.length ∧ n = i ∧ h' = h) l.length ⟨l.length, rfl, by rw [List.drop_length, KK]; rfl, Nat.le_refl _, rfl, rfl⟩ ?_
 rintro n ⟨en, t⟩ h1 ⟨i, e1, e2, hi, rfl, rfl⟩ Kn hK
 dsimp only at e1 e2
 subst e1 e2
 dsimp only
 unfold sA
 refine ifD (fun e => ?_) fun e => ?_
 ·have hil : n - 1 < l.length := by omega
  refine ixS l (n - 1) (by omega) hil ?_
  rw [wr (by omega) (by omega)]
  have hd : l.drop (n - 1) = l[n - 1] :: l.drop n := by rw [List.drop_eq_getElem_cons hil, show n - 1 + 1 = n by omega]
  refine ifE (fun e5 => ?_) fun e5 => ?_
  ·refine hK (n - 1) _ _ (by omega) ⟨n - 1, by omega, ?_, by omega, rfl, rfl⟩
   rw [hd, EC, if_pos (ng e5)]
   dsimp only; omega
  ·refine hK (n - 1) _ _ (by omega) ⟨n - 1, by omega, ?_, by omega, rfl, rfl⟩
   rw [hd, EC, if_neg (fun hh => e5 (by rw [hh]; rfl))]
   dsimp only; omega
 have hn0 : n = 0 := by omega
 subst hn0
 rw [List.drop_zero, Nat.zero_add]
 unfold sy
 have hcl := D6 l
 unfold zX at hk
 generalize hE : jL l = E at *
 refine slT l E rfl hcl ?_
 generalize hP : l.take E = P at *
 have hPl : P.length = E := by rw [← hP, List.length_take]; omega
 refine E0 P (by omega) fun sp sc h2 f2 Rs hsp => ⟨_, _, _, rfl, ?_⟩
 have z2 := f2.size
 have hne := gA P
 have hsa := sY P
 have hsl := xS (aF P)
 refine aU (vs := []) fun t5 h3 f3 e3 o3 => ?_
 have z3 := f3.size
 have R0 : Row 1 ve h3 (some t5) 0 [] := Row.of_own (L := []) jS o3
 have hnil : bX [] = 0 := rfl
 refine aH.go (fun n st h' => ∃ (i : Nat), st.2.2.2 = (i : Int) ∧ st.2.1 = (bJ ((aF P).take i)).length ∧ i ≤ (aF P).length ∧ n = (aF P).length - i ∧ Fr (fun _ => False) h2 h' ∧ Row 1 ve h' st.1 st.2.2.1 (bJ ((aF P).take i)) ∧ (∀ b, InA st.1 b → h2.size ≤ b)) (aF P).length
  ⟨0, rfl, rfl, Nat.zero_le _, rfl, f3, R0, fun b hb => by obtain ⟨ad, h1, h2⟩ := hb; cases h1; omega⟩ ?_
 rintro n ⟨a, m, c, t⟩ h4 ⟨i, e1, e2, hi, rfl, f4, R4, ha⟩ Kn hK
 dsimp only at e1 e2 R4 ha
 subst e1 e2
 dsimp only
 unfold sw
 have hfa := rx ((aF P).take i) []
 have hkl : (bJ ((aF P).take i)).length ≤ 2 ^ 29 := by
  have h1 := xS (bJ ((aF P).take i))
  have h2 : bX ((aF P).take i) ≤ bX (aF P) := by
   conv => rhs; rw [← List.take_append_drop i (aF P)]
   unfold bX; rw [List.map_append, List.sum_append]; omega
  unfold bJ at *
  omega
 have Rs4 := Rs.fr0 f4
 refine ifD (fun e => ?_) fun e => ?_
 ·have hil : i < (aF P).length := by omega
  have hst := vv (aF P) i hil
  rw [ML] at hst
  have rd : ∀ {K : Addr → Prop}, (∀ ad, aY h4 (ad.add (i * 1)) [.string (bs (aF P)[i])] → K ad) → bO (i : Int) (aF P).length (nn sp fun a => K a) := fun hk => Rs4.idx jS (by decide) i rfl hil hk
  generalize (aF P)[i] = s at *
  have b4 : ∀ (a' : Option Addr) (k : List Nm), Row 1 ve h4 a' c k → k.length ≤ 2 ^ 29 → (∀ x, InA a' x → h2.size ≤ x) → k = (if s = [46, 46] then (bJ ((aF P).take i)).dropLast else bJ ((aF P).take i)) → kJ (bs l) (E : Int) sp (aF P).length sc a' k.length c (i : Int) Q Kn h4 := fun a' k Rk hk2 ha' hke => by
   unfold kJ
   rw [← hke] at hst
   rw [wr (x := (i : Int) + 1) (by omega) (by omega)]
   have skip : ¬ (s ≠ [] ∧ s ≠ [46] ∧ s ≠ [46, 46]) → Kn (a', k.length, c, (i : Int) + 1) h4 := fun hn => by
    rw [if_neg hn, List.append_nil] at hst
    exact hK ((aF P).length - (i + 1)) _ _ (by omega) ⟨i + 1, rfl, by dsimp only; rw [hst], hil, rfl, f4, by rw [hst]; exact Rk, ha'⟩
   refine rd fun ad ci => ?_
   rw [Int.toNat_natCast]
   refine aT (ci.at0 rfl) (HO (m := []) (fun e3 => ?_) fun e3 => skip fun hh => hh.1 e3)
   refine rd fun ad ci => aT (ci.at0 rfl) (HO (m := [46]) (fun e4 => ?_) fun e4 => skip fun hh => hh.2.1 e4)
   refine rd fun ad ci => aT (ci.at0 rfl) (HO (m := [46, 46]) (fun e5 => ?_) fun e5 => skip fun hh => hh.2.2 e5)
   rw [if_pos ⟨e3, e4, e5⟩] at hst
   refine rd fun ad ci => aT (ci.at0 rfl) ?_
   refine IC Rk ha' f4 hk2 s fun p' c' h5 R5 f5 hp5 => ⟨_, _, _, rfl, ?_⟩
   rw [← hst] at R5 ⊢
   exact hK ((aF P).length - (i + 1)) _ _ (by omega) ⟨i + 1, rfl, rfl, hil, rfl, f5, R5, hp5⟩
  refine rd fun ad ci => ?_
  rw [Int.toNat_natCast]
  refine aT (ci.at0 rfl) (ifS (m := [46, 46]) (fun e3 => ?_) fun e3 => ?_)
  ·refine ifD (fun e4 => ?_) fun e4 => ?_
   ·rw [wr (by omega) (by omega)]
    refine ⟨by omega, by have := R4.le; omega, ?_⟩
    have R5 := R4.pre jS ((bJ ((aF P).take i)).length - 1) (by omega)
    rw [← List.dropLast_eq_take] at R5
    have := b4 a _ R5 (by rw [List.length_dropLast]; omega) ha (by rw [if_pos e3])
    rw [List.length_dropLast] at this
    rw [show (((bJ ((aF P).take i)).length : Nat) : Int) - 1 = (((bJ ((aF P).take i)).length - 1 : Nat) : Int) by omega, Int.toNat_natCast]
    exact this
   ·have hnilk : bJ ((aF P).take i) = [] := List.length_eq_zero_iff.1 (by omega)
    exact b4 a _ R4 hkl ha (by rw [if_pos e3, hnilk]; rfl)
  ·exact b4 a _ R4 hkl ha (by rw [if_neg e3])
 have hie : i = (aF P).length := by omega
 subst hie
 rw [List.take_length] at R4 hkl ⊢
 unfold sF
 have f04 := f2.trans f4
 have hja := yQ (bJ (aF P))
 have hfa2 := rx (aF P) []
 have hkeep : bX (bJ (aF P)) ≤ 2 ^ 29 := by unfold bJ; omega
 have hlast : (aF P).length - 1 < (aF P).length := by have := List.length_pos_iff.2 hne; omega
 have e47 : (⟨#[47]⟩ : ByteArray) = bs [47] := rfl
 have hstart : bJ (aF P) ≠ [] → 0 < l.length ∧ P.take 1 = l.take 1 := fun hk0 => by
  have hE0 : E ≠ 0 := fun h0 => by
   have : P = [] := List.length_eq_zero_iff.1 (by omega)
   rw [this] at hk0; exact hk0 rfl
  exact ⟨by omega, by rw [← hP, List.take_take, Nat.min_eq_left (by omega)]⟩
 have join_take : ∀ i, i < (bJ (aF P)).length → Lib.join ((bJ (aF P)).take (i + 1)) [47] = if i = 0 then (bJ (aF P))[0]! else Lib.join ((bJ (aF P)).take i) [47] ++ [47] ++ (bJ (aF P)).getD i [] := fun i hi => by
  rw [show (bJ (aF P)).take (i + 1) = (bJ (aF P)).take i ++ [(bJ (aF P))[i]] by rw [List.take_append_getElem], HK]
  by_cases h0 : i = 0
  ·subst h0
   rw [if_pos (by simp), if_pos rfl, getElem!_pos _ 0 hi]
  ·have hg : (bJ (aF P)).getD i [] = (bJ (aF P))[i] := by rw [List.getD_eq_getElem?_getD, List.getElem?_eq_getElem hi]; rfl
   rw [if_neg (fun hh => by have := congrArg List.length hh; rw [List.length_take, List.length_nil] at this; omega), if_neg h0, hg]
 have jt_len : ∀ i, (Lib.join ((bJ (aF P)).take i) [47]).length ≤ 2 ^ 29 := fun i => by
  have h1 := yQ ((bJ (aF P)).take i)
  have h2 : bX ((bJ (aF P)).take i) ≤ bX (bJ (aF P)) := by
   conv => rhs; rw [← List.take_append_drop i (bJ (aF P))]
   unfold bX; rw [List.map_append, List.sum_append]; omega
  omega
 refine aH.go (fun n st h' => ∃ i : Nat, st.2 = (i : Int) ∧ st.1 = bs (if i = 0 then [] else (if l.take 1 = [47] then [47] else []) ++ Lib.join ((bJ (aF P)).take i) [47]) ∧ i ≤ (bJ (aF P)).length ∧ n = (bJ (aF P)).length - i ∧ h' = h4) (bJ (aF P)).length ⟨0, rfl, rfl, Nat.zero_le _, rfl, rfl⟩ ?_
 rintro n ⟨tt, t⟩ h5 ⟨i, e1, e2, hi5, rfl, rfl⟩ Kn6 hK6
 dsimp only at e1 e2
 subst e1 e2
 dsimp only
 unfold sq
 have hpre : (if l.take 1 = [47] then ([47] : Nm) else []).length ≤ 1 := by split <;> simp
 have hij := jt_len i
 refine ifD (fun e5 => ?_) fun e5 => ?_
 ·have hil : i < (bJ (aF P)).length := by omega
  obtain ⟨hl0, hst⟩ := hstart fun h => by rw [h] at hil; exact absurd hil (Nat.not_lt_zero _)
  have hg : (bJ (aF P)).getD i [] = (bJ (aF P))[i] := by rw [List.getD_eq_getElem?_getD, List.getElem?_eq_getElem hil]; rfl
  have hjt := join_take i hil
  have hel : ((bJ (aF P))[i]).length ≤ 2 ^ 29 := by
   have := BN (List.getElem_mem hil)
   omega
  have b7 : ∀ T : Nm, T.length ≤ 2 ^ 30 → T ++ (bJ (aF P))[i] = (if l.take 1 = [47] then [47] else []) ++ Lib.join ((bJ (aF P)).take (i + 1)) [47] → kG (bs l) (E : Int) sp (aF P).length sc a (bJ (aF P)).length c (bs T) (i : Int) Q Kn6 h5 := fun T hT hTe => by
   unfold kG
   refine R4.idx jS (by decide) i rfl hil fun ad ci => ?_
   rw [Int.toNat_natCast]
   refine aT (ci.at0 rfl) ?_
   rw [aX, aX, sB, lS, wr (by omega) (by omega)]
   refine ⟨by omega, hK6 ((bJ (aF P)).length - (i + 1)) _ _ (by omega) ⟨i + 1, rfl, ?_, hil, rfl, rfl⟩⟩
   rw [if_neg (by omega), hTe]
  refine ifD (fun e6 => ?_) fun e6 => ?_
  ·have hi0 : i ≠ 0 := by omega
   rw [if_neg hi0, e47, lS, aX, aX, sB, List.length_append]
   refine ⟨by simp only [List.length_cons, List.length_nil]; omega, b7 _ (by rw [List.length_append, List.length_append]; simp only [List.length_cons, List.length_nil]; omega) ?_⟩
   rw [hjt, if_neg hi0, hg]
   simp only [List.append_assoc]
  ·have hi0 : i = 0 := by omega
   subst hi0
   rw [if_pos rfl]
   rw [if_pos rfl, getElem!_pos _ 0 hil] at hjt
   refine ixS l 0 rfl hl0 (ifE (fun e7 => ?_) fun e7 => ?_)
   ·have ht : l.take 1 = [47] := by
     rw [List.take_one, List.head?_eq_getElem?, List.getElem?_eq_getElem hl0, ng (v := 47) e7]; rfl
    rw [e47, lS, aX, aX, sB]
    refine ⟨by simp, b7 _ (by simp) ?_⟩
    rw [if_pos ht, hjt]; rfl
   ·have ht : l.take 1 ≠ [47] := fun h => by
     rw [List.take_one, List.head?_eq_getElem?, List.getElem?_eq_getElem hl0] at h
     have : l[0] = 47 := List.head_eq_of_cons_eq h
     exact e7 (by rw [this]; rfl)
    exact b7 [] (by simp) (by rw [if_neg ht, hjt])
 ·have hik : i = (bJ (aF P)).length := by omega
  subst hik
  rw [List.take_length] at hij ⊢
  unfold sr
  have hk := hk h5 f04
  unfold tG at hk
  rw [wr (by omega) (by omega), show (((aF P).length : Nat) : Int) - 1 = (((aF P).length - 1 : Nat) : Int) by omega]
  refine Rs4.idx jS (by decide) ((aF P).length - 1) rfl hlast fun ad ci => ?_
  rw [Int.toNat_natCast]
  refine aT (ci.at0 rfl) ?_
  have egl : (aF P).getLast (gA P) = (aF P)[(aF P).length - 1]'hlast := List.getLast_eq_getElem _
  rw [egl] at hk
  generalize (aF P)[(aF P).length - 1]'hlast = s at *
  have b9 : ∀ x : Nm, x.length ≤ 2 ^ 30 + 2 → Q (.string (bs (x ++ l.drop E))) h5 → gI (bs l) (E : Int) (bs x) Q h5 := fun x hx hq => by
   unfold gI
   refine slF l E rfl hcl ?_
   rw [lS, aX, aX, sB, List.length_drop]
   exact ⟨by omega, hq⟩
  by_cases hk0 : bJ (aF P) = []
  ·rw [if_pos hk0] at hk
   rw [hk0, List.length_nil, if_pos rfl]
   refine An (fun _ => ?_) fun h => absurd rfl h
   rw [e47, lS, aX, aX, sB]
   exact ⟨by simp, b9 _ (by simp) hk⟩
  ·rw [if_neg hk0, (hstart hk0).2] at hk
   have hln : (bJ (aF P)).length ≠ 0 := fun h => hk0 (List.length_eq_zero_iff.1 h)
   rw [if_neg hln]
   have hbody : (if l.take 1 = [47] then ([47] : Nm) else []) ++ Lib.join (bJ (aF P)) [47] ≠ [] := fun h => GE _ hk0 (List.append_eq_nil_iff.1 h).2
   have hbl : ((if l.take 1 = [47] then ([47] : Nm) else []) ++ Lib.join (bJ (aF P)) [47]).length ≤ 2 ^ 30 := by rw [List.length_append]; omega
   generalize (if l.take 1 = [47] then ([47] : Nm) else []) ++ Lib.join (bJ (aF P)) [47] = body at *
   have yes : jq s = true → (((bs body).size + (⟨#[47]⟩ : ByteArray).size : Nat) : Int) ≤ IntKind.max .i64 ∧ gI (bs l) (E : Int) (bs body ++ (⟨#[47]⟩ : ByteArray)) Q h5 := fun he => by
    rw [if_pos he] at hk
    rw [e47, lS, aX, aX, sB]
    exact ⟨by simp only [List.length_cons, List.length_nil]; omega, b9 _ (by rw [List.length_append]; simp only [List.length_cons, List.length_nil]; omega) hk⟩
   refine An (fun h => absurd h hbody) fun _ => ?_
   refine An (fun e7 => yes (by unfold jq; rw [decide_eq_true e7]; rfl)) fun e7 => ?_
   refine ifS (m := [46]) (fun e8 => yes (by unfold jq; rw [decide_eq_true e8]; simp)) fun e8 => ?_
   refine ifS (m := [46, 46]) (fun e9 => yes (by unfold jq; rw [decide_eq_true e9]; simp)) fun e9 => ?_
   rw [if_neg (by unfold jq; rw [decide_eq_false e7, decide_eq_false e8, decide_eq_false e9]; decide), List.append_nil] at hk
   exact b9 _ (by omega) hk
theorem Ko [Gh] (k : Int) (l : Nm) (hl : l.length ≤ 2 ^ 28) (hk : ∀ h', Fr (fun _ => False) h h' → Q (.string (bs (trL k l))) h') : aD Tryz.prog rN #[.int .i64 k, .string (bs l)] h Q := by
 apply CA
 unfold xo
 unfold trL at hk
 refine ifE (fun e => ?_) fun e => ?_
 ·rw [if_pos e] at hk; exact J2 l hl fun h' f => ⟨_, rfl, hk h' f⟩
 rw [if_neg e] at hk
 refine ifE (fun e => ?_) fun e => ?_
 ·rw [if_pos e] at hk; exact I3 l hl fun h' f => ⟨_, rfl, hk h' f⟩
 rw [if_neg e] at hk
 refine ifE (fun e => ?_) fun e => ?_
 ·rw [if_pos e] at hk; exact FH l hl fun h' f => ⟨_, rfl, hk h' f⟩
 rw [if_neg e] at hk
 refine ifE (fun e => ?_) fun e => ?_
 ·rw [if_pos e] at hk; exact HA l hl fun h' f => ⟨_, rfl, hk h' f⟩
 rw [if_neg e] at hk
 refine ifE (fun e => ?_) fun e => ?_
 ·rw [if_pos e] at hk; exact K2 l hl fun h' f => ⟨_, rfl, hk h' f⟩
 rw [if_neg e] at hk
 refine ifE (fun e => ?_) fun e => ?_
 ·rw [if_pos e] at hk; exact LJ l hl fun h' f => ⟨_, rfl, hk h' f⟩
 rw [if_neg e] at hk
 exact hk h (Fr.refl _ _)
theorem L9 [Gh] (ks : Sl Int) (l : Nm) (hl : l.length ≤ 2 ^ 20) (o : bH 1 (fun n : Int => [Value.int .i64 n]) (kOk .i64) h ks) (hk : ∀ h', Fr (fun _ => False) h h' → Q (.string (bs (jk ks.xs l))) h') : aD Tryz.prog ue #[.slice ks.p ks.xs.length ks.cap, .string (bs l)] h Q := by
 apply EO
 unfold Ae
 have hcap := o.cap
 refine aH.go (fun n st h' => ∃ i : Nat, st.2 = (i : Int) ∧ st.1 = bs ((ks.xs.take i).foldl (fun s k => trL k s) l) ∧ i ≤ 4 ∧ i ≤ ks.xs.length ∧ n = 4 - i ∧ Fr (fun _ => False) h h') 4 ⟨0, rfl, rfl, by omega, by omega, rfl, Fr.refl _ _⟩ ?_
 rintro n ⟨s, t⟩ h1 ⟨i, e1, e2, hi4, hi, rfl, f1⟩ Kn hK
 dsimp only at e1 e2
 subst e1 e2
 dsimp only
 unfold ud
 have fin : (i = 4 ∨ i = ks.xs.length) → Q (.string (bs ((ks.xs.take i).foldl (fun s k => trL k s) l))) h1 := fun hh => by
  have e : ks.xs.take i = ks.xs.take 4 := by
   rcases hh with hh | hh
   ·rw [hh]
   ·rw [List.take_of_length_le (by omega), List.take_of_length_le (by omega)]
  rw [e]; exact hk h1 f1
 refine ifD (fun e => ifD (fun e2 => ?_) fun e2 => fin (.inl (by omega))) fun e => fin (.inr (by omega))
 have hil : i < ks.xs.length := by omega
 refine cL (bH.fr0 zi f1 o) i rfl hil fun ad ci _ => ?_
 rw [Int.toNat_natCast]
 have hfl := yE (ks.xs.take i) l
 rw [List.length_take] at hfl
 refine aA (ci.at0 rfl) (Ko ks.xs[i] ((ks.xs.take i).foldl (fun s k => trL k s) l) (by omega) fun h2 f2 => ⟨_, rfl, ?_⟩)
 rw [wr (by omega) (by omega)]
 exact hK (4 - (i + 1)) _ _ (by omega) ⟨i + 1, rfl, by rw [AK _ _ _ hil], by omega, hil, rfl, f1.trans f2⟩
end
end Go.Proofs.YtjmfpeiidlpngaaGreatDoor.Au
namespace Go.Proofs.YtjmfpeiidlpngaaGreatDoor
set_option linter.unusedSimpArgs false
set_option linter.unusedVariables false
set_option maxRecDepth 20000
open Go
open Go.IntKind (wrap)
def bbV (b : Bool) : List Value := [.bool b]
theorem AB (b : Bool) : (bbV b).length = 1 := rfl
def uI (seen : List Bool) (hs : List Au.Hit) : List Bool := hs.foldl (fun s x => s.set x.1 true) seen
theorem Dm (hs : List Au.Hit) : ∀ seen : List Bool, (uI seen hs).length = seen.length := by
 induction hs with
 | nil => intro s; rfl
 | cons x hs ih => intro s; show (uI (s.set x.1 true) hs).length = _; rw [ih, List.length_set]
theorem HW (hs : List Au.Hit) : ∀ (seen : List Bool) (n : Nat), (uI seen hs)[n]? = (seen[n]?).map fun b => b || hs.any fun x => decide (x.1 = n) := by
 induction hs with
 | nil => intro s n; show s[n]? = _; cases s[n]? <;> simp
 | cons x hs ih =>
  intro s n
  show (uI (s.set x.1 true) hs)[n]? = _
  rw [ih, List.getElem?_set, List.any_cons]
  by_cases e : x.1 = n
  ·rw [if_pos e]
   subst e
   by_cases hl : x.1 < s.length
   ·rw [if_pos hl, List.getElem?_eq_getElem hl]; simp
   ·rw [if_neg hl, List.getElem?_eq_none (by omega)]; rfl
  ·rw [if_neg e]; cases s[n]? <;> simp [e]
def xw (p : Au.Pt) (w : Au.Nm) : Bool := (List.range (w.length + 1)).any fun e => Au.vl p w e
def vP (L : List Au.Pt) (w : Au.Nm) : List Bool := L.map fun p => xw p w
theorem xY {L : List Au.Pt} {s : Au.Nm} {fm k j e : Nat} : (j, e) ∈ Au.qd L s fm k ↔ fm < e ∧ e ≤ fm + k ∧ j < L.length ∧ Au.vl (L.getD j ⟨[], false⟩) s e = true := by
 unfold Au.qd Au.hA
 simp only [List.mem_flatMap, List.mem_range]
 constructor
 ·rintro ⟨m, hm, j', hj', hx⟩
  split at hx
  ·rename_i ho
   simp only [List.mem_singleton, Prod.mk.injEq] at hx
   obtain ⟨rfl, rfl⟩ := hx
   exact ⟨by omega, by omega, hj', ho⟩
  ·cases hx
 ·rintro ⟨h1, h2, h3, h4⟩
  refine ⟨e - (fm + 1), by omega, j, h3, ?_⟩
  have : fm + 1 + (e - (fm + 1)) = e := by omega
  rw [this, if_pos h4]; simp
theorem Jg (L : List Au.Pt) (j : Nat) (hj : j < L.length) : L.getD j ⟨[], false⟩ = L[j] := by rw [List.getD_eq_getElem?_getD, List.getElem?_eq_getElem hj]; rfl
theorem HM (p : Au.Pt) (w : Au.Nm) : Au.vl p w 0 = false := by
 unfold Au.vl
 by_cases h : p.t = []
 ·simp [h]
 ·have : 0 < p.t.length := List.length_pos_iff.2 h
  have h2 : ¬ p.t.length ≤ 0 := by omega
  simp [h2]
theorem EL (p : Au.Pt) (w s : Au.Nm) (e : Nat) (he : e ≤ w.length) : Au.vl p (w ++ s) e = Au.vl p w e := by
 rw [← Au.Bp p (w ++ s) e, ← Au.Bp p w e, List.take_append_of_le_length he]
theorem ul {p : Au.Pt} {w : Au.Nm} : xw p w = true ↔ ∃ e, e ≤ w.length ∧ Au.vl p w e = true := by
 unfold xw
 rw [List.any_eq_true]
 constructor
 ·rintro ⟨e, h1, h2⟩; exact ⟨e, by rw [List.mem_range] at h1; omega, h2⟩
 ·rintro ⟨e, h1, h2⟩; exact ⟨e, by rw [List.mem_range]; omega, h2⟩
theorem EV {a b : Bool} (h : a = true ↔ b = true) : a = b := by cases a <;> cases b <;> simp_all
theorem Df (L : List Au.Pt) (w s : Au.Nm) : uI (vP L w) (Au.qd L (w ++ s) w.length s.length) = vP L (w ++ s) := by
 apply List.ext_getElem?
 intro n
 rw [HW]
 unfold vP
 rw [List.getElem?_map, List.getElem?_map]
 by_cases hn : n < L.length
 ·rw [List.getElem?_eq_getElem hn]
  simp only [Option.map_some, Option.some.injEq]
  apply EV
  rw [Bool.or_eq_true, ul, ul, List.any_eq_true]
  constructor
  ·rintro (⟨e, h1, h2⟩ | ⟨⟨j, e⟩, h1, h2⟩)
   ·exact ⟨e, by rw [List.length_append]; omega, by rw [EL _ _ _ _ h1]; exact h2⟩
   ·rw [decide_eq_true_iff] at h2
    simp only at h2
    subst h2
    obtain ⟨a, b, c, d⟩ := xY.1 h1
    rw [Jg _ _ c] at d
    exact ⟨e, by rw [List.length_append]; omega, d⟩
  ·rintro ⟨e, h1, h2⟩
   rw [List.length_append] at h1
   by_cases he : e ≤ w.length
   ·exact .inl ⟨e, he, by rw [EL _ _ _ _ he] at h2; exact h2⟩
   ·exact .inr ⟨(n, e), xY.2 ⟨by omega, by omega, hn, by rw [Jg _ _ hn]; exact h2⟩, by simp⟩
 ·rw [List.getElem?_eq_none (by omega)]; rfl
theorem Da (L : List Au.Pt) : vP L [] = List.replicate L.length false := by
 unfold vP
 rw [List.eq_replicate_iff]
 refine ⟨by simp, fun b hb => ?_⟩
 obtain ⟨p, _, rfl⟩ := List.mem_map.1 hb
 cases h : xw p [] with
 | false => rfl
 | true =>
  obtain ⟨e, h1, h2⟩ := ul.1 h
  have : e = 0 := by simpa using h1
  subst this
  rw [HM] at h2; cases h2
theorem IP (L : List Au.Pt) (s : Au.Nm) : uI (List.replicate L.length false) (Au.qd L s 0 s.length) = vP L s := by
 have := Df L [] s
 rw [Da] at this
 simpa using this
section
variable {h : aB} {Q : Value → aB → Prop}
theorem Kf [Gh] {pa : Addr} {v0 v2 v3 : Value} {q : Option Addr} {qc : Nat} {seen : List Bool} (cp : aY h pa [v0, .slice q seen.length qc, v2, v3]) (R : Row 1 bbV h q qc seen) (hq : ¬ InA q pa.block)
  {r : Option Addr} {rc : Nat} {hs : List Au.Hit} (Rr : Row 2 Au.BE h r rc hs) (hr : ∀ x, InA r x → ¬ InA q x) (hin : ∀ x ∈ hs, x.1 < seen.length) (hl : hs.length ≤ 2 ^ 40)
  (hk : ∀ h', Fr (InA q) h h' → Row 1 bbV h' q qc (uI seen hs) → Q (.tuple #[]) h') : aD Tryz.prog jo #[.pointer (some pa), .slice r hs.length rc] h Q := by
 apply wF
 unfold qx
 refine aH.mk (fun st h' => ∃ k : Nat, st = (k : Int) ∧ k ≤ hs.length ∧ Fr (InA q) h h' ∧ Row 1 bbV h' q qc (uI seen (hs.take k))) (fun st _ => hs.length - st.toNat) ⟨0, rfl, by omega, Fr.refl _ _, R⟩ ?_
 rintro st h1 ⟨k, rfl, hkl, f1, R1⟩
 unfold lw
 refine ifD (fun hlt => ?_) (fun hge => ?_)
 ·have hi : k < hs.length := by omega
  have Rr1 := Rr.fr f1 hr
  refine Rr1.idx Au.Fi (by omega) k rfl hi fun ad cc => ?_
  rw [Int.toNat_natCast]
  refine (aA (cc.at0 rfl) (aA (cc.at rfl) ?_))
  refine oG rfl rfl fun t5 h2 f2 ht5 o5 => ?_
  have cp2 : aY h2 pa [v0, .slice q seen.length qc, v2, v3] := (cp.fr f1 hq).fr0 f2
  refine aV (aC (cp2.at (j := 1) rfl) (aA (o5.cells.at0 rfl) ?_))
  have hb := hin _ (List.getElem_mem hi)
  have hb2 : hs[k].1 < (uI seen (hs.take k)).length := by rw [Dm]; exact hb
  have R2 := R1.fr0 f2
  rw [← Dm (hs.take k) seen]
  obtain ⟨aq, hqe, cq⟩ := R2.cellsAt AB (by omega) hs[k].1 hb2
  subst hqe
  refine bQ hs[k].1 rfl hb2 ?_
  rw [Int.toNat_natCast]
  refine aV ?_
  rw [← kI (aq.add (hs[k].1 * 1))]
  refine R2.set1 AB hs[k].1 hb2 rfl (j := 0) (by omega) (v := .bool true) rfl (e' := true) rfl fun h3 f3 R3 => ?_
  rw [wr (by omega) (by omega)]
  refine ⟨⟨k + 1, by omega, by omega, (f1.trans (f2.mono fun _ => False.elim)).trans f3, ?_⟩, by omega⟩
  rw [show hs.take (k + 1) = hs.take k ++ [hs[k]] by rw [List.take_append_getElem]]
  unfold uI at R3 ⊢
  rw [List.foldl_append]; exact R3
 ·have : k = hs.length := by omega
  subst this
  rw [List.take_length] at R1
  exact hk h1 f1 R1
end
end Go.Proofs.YtjmfpeiidlpngaaGreatDoor
namespace Go.Proofs.YtjmfpeiidlpngaaGreatDoor
set_option linter.unusedSimpArgs false
set_option linter.unusedVariables false
set_option maxRecDepth 20000
open Go
open Go.IntKind (wrap)
abbrev Tag := Nat → Nat
def GpX (N : Nat) (h : aB) (ga : Addr) (g : Gr) (au : Addr) (sg : List Au.St) (ws : List Au.Nm) : Prop :=
 Kp (fun x => x < N) h (fun h' => aY h' ga (g.vals ++ [.pointer (some au)]) ∧ bK.ok h' g) ∧ Au.yq N h au sg ws (ptS g.Patterns).xs
theorem GpX.fr {N : Nat} {S : Nat → Prop} {h h' : aB} {ga : Addr} {g : Gr} {au : Addr} {sg : List Au.St} {ws : List Au.Nm} (G : GpX N h ga g au sg ws) (f : Fr S h h') (hs : ∀ x, x < h.size → S x → N ≤ x) : GpX N h' ga g au sg ws :=
 ⟨G.1.fr f (fun x hx hn hh => by have := hs x hx hh; omega) fun _ _ => id, G.2.fr f hs⟩
theorem GpX.of {N : Nat} {h : aB} {ga : Addr} {g : Gr} (G : GpB (fun x => x < N) h ga g) (hN : N ≤ h.size) : ∃ au sg ws, GpX N h ga g au sg ws := by
 obtain ⟨au, sg, ws, k1, k2, d⟩ := G
 exact ⟨au, sg, ws, k1, d.auto k2 hN⟩
def gY (g : Gr) : List Au.Pt := (ptS g.Patterns).xs
theorem rJ (g : Gr) : (gY g).length = g.Patterns.xs.length := List.length_map ..
def iD (g : Gr) (w : Au.Nm) : List Bool := if g.Transforms.xs = [] then vP (gY g) w else List.replicate (gY g).length false
theorem na (g : Gr) (w : Au.Nm) : (iD g w).length = (gY g).length := by
 unfold iD; split
 ·unfold vP; rw [List.length_map]
 ·simp
def Ak : Value := .func (.func 33) #[] #[]
def Cy : Value := .func (.func 34) #[] #[]
def Kc (t9 t13 t14 : Addr) : Value := .func (.func 36) #[] #[.pointer (some t9), .pointer (some t13), .pointer (some t14)]
def K3 (t12 t9 t13 : Addr) : Value := .func (.func 39) #[] #[.pointer (some t12), .pointer (some t9), .pointer (some t13)]
def II (t9 : Addr) : Value := .func (.func 41) #[] #[.pointer (some t9)]
def MJ : Value := .func (.func 42) #[] #[]
def Jn (N : Nat) (o : Tag) (i : Nat) (h : aB) (t9 ga : Addr) (g : Gr) (pa au : Addr) (ws : List Au.Nm) (w : Au.Nm) (fd en : Value) : Prop :=
 (g.Patterns.xs = [] ∧ fd = Ak ∧ en = Cy) ∨
 (g.Patterns.xs ≠ [] ∧ g.Transforms.xs = [] ∧ en = Cy ∧ ∃ t13 t14 cur p, fd = Kc t9 t13 t14 ∧ Kp (fun x => o x = 0) h (fun h' => aY h' t13 [.pointer (some pa)] ∧ aY h' t14 [.pointer (some cur)]) ∧ Au.tO N ws h cur au w p ∧ o cur.block = 11 + 2 * i ∧ ∀ x, InA p x → o x = 11 + 2 * i) ∨
 (g.Patterns.xs ≠ [] ∧ g.Transforms.xs ≠ [] ∧ fd = Ak ∧ ∃ t12 t13, en = K3 t12 t9 t13 ∧ Kp (fun x => o x = 0) h (fun h' => aY h' t12 [.pointer (some ga)] ∧ aY h' t13 [.pointer (some pa)]))
structure ov (N : Nat) (o : Tag) (i : Nat) (h : aB) (t9 ga : Addr) (g : Gr) (pa : Addr) (w : Au.Nm) (seen : List Bool) : Prop where
 tag : o pa.block = 0
 len : seen.length = (gY g).length
 ex : ∃ q qc fd en au sg ws, Kp (fun x => o x = 0) h (fun h' => aY h' pa [.pointer (some ga), .slice q seen.length qc, fd, en]) ∧ Row 1 bbV h q qc seen ∧ (∀ x, InA q x → o x = 10 + 2 * i) ∧ GpX N h ga g au sg ws ∧ Jn N o i h t9 ga g pa au ws w fd en
section
variable {N i : Nat} {o o' : Tag} {h h' : aB} {t9 ga : Addr} {g : Gr} {pa : Addr} {w : Au.Nm} {seen : List Bool} {S : Nat → Prop}
theorem Kp.tag {P : aB → Prop} (k : Kp (fun x => o x = 0) h P) (f : Fr S h h') (ho : Au.Old h o o') (hs : ∀ x, x < h.size → S x → o x ≠ 0) : Kp (fun x => o' x = 0) h' P :=
 k.fr f (fun x hx h0 hh => hs x hx hh h0) fun x hx h0 => by rw [ho x hx]; exact h0
theorem Jn.fr {au : Addr} {ws : List Au.Nm} {fd en : Value} (M : Jn N o i h t9 ga g pa au ws w fd en) (f : Fr S h h') (ho : Au.Old h o o') (hs : ∀ x, x < h.size → S x → o x ≠ 0 ∧ o x ≠ 11 + 2 * i) : Jn N o' i h' t9 ga g pa au ws w fd en := by
 rcases M with M | ⟨m1, m2, m3, t13, t14, cur, p, m4, k, C, c1, c2⟩ | ⟨m1, m2, m3, t12, t13, m4, k⟩
 ·exact .inl M
 ·refine .inr (.inl ⟨m1, m2, m3, t13, t14, cur, p, m4, k.tag f ho fun x hx hh => (hs x hx hh).1, C.fr f (fun hh => (hs _ C.lt hh).2 c1) (fun x hx hh => (hs _ (C.lt' hx) hh).2 (c2 x hx)), ?_, fun x hx => ?_⟩)
  ·rw [ho _ C.lt]; exact c1
  ·rw [ho _ (C.lt' hx)]; exact c2 x hx
 ·exact .inr (.inr ⟨m1, m2, m3, t12, t13, m4, k.tag f ho fun x hx hh => (hs x hx hh).1⟩)
theorem ov.fr (P : ov N o i h t9 ga g pa w seen) (hp : pa.block < h.size) (low : ∀ x, x < N → o x = 0) (f : Fr S h h') (ho : Au.Old h o o') (hs : ∀ x, x < h.size → S x → o x ≠ 0 ∧ o x ≠ 10 + 2 * i ∧ o x ≠ 11 + 2 * i) : ov N o' i h' t9 ga g pa w seen := by
 obtain ⟨tg, ln, q, qc, fd, en, au, sg, ws, k, R, hq, G, M⟩ := P
 refine ⟨by rw [ho _ hp]; exact tg, ln, q, qc, fd, en, au, sg, ws, k.tag f ho fun x hx hh => (hs x hx hh).1, R.fr f (fun x hx hh => (hs x (R.lt hx) hh).2.1 (hq x hx)), fun x hx => by rw [ho _ (R.lt hx)]; exact hq x hx, G.fr f (fun x hx hh => ?_), M.fr f ho fun x hx hh => ⟨(hs x hx hh).1, (hs x hx hh).2.2⟩⟩
 rcases Nat.lt_or_ge x N with hl | hl
 ·exact absurd (low x hl) (hs x hx hh).1
 ·exact hl
end
def Bw (s : Addr) (f : aR) (dir : Int) (pp : Option Addr) (pn pc : Nat) (bp : Option Addr) (bn bc : Nat) (work : Int) (done : Bool) (op : Option Addr) (on oc : Nat) : List Value :=
 [.pointer (some s), .int .i64 f.Proto, .bool f.Src.V6, .int .u64 f.Src.Hi, .int .u64 f.Src.Lo, .bool f.Dst.V6, .int .u64 f.Dst.Hi, .int .u64 f.Dst.Lo, .int .i64 f.Sport, .int .i64 f.Dport, .int .i64 dir, .slice pp pn pc, .slice bp bn bc, .int .i64 work, .bool done, .slice op on oc]
def j6 (g : Gr) : Bool := decide (g.Patterns.xs ≠ []) && decide (g.Transforms.xs = [])
theorem ov.feed [Gh] {N i : Nat} {o : Tag} {h : aB} {t9 ga : Addr} {g : Gr} {pa : Addr} {w : Au.Nm} (P : ov N o i h t9 ga g pa w (iD g w)) (hp : pa.block < h.size) (low : ∀ x, x < N → o x = 0)
  {c s : Addr} {f : aR} {dir : Int} {pp : Option Addr} {pn pc : Nat} {bp : Option Addr} {bn bc : Nat} {work : Int} {done : Bool} {op : Option Addr} {on oc : Nat} (oc9 : Own h c (Bw s f dir pp pn pc bp bn bc work done op on oc) iI) (tc : o c.block = 1) (k9 : Kp (fun x => o x = 0) h fun h' => aY h' t9 [.pointer (some c)])
  (x : Au.Nm) (hx : w.length + x.length ≤ 2 ^ 16) (hw : 0 ≤ work ∧ work ≤ 2 ^ 40) {Q : Value → aB → Prop} {K : aB → Prop} {fd : Value} (hfd : hcell h (pa.add 2) = some fd) (hQ : ∀ h', K h' → Q (.tuple #[]) h')
  (hk : ∀ h' o', Au.Old h o o' → Fr (fun x => o x = 1 ∨ o x = 10 + 2 * i ∨ o x = 11 + 2 * i) h h' → Own h' c (Bw s f dir pp pn pc bp bn bc (work + if j6 g = true then (x.length : Int) else 0) done op on oc) iI → ov N o' i h' t9 ga g pa (w ++ x) (iD g (w ++ x)) → K h') :
  my Tryz.prog fd #[.string (bs x)] h Q := by
 obtain ⟨tg, ln, q, qc, fd', en, au, sg, ws, k, R, hq, G, M⟩ := P
 have e := hfd.symm.trans (k.now.at (j := 2) rfl)
 simp only [Option.some.injEq] at e
 subst e
 rcases M with ⟨m1, m2, m3⟩ | ⟨m1, m2, m3, t13, t14, cur, p, m4, kc, C, c1, c2⟩ | ⟨m1, m2, m3, t12, t13, m4, kc⟩
 ·subst m2
  unfold Ak
  rw [cM]
  apply oU
  unfold kQ
  refine hQ _ (hk h o (Au.Old.refl _ _) (Fr.refl _ _) ?_ ?_)
  ·have : j6 g = false := by unfold j6; simp [m1]
   rw [this]; simpa using oc9
  ·have e0 : gY g = [] := by unfold gY ptS; rw [m1]; rfl
   have e1 : ∀ w, iD g w = [] := fun w => List.length_eq_zero_iff.1 (by rw [na, e0]; rfl)
   rw [e1] at k R ⊢
   exact ⟨tg, by rw [e0]; rfl, q, qc, Ak, en, au, sg, ws, k, R, hq, G, .inl ⟨m1, rfl, m3⟩⟩
 ·subst m4
  unfold Kc
  rw [cM]
  have hd : j6 g = true := by unfold j6; simp [m1, m2]
  have sW : ∀ w, iD g w = vP (gY g) w := fun w => by unfold iD; rw [if_pos m2]
  apply va
  unfold oS
  have lc := oc9.lt
  refine bB (k9.now.at0 rfl) (aV (aA (oc9.cells.at (j := 13) rfl) (aV ?_)))
  rw [aX, wr (by omega) (by omega)]
  refine cO oc9 13 (by show 13 < 16; omega) rfl fun h1 f1 z1 o1 => ?_
  have kc1 := kc.tag f1 (Au.Old.refl _ _) fun x hx hh => by rw [hh, tc]; omega
  have C1 := C.fr f1 (fun hh => by rw [hh, tc] at c1; omega) fun x hx hh => by have := c2 x hx; rw [hh, tc] at this; omega
  have NC : N ≤ h.size := G.2.s.1
  have G1 := G.fr f1 fun x hx hh => by
   rcases Nat.lt_or_ge x N with hl | hl
   ·have := low x hl; rw [hh, tc] at this; omega
   ·exact hl
  refine bB (kc1.now.1.at0 rfl) (bB (kc1.now.2.at0 rfl) ?_)
  refine Au.IG G1.2 C1 x (by omega) fun h2 p' r rc f2 C2 hp' Rr hr hrp => ⟨_, _, _, rfl, ?_⟩
  have z1' := f1.size
  have z2 := f2.size
  have lcur := C1.lt
  have hS2 : ∀ y, y < h.size → (y = cur.block ∨ InA p y) → o y = 11 + 2 * i := fun y hy hh => by
   rcases hh with hh | hh
   ·rw [hh]; exact c1
   ·exact c2 y hh
  have kc2 := kc1.fr (B' := fun x => o x = 0) f2 (fun y hy h0 hh => by have := hS2 y (by omega) hh; omega) fun _ _ => id
  refine ⟨bB (kc2.now.1.at0 rfl) rfl, ?_⟩
  have k1 := k.tag f1 (Au.Old.refl _ _) fun x hx hh => by rw [hh, tc]; omega
  have k2 := k1.fr (B' := fun x => o x = 0) f2 (fun y hy h0 hh => by have := hS2 y (by omega) hh; omega) fun _ _ => id
  have R1 := R.fr f1 fun y hy hh => by have := hq y hy; rw [hh, tc] at this; omega
  have lq : ∀ y, InA q y → y < h.size := fun y hy => R.lt hy
  have R2 := R1.fr f2 fun y hy hh => by have := hq y hy; have := hS2 y (lq y hy) hh; omega
  refine Kf k2.now R2 (fun hh => by have := hq _ hh; omega) Rr (fun y hy hh => by have := hr y hy; have := lq y hh; omega) (fun y hy => ?_) ?_ fun h3 f3 R3 => ⟨rfl, ?_⟩
  ·rw [na]
   exact (xY.1 (show (y.1, y.2) ∈ _ from hy)).2.2.1
  ·have := Au.xW (gY g) (w ++ x) w.length x.length
   have hm := G.2.m
   have : x.length * (gY g).length ≤ 2 ^ 16 * 512 := Nat.mul_le_mul (by omega) hm
   have : (Au.qd (gY g) (w ++ x) w.length x.length).length ≤ 2 ^ 40 := by omega
   exact this
  ·refine hQ _ (hk h3 (Au.upT o h.size (11 + 2 * i)) (Au.Old.up (Nat.le_refl _)) ?_ ?_ ?_)
   ·refine ((f1.mono' fun y hy hh => .inl (by rw [hh, tc])).tr f2 fun y hy hh => .inr (.inr (hS2 y hy hh))).tr f3 fun y hy hh => .inr (.inl (hq y hh))
   ·rw [hd, if_pos rfl]
    have o3 := (o1.fr f2 fun hh => by have := hS2 _ (by omega) hh; rw [tc] at this; omega).fr f3 fun hh => by have := hq _ hh; rw [tc] at this; omega
    exact o3
   ·have e3 : uI (iD g w) (Au.qd (gY g) (w ++ x) w.length x.length) = iD g (w ++ x) := by rw [sW, sW]; exact Df _ _ _
    have R3' : Row 1 bbV h3 q qc (iD g (w ++ x)) := by rw [← e3]; exact R3
    have up : ∀ y, y < h.size → Au.upT o h.size (11 + 2 * i) y = o y := fun y hy => Au.dX hy
    have k3 := k2.fr (B' := fun x => o x = 0) f3 (fun y hy h0 hh => by have := hq y hh; omega) fun _ _ => id
    have kc3 := kc2.fr (B' := fun x => o x = 0) f3 (fun y hy h0 hh => by have := hq y hh; omega) fun _ _ => id
    have toU : ∀ {P : aB → Prop}, Kp (fun x => o x = 0) h P → Kp (fun x => Au.upT o h.size (11 + 2 * i) x = 0) h3 P := fun kk => by
     refine ((kk.fr (B' := fun x => Au.upT o h.size (11 + 2 * i) x = 0) f1 (fun y hy h0 hh => by rw [hh, tc] at h0; omega) fun y hy h0 => by rw [up y hy]; exact h0).fr (B' := fun x => Au.upT o h.size (11 + 2 * i) x = 0) f2 (fun y hy h0 hh => ?_) fun _ _ => id).fr (B' := fun x => Au.upT o h.size (11 + 2 * i) x = 0) f3 (fun y hy h0 hh => ?_) fun _ _ => id
     ·have hy' : y < h.size := by
       rcases hh with hh | hh
       ·omega
       ·have := C.lt' hh; omega
      have := hS2 y hy' hh; rw [up y hy'] at h0; omega
     ·have := hq y hh; have := lq y hh; rw [up y this] at h0; omega
    refine ⟨by rw [up _ hp]; exact tg, na _ _, q, qc, _, _, au, sg, ws, ?_, R3', fun y hy => by rw [up y (lq y hy)]; exact hq y hy, ?_, .inr (.inl ⟨m1, m2, m3, t13, t14, cur, p', rfl, toU kc, ?_, ?_, fun y hy => ?_⟩)⟩
    ·have := toU k
     rw [na] at this ⊢
     exact this
    ·refine (G1.fr f2 fun y hy hh => ?_).fr f3 fun y hy hh => ?_
     ·exact C1.ge hh
     ·rcases Nat.lt_or_ge y N with hl | hl
      ·have := low y hl; have := hq y hh; omega
      ·exact hl
    ·exact C2.fr f3 (fun hh => by have := hq _ hh; omega) fun y hy hh => by
      have h5 := hq y hh
      rcases hp' y hy with h6 | h6
      ·have := c2 y h6; omega
      ·have := lq y hh; omega
    ·rw [up _ (by omega)]; exact c1
    ·rcases hp' y hy with h6 | h6
     ·rw [up y (by have := C.lt' h6; omega)]; exact c2 y h6
     ·exact Au.kf (by omega)
 ·subst m3
  unfold Ak
  rw [cM]
  apply oU
  unfold kQ
  refine hQ _ (hk h o (Au.Old.refl _ _) (Fr.refl _ _) ?_ ?_)
  ·have : j6 g = false := by unfold j6; simp [m2]
   rw [this]; simpa using oc9
  ·have e1 : iD g (w ++ x) = iD g w := by unfold iD; rw [if_neg m2, if_neg m2]
   rw [e1]
   exact ⟨tg, ln, q, qc, Ak, en, au, sg, ws, k, R, hq, G, .inr (.inr ⟨m1, m2, rfl, t12, t13, m4, kc⟩)⟩
end Go.Proofs.YtjmfpeiidlpngaaGreatDoor
namespace Go.Proofs.YtjmfpeiidlpngaaGreatDoor
set_option linter.unusedSimpArgs false
set_option linter.unusedVariables false
set_option maxRecDepth 20000
open Go
open Go.IntKind (wrap)
theorem M8 {h : aB} {a : Addr} {v : Value} (hv : hcell h a = some v) : a.block < h.size := by
 rcases Nat.lt_or_ge a.block h.size with hb | hb
 ·exact hb
 ·unfold hcell at hv; rw [Array.getElem?_eq_none hb] at hv; cases hv
section
variable {N i : Nat} {o o' : Tag} {h h' : aB} {s c t9 ga : Addr} {g : Gr} {pa : Addr} {w : Au.Nm} {seen : List Bool} {S : Nat → Prop}
theorem ov.lt (P : ov N o i h t9 ga g pa w seen) : pa.block < h.size := by
 obtain ⟨tg, ln, q, qc, fd, en, au, sg, ws, k, _⟩ := P
 exact M8 (k.now.at0 rfl)
end
structure lD (N : Nat) (F : Nat → Prop) (o : Tag) (h : aB) (s c t9 : Addr) (bs : List Bd) (gs K : List Gr) (av pa : List Addr) (tx : Nat → Au.Nm) (sn : Nat → Gr → List Bool) : Prop where
 low : ∀ x, x < N → o x = 0
 fp : ∀ x, x < h.size → N ≤ x → o x ≠ 9 → F x
 set : xu N h s bs gs
 k9 : Kp (fun x => o x = 0) h fun h' => aY h' t9 [.pointer (some c)]
 la : av.length = K.length
 lp : pa.length = K.length
 part : ∀ i (h1 : i < K.length) (h2 : i < av.length) (h3 : i < pa.length), ov N o i h t9 av[i] K[i] pa[i] (tx i) (sn i K[i])
def uR (o : Tag) (h : aB) (s c : Addr) (f : aR) (dir : Int) (L : List Addr) (buf : Au.Nm) (work : Int) (done : Bool) (out : List Int) : Prop :=
 o c.block = 1 ∧ ∃ pp pc bp bc op oc, Own h c (Bw s f dir pp L.length pc bp buf.length bc work done op out.length oc) iI ∧ Row 1 adV h pp pc L ∧ (∀ x, InA pp x → o x = 4) ∧ Row 1 Au.bV h bp bc buf ∧ (∀ x, InA bp x → o x = 2) ∧ Row 1 Au.lZ h op oc out ∧ ∀ x, InA op x → o x = 3
def CG (o : Tag) (h : aB) (t9 : Addr) (kp : Option Addr) : Prop := ∀ a, kp = some a → ∃ t90, Kp (fun x => o x = 0) h fun h' => aY h' a [.pointer (some t90), .slice none 0 0, II t9, MJ] ∧ aY h' t90 [.int .i64 0, .slice none 0 0, .slice none 0 0, .slice none 0 0, .slice none 0 0, .pointer none]
section
variable {N : Nat} {F : Nat → Prop} {o o' : Tag} {h h' : aB} {s c t9 : Addr} {f : aR} {dir : Int} {bs : List Bd} {gs K : List Gr} {av pa L : List Addr} {tx : Nat → Au.Nm} {sn : Nat → Gr → List Bool} {S : Nat → Prop} {buf : Au.Nm} {work : Int} {done : Bool} {out : List Int} {kp : Option Addr}
theorem lD.fr (R : lD N F o h s c t9 bs gs K av pa tx sn) (f : Fr S h h') (ho : Au.Old h o o') (hs : ∀ x, x < h.size → S x → o x ≠ 0 ∧ o x < 10) {F' : Nat → Prop} (hF : ∀ x, x < h'.size → N ≤ x → o' x ≠ 9 → F' x) (hF0 : h.size ≤ h'.size := by omega) : lD N F' o' h' s c t9 bs gs K av pa tx sn := by
 have hN := R.set.1
 refine ⟨fun x hx => by rw [ho x (by omega)]; exact R.low x hx, hF, R.set.fr f fun x hx hh => ?_, R.k9.tag f ho fun x hx hh => (hs x hx hh).1, R.la, R.lp, fun i h1 h2 h3 => ?_⟩
 ·rcases Nat.lt_or_ge x N with hl | hl
  ·exact absurd (R.low x hl) (hs x hx hh).1
  ·exact hl
 ·have P := R.part i h1 h2 h3
  exact P.fr P.lt R.low f ho fun x hx hh => by have := hs x hx hh; omega
theorem uR.fr (C : uR o h s c f dir L buf work done out) (f' : Fr S h h') (ho : Au.Old h o o') (hs : ∀ x, x < h.size → S x → o x = 0 ∨ o x = 9 ∨ 10 ≤ o x) : uR o' h' s c f dir L buf work done out := by
 obtain ⟨tg, pp, pc, bp, bc, op, oc, ow, R1, t1, R2, t2, R3, t3⟩ := C
 refine ⟨by rw [ho _ ow.lt]; exact tg, pp, pc, bp, bc, op, oc, ow.fr f' (fun hh => by have := hs _ ow.lt hh; omega), R1.fr f' (fun x hx hh => by have := hs _ (R1.lt hx) hh; have := t1 x hx; omega), fun x hx => by rw [ho _ (R1.lt hx)]; exact t1 x hx,
  R2.fr f' (fun x hx hh => by have := hs _ (R2.lt hx) hh; have := t2 x hx; omega), fun x hx => by rw [ho _ (R2.lt hx)]; exact t2 x hx, R3.fr f' (fun x hx hh => by have := hs _ (R3.lt hx) hh; have := t3 x hx; omega), fun x hx => by rw [ho _ (R3.lt hx)]; exact t3 x hx⟩
theorem CG.fr (k : CG o h t9 kp) (f : Fr S h h') (ho : Au.Old h o o') (hs : ∀ x, x < h.size → S x → o x ≠ 0) : CG o' h' t9 kp := fun a e => by
 obtain ⟨t90, kk⟩ := k a e
 exact ⟨t90, kk.tag f ho hs⟩
end
def rv (K : List Gr) : Bool := K.any fun g => decide (g.Patterns.xs ≠ []) && decide (g.Transforms.xs ≠ [])
theorem GP : gU Tryz.prog dY fZ Tryz.t101 (.pointer none) := ⟨Tryz.underlying97, by kernel_rfl, by kernel_rfl, by kernel_rfl, by decide +kernel⟩
theorem DA : gU Tryz.prog qL zu Tryz.t4 (.bool false) := ⟨Tryz.underlying102, by kernel_rfl, by kernel_rfl, by kernel_rfl, by decide +kernel⟩
def sn0 (w : Au.Nm) : Nat → Gr → List Bool := fun _ g => iD g w
theorem tH {h : aB} {a : Addr} {vs ws : List Value} (c : aY h a (vs ++ ws)) : aY h a vs := fun j hj => by
 have := c j (by rw [List.length_append]; omega)
 rw [this, List.getElem_append_left hj]
structure IQ (hs h : aB) (ga pa t12 t13 : Addr) (q : Option Addr) (n qc : Nat) : Prop where
 o12 : Own h t12 [.pointer (some ga)] fG
 op : Own h pa [.pointer (some ga), .slice q n qc, Ak, Cy] jK
 o13 : Own h t13 [.pointer (some pa)] fZ
 row : Row 1 bbV h q qc (List.replicate n false)
 ge : hs.size ≤ t12.block ∧ hs.size ≤ pa.block ∧ hs.size ≤ t13.block
 ne : t12.block ≠ pa.block ∧ t12.block ≠ t13.block ∧ pa.block ≠ t13.block
 qn : ∀ x, InA q x → hs.size ≤ x ∧ x ≠ t12.block ∧ x ≠ pa.block ∧ x ≠ t13.block
theorem IQ.fr {hs h h' : aB} {ga pa t12 t13 : Addr} {q : Option Addr} {n qc : Nat} {S : Nat → Prop} (T : IQ hs h ga pa t12 t13 q n qc) (f : Fr S h h') (hS : ∀ x, S x → x < hs.size) : IQ hs h' ga pa t12 t13 q n qc := by
 have hn : ∀ x, hs.size ≤ x → ¬ S x := fun x hx hh => by have := hS x hh; omega
 exact ⟨T.o12.fr f (hn _ T.ge.1), T.op.fr f (hn _ T.ge.2.1), T.o13.fr f (hn _ T.ge.2.2), T.row.fr f fun x hx => hn x (T.qn x hx).1, T.ge, T.ne, T.qn⟩
open Classical in
noncomputable def tT (hs : aB) (o : Tag) (k : Nat) (A B C : Nat → Prop) : Tag := fun x => if x < hs.size then o x else if A x then 10 + 2 * k else if B x then 4 else if C x then 11 + 2 * k else 0
section
variable {hs : aB} {o : Tag} {k : Nat} {A B C : Nat → Prop} {x : Nat}
theorem oh (h : x < hs.size) : tT hs o k A B C x = o x := if_pos h
theorem Mo (h : hs.size ≤ x) (a : A x) : tT hs o k A B C x = 10 + 2 * k := by unfold tT; rw [if_neg (by omega), if_pos a]
theorem Jd (h : hs.size ≤ x) (a : ¬ A x) (b : B x) : tT hs o k A B C x = 4 := by unfold tT; rw [if_neg (by omega), if_neg a, if_pos b]
theorem Mr (h : hs.size ≤ x) (a : ¬ A x) (b : ¬ B x) (c : C x) : tT hs o k A B C x = 11 + 2 * k := by unfold tT; rw [if_neg (by omega), if_neg a, if_neg b, if_pos c]
theorem vy (h : hs.size ≤ x) (a : ¬ A x) (b : ¬ B x) (c : ¬ C x) : tT hs o k A B C x = 0 := by unfold tT; rw [if_neg (by omega), if_neg a, if_neg b, if_neg c]
theorem Fo : Au.Old hs o (tT hs o k A B C) := fun x hx => oh hx
end
theorem uA {o : Tag} {h : aB} {a : Addr} {vs : List Value} {T : TypeId} (w : Own h a vs T) (ho : o a.block = 0) : Kp (fun x => o x = 0) h fun h' => aY h' a vs := fun h' f => (w.fr f fun hh => hh ho).cells
theorem lD.snoc {N : Nat} {F : Nat → Prop} {o : Tag} {h : aB} {s c t9 : Addr} {bs : List Bd} {gs K : List Gr} {av pa : List Addr} {tx : Nat → Au.Nm} {sn : Nat → Gr → List Bool} (R : lD N F o h s c t9 bs gs K av pa tx sn) {ga p : Addr} {g : Gr}
  (P : ov N o K.length h t9 ga g p (tx K.length) (sn K.length g)) : lD N F o h s c t9 bs gs (K ++ [g]) (av ++ [ga]) (pa ++ [p]) tx sn := by
 have la := R.la
 have lp := R.lp
 refine ⟨R.low, R.fp, R.set, R.k9, by simp [la], by simp [lp], fun i h1 h2 h3 => ?_⟩
 rw [List.length_append, List.length_singleton] at h1
 by_cases hi : i < K.length
 ·rw [List.getElem_append_left hi, List.getElem_append_left (by omega), List.getElem_append_left (by omega)]
  exact R.part i hi (by omega) (by omega)
 ·have : i = K.length := by omega
  subst this
  have e1 : (K ++ [g])[K.length] = g := by simp
  have e2 : (av ++ [ga])[K.length]'h2 = ga := by rw [List.getElem_append_right (by omega)]; simp
  have e3 : (pa ++ [p])[K.length]'h3 = p := by rw [List.getElem_append_right (by omega)]; simp
  rw [e1, e2, e3]; exact P
end Go.Proofs.YtjmfpeiidlpngaaGreatDoor
namespace Go.Proofs.YtjmfpeiidlpngaaGreatDoor
set_option linter.unusedSimpArgs false
set_option linter.unusedVariables false
set_option maxRecDepth 20000
open Go
open Go.IntKind (wrap)
set_option maxHeartbeats 1000000 in
theorem IR [Gh] {N k : Nat} {o : Tag} {h0 hs h : aB} {s c t9 : Addr} {bs : List Bd} {gs K : List Gr} {av pa : List Addr} {f : aR} {dir : Int}
  (hN : N ≤ h0.size) (R : lD N (fun x => h0.size ≤ x) o hs s c t9 bs gs K av pa (fun _ => []) (sn0 [])) (C : uR o hs s c f dir pa [] 0 false []) (f0 : Fr (fun _ => False) h0 hs) (hK : K.length = k) (hkl : k ≤ 40)
  {g : Gr} {ga pk t12 t13 : Addr} {q : Option Addr} {qc : Nat} (T : IQ hs h ga pk t12 t13 q (gY g).length qc) (fs : Fr (fun _ => False) hs h) {au : Addr} {sg : List Au.St} {ws : List Au.Nm} (G : GpX N hs ga g au sg ws)
  {keep : Bool} {pga : Option Addr} {pgn pgc : Nat} {t28 : Int} {Q : Value → aB → Prop} {Kn1 : Bool × Int → aB → Prop}
  (hk : ∀ keep' pa' h' o', keep' = (keep || (decide (g.Patterns.xs ≠ []) && decide (g.Transforms.xs ≠ []))) → Fr (fun _ => False) h0 h' → lD N (fun x => h0.size ≤ x) o' h' s c t9 bs gs (K ++ [g]) (av ++ [ga]) pa' (fun _ => []) (sn0 []) → uR o' h' s c f dir pa' [] 0 false [] → Kn1 (keep', (k : Int) + 1) h') :
  dJ t9 keep t12 t13 pga pgn pgc t28 (k : Int) Q Kn1 h := by
 unfold dJ
 have lp := R.lp
 obtain ⟨tg, pp, pc, bp, bc, op, oc, ow, R1, t1, R2, t2, R3, t3⟩ := C
 have lc := ow.lt
 have cge : h0.size ≤ c.block := by
  refine R.fp _ lc ?_ (by rw [tg]; omega)
  rcases Nat.lt_or_ge c.block N with hl | hl
  ·have := R.low _ hl; omega
  ·exact hl
 have ppge : ∀ x, InA pp x → h0.size ≤ x := fun x hx => by
  refine R.fp _ (R1.lt hx) ?_ (by rw [t1 x hx]; omega)
  rcases Nat.lt_or_ge x N with hl | hl
  ·have := R.low _ hl; have := t1 x hx; omega
  ·exact hl
 have zf0 := f0.size
 have zs := fs.size
 have k9 := R.k9.fr0 fs
 have ow1 := ow.fr0 fs
 refine bB (k9.now.at0 rfl) (bB (k9.now.at0 rfl) (aV (aC (ow1.cells.at (j := 11) rfl) (bB (T.o13.cells.at0 rfl) ?_))))
 refine aU (vs := adV pk) fun t49 h19 f19 e19 o49 => ?_
 have z19 := f19.size
 have k19 := k9.fr0 f19
 have ow19 := ow1.fr0 f19
 refine ⟨bB (k19.now.at0 rfl) rfl, bB (k19.now.at0 rfl) rfl, aC (ow19.cells.at (j := 11) rfl) rfl, ?_⟩
 refine ((R1.fr0 fs).fr0 f19).app GP Tryz.underlying97 (by intro k e; cases e) (by kernel_rfl) (by decide +kernel) wq Bg o49 1 (by omega) fun pp' pc' h20 R1' f20 hn20 => ⟨_, _, _, rfl, ?_⟩
 have z20 := f20.size
 have k20 := k19.fr (B' := fun x => o x = 0) f20 (fun x hx h1 hh => by have := t1 x hh; omega) fun _ _ => id
 refine ⟨bB (k20.now.at0 rfl) rfl, aV ?_⟩
 have ow20 := ow19.fr f20 fun hh => by have := t1 _ hh; omega
 refine cO ow20 11 (by show 11 < 16; omega) rfl fun h21 f21 z21 ow21 => ?_
 have k21 := k20.fr (B' := fun x => o x = 0) f21 (fun x hx h1 hh => by rw [hh] at h1; omega) fun _ _ => id
 have lpp : ∀ x, InA pp x → x < hs.size := fun x hx => R1.lt hx
 have T19 := T.fr f19 fun x hh => hh.elim
 have T20 := T19.fr f20 lpp
 have T21 := T20.fr f21 fun x hh => by omega
 have F21 : Fr (fun x => InA pp x ∨ x = c.block) hs h21 := (((fs.trans f19).mono fun _ => False.elim).trans (f20.mono fun _ => .inl)).trans (f21.mono fun _ => .inr)
 have G21 := G.fr F21 fun x hx hh => by
  rcases Nat.lt_or_ge x N with hl | hl
  ·have := R.low x hl
   rcases hh with hh | hh
   ·have := t1 x hh; omega
   ·rw [hh, tg] at this; omega
  ·exact hl
 have gc := tH G21.1.now.1
 have gok := G21.1.now.2
 have npp' : ∀ x, InA pp' x → InA pp x ∨ h19.size ≤ x := hn20
 have nq' : ∀ x, InA q x → ¬ InA pp' x := fun x hx hh => by
  have h1 := T19.row.lt hx
  have h2 := (T.qn x hx).1
  rcases hn20 x hh with h | h
  ·have := lpp x h; omega
  ·omega
 have own' : ∀ {a : Addr}, hs.size ≤ a.block → a.block < h19.size → ¬ InA pp' a.block := fun {a} h1 h2 hh => by
  rcases hn20 _ hh with h | h
  ·have := lpp _ h; omega
  ·omega
 have l12 := T19.o12.lt
 have lpk := T19.op.lt
 have l13 := T19.o13.lt
 have fin : ∀ h' (Cu : Nat → Prop) (fd en : Value) (pp2 : Option Addr) (pc2 : Nat), (∀ x, Cu x → h21.size ≤ x) → ∀ {S : Nat → Prop}, Fr S h21 h' → (∀ x, S x → x = pk.block ∨ h21.size ≤ x) →
   Own h' pk [.pointer (some ga), .slice q (gY g).length qc, fd, en] jK → Jn N (tT hs o k (InA q) (InA pp') Cu) k h' t9 ga g pk au ws [] fd en →
   Fr (fun _ => False) h0 h' ∧ lD N (fun x => h0.size ≤ x) (tT hs o k (InA q) (InA pp') Cu) h' s c t9 bs gs (K ++ [g]) (av ++ [ga]) (pa ++ [pk]) (fun _ => []) (sn0 []) ∧ uR (tT hs o k (InA q) (InA pp') Cu) h' s c f dir (pa ++ [pk]) [] 0 false [] := by
  intro h' Cu fd en pp2 pc2 hCu S fS hS oP M
  have zS := fS.size
  have Ftot : Fr (fun x => InA pp x ∨ x = c.block) hs h' := F21.tr fS fun x hx hh => by
   have := T.ge.2.1
   rcases hS x hh with h | h
   ·omega
   ·omega
  have nS : ∀ x, x < h21.size → x ≠ pk.block → ¬ S x := fun x hx hne hh => by
   rcases hS x hh with h | h
   ·exact hne h
   ·omega
  have tpp : ∀ x, InA pp' x → tT hs o k (InA q) (InA pp') Cu x = 4 := fun x hx => by
   rcases Nat.lt_or_ge x hs.size with hl | hl
   ·rw [oh hl]
    rcases hn20 x hx with h | h
    ·exact t1 x h
    ·omega
   ·exact Jd hl (fun hh => nq' x hh hx) hx
  have Rr : lD N (fun x => h0.size ≤ x) (tT hs o k (InA q) (InA pp') Cu) h' s c t9 bs gs K av pa (fun _ => []) (sn0 []) := by
   refine R.fr Ftot Fo (fun x hx hh => ?_) (fun x hx hN' hne => ?_) Ftot.size
   ·rcases hh with hh | hh
    ·have := t1 x hh; omega
    ·rw [hh, tg]; omega
   ·rcases Nat.lt_or_ge x hs.size with hl | hl
    ·exact R.fp x hl hN' (by rw [oh hl] at hne; exact hne)
    ·show h0.size ≤ x; omega
  refine ⟨f0.tr Ftot fun x hx hh => ?_, Rr.snoc ⟨?_, ?_, q, qc, fd, en, au, sg, ws, ?_, ?_, fun x hx => ?_, ?_, ?_⟩, ?_, pp', pc', bp, bc, op, oc, ?_, ?_, tpp, ?_, fun x hx => ?_, ?_, fun x hx => ?_⟩
  ·rcases hh with hh | hh
   ·have := ppge x hh; omega
   ·omega
  ·exact vy T.ge.2.1 (fun hh => (T.qn _ hh).2.2.1 rfl) (own' T.ge.2.1 lpk) fun hh => by have := hCu _ hh; omega
  ·exact na _ _
  ·have := uA (o := tT hs o k (InA q) (InA pp') Cu) oP (vy T.ge.2.1 (fun hh => (T.qn _ hh).2.2.1 rfl) (own' T.ge.2.1 lpk) fun hh => by have := hCu _ hh; omega)
   rw [← na g []] at this
   exact this
  ·have e : iD g [] = List.replicate (gY g).length false := by
    unfold iD; split
    ·exact Da _
    ·rfl
   show Row 1 bbV h' q qc (iD g [])
   rw [e]
   refine T21.row.fr fS fun x hx => nS x ?_ ?_
   ·exact T21.row.lt hx
   ·exact (T.qn x hx).2.2.1
  ·rw [hK]; exact Mo (T.qn x hx).1 hx
  ·exact G21.fr fS fun x hx hh => by
    rcases hS x hh with h | h
    ·have := T.ge.2.1; omega
    ·have := G.2.s.1; omega
  ·rw [hK]; exact M
  ·rw [oh lc]; exact tg
  ·have := ow21.fr fS (nS _ (by omega) (by have := T.ge.2.1; omega))
   exact this
  ·exact (R1'.fr f21 fun x hx hh => by
    rcases hn20 x hx with h | h
    ·have := t1 x h; rw [hh, tg] at this; omega
    ·omega).fr fS fun x hx => nS x (by have := R1'.lt hx; omega) fun e => by
     rcases hn20 x hx with h | h
     ·have := lpp x h; have := T.ge.2.1; omega
     ·omega
  ·exact R2.fr Ftot fun x hx hh => by
    have := t2 x hx
    rcases hh with hh | hh
    ·have := t1 x hh; omega
    ·rw [hh, tg] at this; omega
  ·rw [oh (R2.lt hx)]; exact t2 x hx
  ·exact R3.fr Ftot fun x hx hh => by
    have := t3 x hx
    rcases hh with hh | hh
    ·have := t1 x hh; omega
    ·rw [hh, tg] at this; omega
  ·rw [oh (R3.lt hx)]; exact t3 x hx
 have plen : (gY g).length = g.Patterns.xs.length := rJ g
 refine bB (T21.o12.cells.at0 rfl) (aV (aC (gc.at (j := 2) rfl) ?_))
 rw [wr (by omega) (by omega)]
 refine ifE (fun e => ?_) fun e => ?_
 ·have e0 : g.Patterns.xs = [] := List.length_eq_zero_iff.1 (by omega)
  obtain ⟨a1, a2, a3⟩ := fin h21 (fun _ => False) Ak Cy none 0 (fun _ hh => hh.elim) (Fr.refl (fun _ => False) _) (fun _ hh => hh.elim) T21.op (.inl ⟨e0, rfl, rfl⟩)
  exact hk _ _ h21 _ (by simp [e0]) a1 a2 a3
 have hne : g.Patterns.xs ≠ [] := fun e2 => e (by rw [e2]; rfl)
 refine bB (T21.o12.cells.at0 rfl) (aV (aC (gc.at (j := 1) rfl) ?_))
 refine ifE (fun e2 => ?_) fun e2 => ?_
 ·have e0 : g.Transforms.xs = [] := List.length_eq_zero_iff.1 (by omega)
  refine bB (T21.o12.cells.at0 rfl) (aV (bB (G21.1.now.1.at (j := 5) rfl) ?_))
  refine Au.yO G21.2 fun cur h22 f22 hcur C22 => ⟨_, rfl, ?_⟩
  have z22 := f22.size
  refine aU (vs := [.pointer none]) fun t14 h23 f23 e23 o14 => ?_
  have z23 := f23.size
  have lcur := C22.lt
  refine oi o14 (by show 0 < 1; omega) rfl fun h24 f24 z24 o14' => ?_
  have T24 := ((T21.fr f22 fun x hh => hh.elim).fr f23 fun x hh => hh.elim)
  have o13' := T24.o13.fr f24 (by omega)
  have op' := T24.op.fr f24 (by omega)
  refine bB (o13'.cells.at0 rfl) (aV ?_)
  refine cO op' 2 (by show 2 < 4; omega) rfl fun h25 f25 z25 op25 => ?_
  have z24' := f24.size; have z25' := f25.size
  have F25 : Fr (fun x => x = pk.block ∨ h21.size ≤ x) h21 h25 := ((f22.mono fun _ => False.elim).trans (f23.mono fun _ => False.elim)).trans ((f24.mono fun x hh => .inr (by omega)).trans (f25.mono fun x hh => .inl hh))
  have o13'' := o13'.fr f25 fun hh => T.ne.2.2 hh.symm
  have o14'' := o14'.fr f25 (by omega)
  have t0 : ∀ x, hs.size ≤ x → x < h19.size → ¬ InA q x → tT hs o k (InA q) (InA pp') (fun x => x = cur.block) x = 0 := fun x h1 h2 h3 => vy h1 h3 (fun hh => by
   rcases hn20 _ hh with h | h
   ·have := lpp _ h; omega
   ·omega) (by omega)
  obtain ⟨a1, a2, a3⟩ := fin h25 (fun x => x = cur.block) (Kc t9 t13 t14) Cy none 0 (fun x hh => by omega) F25 (fun x hh => hh) op25 (.inr (.inl ⟨hne, e0, rfl, t13, t14, cur, none, rfl, (uA o13'' (t0 _ T.ge.2.2 l13 fun hh => (T.qn _ hh).2.2.2 rfl)).and (uA o14'' (vy (by omega) (fun hh => by have := T21.row.lt hh; omega) (fun hh => by have := R1'.lt hh; omega) (by omega))),
   ((C22.fr0 f23).fr f24 (by omega) fun x hx => (cU hx).elim).fr f25 (by omega) (fun x hx => (cU hx).elim), Mr (by omega) (fun hh => by have := T21.row.lt hh; omega) (fun hh => by have := R1'.lt hh; omega) rfl, fun x hx => (cU hx).elim⟩))
  exact hk _ _ h25 _ (by simp [e0]) a1 a2 a3
 ·have e0 : g.Transforms.xs ≠ [] := fun e3 => e2 (by rw [e3]; rfl)
  refine bB (T21.o13.cells.at0 rfl) (aV ?_)
  refine cO T21.op 3 (by show 3 < 4; omega) rfl fun h26 f26 z26 op26 => ?_
  have o13' := T21.o13.fr f26 fun hh => T.ne.2.2 hh.symm
  have o12' := T21.o12.fr f26 fun hh => T.ne.1 hh
  obtain ⟨a1, a2, a3⟩ := fin h26 (fun _ => False) Ak (K3 t12 t9 t13) none 0 (fun x hh => hh.elim) f26 (fun x hh => .inl hh) op26 (.inr (.inr ⟨hne, e0, rfl, t12, t13, rfl, (uA o12' (vy T.ge.1 (fun hh => (T.qn _ hh).2.1 rfl) (own' T.ge.1 l12) id)).and (uA o13' (vy T.ge.2.2 (fun hh => (T.qn _ hh).2.2.2 rfl) (own' T.ge.2.2 l13) id))⟩))
  exact hk _ _ h26 _ (by simp [hne, e0]) a1 a2 a3
end Go.Proofs.YtjmfpeiidlpngaaGreatDoor
namespace Go.Proofs.YtjmfpeiidlpngaaGreatDoor
set_option linter.unusedSimpArgs false
set_option linter.unusedVariables false
set_option maxRecDepth 20000
open Go
open Go.IntKind (wrap)
def vW (N : Nat) (F : Nat → Prop) (h : aB) (s c : Addr) (f : aR) (dir : Int) (bs : List Bd) (gs K : List Gr) (w : Au.Nm) (work : Int) (done : Bool) (out : List Int) : Prop :=
 ∃ (o : Tag) (t9 : Addr) (av pa : List Addr) (kp : Option Addr), lD N F o h s c t9 bs gs K av pa (fun _ => w) (sn0 w) ∧ uR o h s c f dir (pa ++ kp.toList) (if rv K = true then w else []) work done out ∧ CG o h t9 kp ∧ kp.isSome = rv K
theorem Gg (K : List Gr) (g : Gr) : rv (K ++ [g]) = (rv K || (decide (g.Patterns.xs ≠ []) && decide (g.Transforms.xs ≠ []))) := by
 unfold rv; rw [List.any_append]; simp
theorem Jl [Gh] {N : Nat} {o : Tag} {h0 h : aB} {s c t9 : Addr} {bs : List Bd} {gs K : List Gr} {av pa : List Addr} {f : aR} {dir : Int}
  (hN : N ≤ h0.size) (R : lD N (fun x => h0.size ≤ x) o h s c t9 bs gs K av pa (fun _ => []) (sn0 [])) (C : uR o h s c f dir pa [] 0 false []) (f0 : Fr (fun _ => False) h0 h) (hkl : K.length ≤ 40)
  {Q : Value → aB → Prop} (hk : ∀ h', Fr (fun _ => False) h0 h' → vW N (fun x => h0.size ≤ x) h' s c f dir bs gs K [] 0 false [] → h0.size ≤ c.block → Q (.pointer (some c)) h') :
  jn t9 (rv K) Q h := by
 unfold jn
 have lp := R.lp
 have C0 := C
 obtain ⟨tg, pp, pc, bp, bc, op, oc, ow, R1, t1, R2, t2, R3, t3⟩ := C
 have lc := ow.lt
 have cge : h0.size ≤ c.block := by
  refine R.fp _ lc ?_ (by rw [tg]; omega)
  rcases Nat.lt_or_ge c.block N with hl | hl
  ·have := R.low _ hl; omega
  ·exact hl
 have ppge : ∀ x, InA pp x → h0.size ≤ x := fun x hx => by
  refine R.fp _ (R1.lt hx) ?_ (by rw [t1 x hx]; omega)
  rcases Nat.lt_or_ge x N with hl | hl
  ·have := R.low _ hl; have := t1 x hx; omega
  ·exact hl
 have k9 := R.k9
 refine ifB (fun e => ?_) fun e => ?_
 ·refine bB (k9.now.at0 rfl) (bB (k9.now.at0 rfl) (aV (aC (ow.cells.at (j := 11) rfl) ?_)))
  refine aU (vs := [.int .i64 0, .slice none 0 0, .slice none 0 0, .slice none 0 0, .slice none 0 0, .pointer none]) fun t90 h1 f1 e1 o90 => ?_
  have k91 := k9.fr0 f1
  have ow1 := ow.fr0 f1
  refine ⟨bB (k91.now.at0 rfl) rfl, bB (k91.now.at0 rfl) rfl, aC (ow1.cells.at (j := 11) rfl) rfl, ?_⟩
  refine aU (vs := [.pointer (some t90), .slice none 0 0, II t9, MJ]) fun t93 h2 f2 e2 o93 => ?_
  have k92 := k91.fr0 f2
  have ow2 := ow1.fr0 f2
  refine ⟨bB (k92.now.at0 rfl) rfl, bB (k92.now.at0 rfl) rfl, aC (ow2.cells.at (j := 11) rfl) rfl, ?_⟩
  refine aU (vs := adV t93) fun t94 h3 f3 e3 o94 => ?_
  have k93 := k92.fr0 f3
  have ow3 := ow2.fr0 f3
  have z1 := f1.size; have z2 := f2.size; have z3 := f3.size
  refine ⟨bB (k93.now.at0 rfl) rfl, bB (k93.now.at0 rfl) rfl, aC (ow3.cells.at (j := 11) rfl) rfl, ?_⟩
  have F3 := (f1.trans f2).trans f3
  refine (R1.fr0 F3).app GP Tryz.underlying97 (by intro k e; cases e) (by kernel_rfl) (by decide +kernel) wq Bg o94 1 (by omega) fun pp' pc' h4 R1' f4 hn4 => ⟨_, _, _, rfl, ?_⟩
  have z4 := f4.size
  have k94 := k93.fr (B' := fun x => o x = 0) f4 (fun x hx h1 hh => by have := t1 x hh; omega) fun _ _ => id
  refine ⟨bB (k94.now.at0 rfl) rfl, aV ?_⟩
  have ow4 := ow3.fr f4 fun hh => by have := t1 _ hh; omega
  refine cO ow4 11 (by show 11 < 16; omega) rfl fun h5 f5 z5 ow5 => ?_
  have k95 := k94.fr (B' := fun x => o x = 0) f5 (fun x hx h1 hh => by rw [hh] at h1; omega) fun _ _ => id
  refine bB (k95.now.at0 rfl) ?_
  have z5' := f5.size
  have lpp : ∀ x, InA pp x → x < h.size := fun x hx => R1.lt hx
  have l90 := o90.lt; have l93 := o93.lt; have l94 := o94.lt
  have Ft : Fr (fun x => InA pp x ∨ x = c.block) h h5 := ((F3.mono fun _ => False.elim).trans (f4.mono fun _ => .inl)).trans (f5.mono fun _ => .inr)
  have own' : ∀ x, h.size ≤ x → x < h3.size → ¬ InA pp' x := fun x h1 h2 hh => by
   rcases hn4 _ hh with h | h
   ·have := lpp _ h; omega
   ·omega
  have nF : ∀ x, ¬ (fun _ : Nat => False) x := fun _ => id
  have o90' := ((o90.fr0 f2).fr0 f3).fr f4 (fun hh => by have := lpp _ hh; omega) |>.fr f5 (by omega)
  have o93' := (o93.fr0 f3).fr f4 (fun hh => by have := lpp _ hh; omega) |>.fr f5 (by omega)
  have tpp : ∀ x, InA pp' x → tT h o 0 (fun _ => False) (InA pp') (fun _ => False) x = 4 := fun x hx => by
   rcases Nat.lt_or_ge x h.size with hl | hl
   ·rw [oh hl]
    rcases hn4 x hx with h | h
    ·exact t1 x h
    ·omega
   ·exact Jd hl id hx
  refine hk h5 (f0.tr Ft fun x hx hh => ?_) ⟨tT h o 0 (fun _ => False) (InA pp') (fun _ => False), t9, av, pa, some t93, R.fr Ft Fo (fun x hx hh => ?_) (fun x hx hN' hne => ?_) Ft.size, ⟨?_, pp', pc', bp, bc, op, oc, ?_, ?_, tpp, ?_, fun x hx => ?_, ?_, fun x hx => ?_⟩, fun a ea => ?_, by rw [e]; rfl⟩ cge
  ·rcases hh with hh | hh
   ·have := ppge x hh; omega
   ·omega
  ·rcases hh with hh | hh
   ·have := t1 x hh; omega
   ·rw [hh, tg]; omega
  ·rcases Nat.lt_or_ge x h.size with hl | hl
   ·exact R.fp x hl hN' (by rw [oh hl] at hne; exact hne)
   ·have := f0.size; show h0.size ≤ x; omega
  ·rw [oh lc]; exact tg
  ·rw [ite_self]; exact ow5
  ·exact R1'.fr f5 fun x hx hh => by
    rcases hn4 x hx with h | h
    ·have := t1 x h; rw [hh, tg] at this; omega
    ·omega
  ·rw [ite_self]
   exact R2.fr Ft fun x hx hh => by
    have := t2 x hx
    rcases hh with hh | hh
    ·have := t1 x hh; omega
    ·rw [hh, tg] at this; omega
  ·rw [oh (R2.lt hx)]; exact t2 x hx
  ·exact R3.fr Ft fun x hx hh => by
    have := t3 x hx
    rcases hh with hh | hh
    ·have := t1 x hh; omega
    ·rw [hh, tg] at this; omega
  ·rw [oh (R3.lt hx)]; exact t3 x hx
  ·simp only [Option.some.injEq] at ea
   subst ea
   exact ⟨t90, (uA o93' (vy (by omega) id (own' _ (by omega) (by omega)) id)).and (uA o90' (vy (by omega) id (own' _ (by omega) (by omega)) id))⟩
 ·refine bB (k9.now.at0 rfl) ?_
  refine hk h f0 ⟨o, t9, av, pa, none, R, ?_, fun a ea => (by cases ea), by rw [e]; rfl⟩ cge
  rw [ite_self]
  have : pa ++ (none : Option Addr).toList = pa := by simp
  rw [this]; exact C0
set_option maxHeartbeats 1000000 in
theorem yO [Gh] {N : Nat} {h0 : aB} {s : Addr} {bs : List Bd} {gs : List Gr} (T0 : xu N h0 s bs gs) (hg : gs.length ≤ 40) (hpl : ∀ g ∈ gs, g.Patterns.xs.length ≤ 512) (f : aR) (kind dir : Int)
  {Q : Value → aB → Prop} (hk : ∀ c h', Fr (fun _ => False) h0 h' → vW N (fun x => h0.size ≤ x) h' s c f dir bs gs (gs.filter fun g => g.Kind = kind) [] 0 false [] → h0.size ≤ c.block → Q (.pointer (some c)) h') :
  aD Tryz.prog jf #[.pointer (some s), .agg f.vals.toArray, .int .i64 kind, .int .i64 dir] h0 Q := by
 apply wC
 unfold qr
 have hN := T0.1
 refine aU (vs := f.vals) fun t5 h1 f1 e1 o5 => ?_
 refine Cx ?_
 refine (aA (o5.cells.at0 rfl) (aG (o5.cells.at rfl) (aA (o5.cells.at rfl) (aA (o5.cells.at rfl) (aG (o5.cells.at rfl) (aA (o5.cells.at rfl) (aA (o5.cells.at rfl) (aA (o5.cells.at rfl) (aA (o5.cells.at rfl) ?_)))))))))
 refine aU (vs := Bw s f dir none 0 0 none 0 0 0 false none 0 0) fun c h2 f2 e2 oC => ?_
 refine aU (vs := [.pointer none]) fun t9 h3 f3 e3 o9 => ?_
 refine oi o9 (by show 0 < 1; omega) rfl fun h4 f4 z4 o9' => ?_
 have z1 := f1.size; have z2 := f2.size; have z3 := f3.size; have z4' := f4.size
 have lC := oC.lt; have l9 := o9.lt
 have F3 := (f1.trans f2).trans f3
 have F4 : Fr (fun _ => False) h0 h4 := F3.tr f4 fun x hx hh => by omega
 obtain ⟨_, p1, c1, m, mm, k1, k2⟩ := T0
 have T0 : xu N h0 s bs gs := ⟨hN, p1, c1, m, mm, k1, k2⟩
 have k1 := k1.fr0 F4
 obtain ⟨pk, ck, av, ek, kR, Gp⟩ := k2 kind
 refine aV (lL (k1.now.1.at (j := 1) rfl) ?_)
 refine yC FU Tryz.underlying76 Hl k1.now.2.2.2 kind false ?_
 rw [if_neg (by decide)]
 refine ⟨_, _, _, ek, ?_⟩
 have oC4 := (oC.fr0 f3).fr f4 (by omega)
 have Klen : (gs.filter fun g => g.Kind = kind).length ≤ 40 := Nat.le_trans (List.length_filter_le _ _) hg
 have avl := Gp.len
 generalize hKK : (gs.filter fun g => decide (g.Kind = kind)) = K at *
 refine aH.mk (fun st h' => ∃ (k : Nat) (o : Tag) (pa : List Addr), st = (rv (K.take k), (k : Int)) ∧ k ≤ K.length ∧ Fr (fun _ => False) h0 h' ∧ lD N (fun x => h0.size ≤ x) o h' s c t9 bs gs (K.take k) (av.take k) pa (fun _ => []) (sn0 []) ∧ uR o h' s c f dir pa [] 0 false [] )
  (fun st _ => K.length - st.2.toNat) ⟨0, fun x => if x = c.block then 1 else if x < N then 0 else if x < h0.size then 9 else 0, [], rfl, by omega, F4, ⟨fun x hx => by rw [if_neg (by omega), if_pos hx], fun x hx hn hne => ?_, T0.fr0 F4, uA o9' (by rw [if_neg (by omega), if_neg (by omega), if_neg (by omega)]), by simp, rfl, fun i h => absurd h (by simp)⟩, ⟨if_pos rfl, none, 0, none, 0, none, 0, oC4, Row.nil, fun x hx => (cU hx).elim, Row.nil, fun x hx => (cU hx).elim, Row.nil, fun x hx => (cU hx).elim⟩⟩ ?_
 ·refine Classical.byContradiction fun hh => hne ?_
  have hh' : x < h0.size := Nat.lt_of_not_le hh
  rw [if_neg (by omega), if_neg (by omega), if_pos hh']
 rintro st hs ⟨k, o, pa, rfl, hkl, fs, R, C⟩
 dsimp only
 unfold lO
 refine ifD (fun hlt => ?_) (fun hge => ?_)
 ·have hi : k < K.length := by omega
  have hia : k < av.length := by omega
  have Rav := kR hs (fs.mono fun x hx => hx.elim)
  refine Rav.idx wq (by omega) k rfl hia fun ad cc => ?_
  rw [Int.toNat_natCast]
  refine bB (cc.at0 rfl) ?_
  have Gk0 := Gp.at_ k hia hi
  obtain ⟨au, sg, ws, Gk⟩ := GpX.of ((Gk0.fr (B' := fun x => x < N) fs (fun _ _ _ => id) fun _ _ => id)) R.set.1
  have gpl : K[k].Patterns.xs.length ≤ 512 := hpl _ (by
   have : K[k] ∈ gs.filter fun g => decide (g.Kind = kind) := by rw [hKK]; exact List.getElem_mem hi
   exact (List.mem_filter.1 this).1)
  refine aU (vs := [.pointer none]) fun t12 a1 g1 d1 q12 => ?_
  refine oi q12 (by show 0 < 1; omega) rfl fun a2 g2 d2 q12' => ?_
  have y1 := g1.size; have y2 := g2.size
  have l12 := q12.lt
  have Fa2 : Fr (fun _ => False) hs a2 := g1.tr g2 fun x hx hh => by omega
  refine bB (q12'.cells.at0 rfl) (bB (q12'.cells.at0 rfl) (aV ?_))
  have Ga := Gk.fr Fa2 fun _ _ h => h.elim
  have gc := tH Ga.1.now.1
  refine aC (gc.at (j := 2) rfl) ?_
  have fin : ∀ (h' : aB) (t42 t13 : Addr) (q : Option Addr) (qc : Nat), IQ hs h' av[k] t42 t12 t13 q K[k].Patterns.xs.length qc → Fr (fun _ => False) hs h' →
    dJ t9 (rv (K.take k)) t12 t13 pk av.length ck ((av.length : Nat) : Int) (k : Int) Q (fun s' h' => (∃ (k : Nat) (o : Tag) (pa : List Addr), s' = (rv (K.take k), (k : Int)) ∧ k ≤ K.length ∧ Fr (fun _ => False) h0 h' ∧ lD N (fun x => h0.size ≤ x) o h' s c t9 bs gs (K.take k) (av.take k) pa (fun _ => []) (sn0 []) ∧ uR o h' s c f dir pa [] 0 false [] ) ∧ K.length - s'.2.toNat < K.length - (k : Int).toNat) h' := by
   intro h' t42 t13 q qc Tn fh
   rw [← rJ] at Tn
   refine IR (N := N) (k := k) (g := K[k]) (ga := av[k]) hN R C fs (by simp; omega) (by omega) Tn fh Gk fun keep' pa' h'' o' ek fk Rk Ck => ?_
   have e1 : K.take (k + 1) = K.take k ++ [K[k]] := by rw [List.take_append_getElem]
   have e2 : av.take (k + 1) = av.take k ++ [av[k]] := by rw [List.take_append_getElem]
   refine ⟨⟨k + 1, o', pa', by rw [e1, Gg, ek]; simp, by omega, fk, by rw [e1, e2]; exact Rk, Ck⟩, by dsimp only; omega⟩
  have T2 : ∀ {h' : aB}, Fr (fun _ => False) a2 h' → Own h' t12 [.pointer (some av[k])] fG := fun f => q12'.fr0 f
  have mk : ∀ (hx : aB) {K' : Value → aB → Prop}, (∀ a h', Fr (fun _ => False) hx h' → hx.size ≤ a.block → Row 1 bbV h' (some a) K[k].Patterns.xs.length (List.replicate K[k].Patterns.xs.length false) → K' (.slice (some a) K[k].Patterns.xs.length K[k].Patterns.xs.length) h') → yg Tryz.prog qL (.int .i64 ((K[k].Patterns.xs.length : Nat) : Int)) (.int .i64 ((K[k].Patterns.xs.length : Nat) : Int)) hx K' := by
   intro hx K' hK
   refine xM DA K[k].Patterns.xs.length rfl (Nat.le_trans (Nat.mul_le_mul gpl (show Tryz.t4.bytes ≤ 8 by decide +kernel)) (by decide)) fun a h' f' ea oa => hK a h' f' (by omega) ?_
   have el : (List.replicate K[k].Patterns.xs.length (Value.bool false).cells.toList).flatten = (List.replicate K[k].Patterns.xs.length false).flatMap bbV := by
    rw [List.flatMap_def, List.map_replicate]; rfl
   rw [el] at oa
   have := Row.of_own AB oa
   rw [List.length_replicate] at this
   exact this
  have gcf : ∀ {h' : aB}, Fr (fun _ => False) a2 h' → aY h' av[k] K[k].vals := fun f => gc.fr0 f
  refine ⟨?_, ?_⟩
  ·refine mk a2 fun q b1 j1 nq Rq => ⟨_, _, _, rfl, bB ((T2 j1).cells.at0 rfl) rfl, ?_, ?_⟩
   ·refine aU (vs := [.pointer (some av[k]), .slice (some q) K[k].Patterns.xs.length K[k].Patterns.xs.length, Ak, Cy]) fun t42 b2 j2 ej2 o42 => ?_
    refine aU (vs := [.pointer none]) fun t13 b3 j3 ej3 o13 => ?_
    have F3 := (j1.trans j2).trans j3
    refine ⟨bB ((T2 F3).cells.at0 rfl) rfl, bB ((T2 F3).cells.at0 rfl) rfl, aC ((gcf F3).at (j := 2) rfl) rfl, ?_⟩
    refine oi o13 (by show 0 < 1; omega) rfl fun b4 j4 w4 o13' => ?_
    have x1 := j1.size; have x2 := j2.size; have x3 := j3.size
    have l42 := o42.lt; have l13 := o13.lt
    have lq : q.block < b1.size := Rq.lt ⟨q, rfl, rfl⟩
    exact fin b4 t42 t13 (some q) _ ⟨(T2 F3).fr j4 (by omega), (o42.fr0 j3).fr j4 (by omega), o13', ((Rq.fr0 j2).fr0 j3).fr j4 (fun x hx hh => by obtain ⟨_, e, rfl⟩ := hx; cases e; omega), by omega, by omega, fun x hx => by obtain ⟨_, e, rfl⟩ := hx; cases e; omega⟩ ((Fa2.trans F3).tr j4 fun x hx hh => by omega)
   ·refine aU (vs := [.pointer none]) fun t13 b2 j2 ej2 o13 => ?_
    have F2 := j1.trans j2
    refine ⟨bB ((T2 F2).cells.at0 rfl) rfl, bB ((T2 F2).cells.at0 rfl) rfl, aC ((gcf F2).at (j := 2) rfl) rfl, ?_⟩
    refine aU (vs := [.pointer (some av[k]), .slice (some q) K[k].Patterns.xs.length K[k].Patterns.xs.length, Ak, Cy]) fun t42 b3 j3 ej3 o42 => ?_
    have F3 := F2.trans j3
    have l13 := o13.lt
    have o13 := o13.fr0 j3
    refine oi o13 (by show 0 < 1; omega) rfl fun b4 j4 w4 o13' => ?_
    have x1 := j1.size; have x2 := j2.size; have x3 := j3.size
    have l42 := o42.lt
    have lq : q.block < b1.size := Rq.lt ⟨q, rfl, rfl⟩
    exact fin b4 t42 t13 (some q) _ ⟨(T2 F3).fr j4 (by omega), o42.fr j4 (by omega), o13', ((Rq.fr0 j2).fr0 j3).fr j4 (fun x hx hh => by obtain ⟨_, e, rfl⟩ := hx; cases e; omega), by omega, by omega, fun x hx => by obtain ⟨_, e, rfl⟩ := hx; cases e; omega⟩ ((Fa2.trans F3).tr j4 fun x hx hh => by omega)
  ·refine aU (vs := [.pointer none]) fun t13 b1 j1 ej1 o13 => ?_
   refine ⟨bB ((T2 j1).cells.at0 rfl) rfl, bB ((T2 j1).cells.at0 rfl) rfl, aC ((gcf j1).at (j := 2) rfl) rfl, ?_⟩
   refine mk b1 fun q b2 j2 nq Rq => ⟨_, _, _, rfl, bB ((T2 (j1.trans j2)).cells.at0 rfl) rfl, ?_⟩
   refine aU (vs := [.pointer (some av[k]), .slice (some q) K[k].Patterns.xs.length K[k].Patterns.xs.length, Ak, Cy]) fun t42 b3 j3 ej3 o42 => ?_
   have F3 := (j1.trans j2).trans j3
   have l13 := o13.lt
   have o13 := (o13.fr0 j2).fr0 j3
   refine oi o13 (by show 0 < 1; omega) rfl fun b4 j4 w4 o13' => ?_
   have x1 := j1.size; have x2 := j2.size; have x3 := j3.size
   have l42 := o42.lt
   have lq : q.block < b2.size := Rq.lt ⟨q, rfl, rfl⟩
   exact fin b4 t42 t13 (some q) _ ⟨(T2 F3).fr j4 (by omega), o42.fr j4 (by omega), o13', (Rq.fr0 j3).fr j4 (fun x hx hh => by obtain ⟨_, e, rfl⟩ := hx; cases e; omega), by omega, by omega, fun x hx => by obtain ⟨_, e, rfl⟩ := hx; cases e; omega⟩ ((Fa2.trans F3).tr j4 fun x hx hh => by omega)
 ·have : k = K.length := by omega
  subst this
  rw [List.take_length] at R ⊢
  rw [show av.take K.length = av by rw [← avl, List.take_length]] at R
  exact Jl hN R C fs Klen fun h' f' S cg => hk c h' f' S cg
end Go.Proofs.YtjmfpeiidlpngaaGreatDoor
namespace Go.Proofs.YtjmfpeiidlpngaaGreatDoor
set_option linter.unusedSimpArgs false
set_option linter.unusedVariables false
set_option maxRecDepth 20000
open Go
open Go.IntKind (wrap)
section
variable {N : Nat} {F F' : Nat → Prop} {o o' : Tag} {h h' : aB} {s c t9 : Addr} {f : aR} {dir : Int} {bs : List Bd} {gs K : List Gr} {av pa L : List Addr} {tx tx' : Nat → Au.Nm} {sn sn' : Nat → Gr → List Bool} {S : Nat → Prop}
theorem lD.upd (R : lD N F o h s c t9 bs gs K av pa tx sn) (f : Fr S h h') (ho : Au.Old h o o') (k : Nat) (hs : ∀ x, x < h.size → S x → o x ≠ 0 ∧ (o x < 10 ∨ o x = 10 + 2 * k ∨ o x = 11 + 2 * k)) (hF : ∀ x, x < h'.size → N ≤ x → o' x ≠ 9 → F' x)
  (hx : ∀ i g, i ≠ k → tx' i = tx i ∧ sn' i g = sn i g) (hP : ∀ (h1 : k < K.length) (h2 : k < av.length) (h3 : k < pa.length), ov N o' k h' t9 av[k] K[k] pa[k] (tx' k) (sn' k K[k])) : lD N F' o' h' s c t9 bs gs K av pa tx' sn' := by
 have hN := R.set.1
 refine ⟨fun x hx => by rw [ho x (by omega)]; exact R.low x hx, hF, R.set.fr f fun x hx hh => ?_, R.k9.tag f ho fun x hx hh => (hs x hx hh).1, R.la, R.lp, fun i h1 h2 h3 => ?_⟩
 ·rcases Nat.lt_or_ge x N with hl | hl
  ·exact absurd (R.low x hl) (hs x hx hh).1
  ·exact hl
 ·by_cases hi : i = k
  ·subst hi; exact hP h1 h2 h3
  ·have P := R.part i h1 h2 h3
   rw [(hx i K[i] hi).1, (hx i K[i] hi).2]
   exact P.fr P.lt R.low f ho fun x hx hh => by have := hs x hx hh; omega
theorem lD.ext (R : lD N F o h s c t9 bs gs K av pa tx sn) (hx : ∀ i (h1 : i < K.length), tx' i = tx i ∧ sn' i K[i] = sn i K[i]) : lD N F o h s c t9 bs gs K av pa tx' sn' := by
 refine ⟨R.low, R.fp, R.set, R.k9, R.la, R.lp, fun i h1 h2 h3 => ?_⟩
 rw [(hx i h1).1, (hx i h1).2]; exact R.part i h1 h2 h3
theorem ov.fd {N i : Nat} {o : Tag} {h : aB} {t9 ga : Addr} {g : Gr} {pa : Addr} {w : Au.Nm} {seen : List Bool} (P : ov N o i h t9 ga g pa w seen) : ∃ fd, hcell h (pa.add 2) = some fd := by
 obtain ⟨tg, ln, q, qc, fd, en, au, sg, ws, k, _⟩ := P
 exact ⟨fd, k.now.at (j := 2) rfl⟩
theorem ov.en {N i : Nat} {o : Tag} {h : aB} {t9 ga : Addr} {g : Gr} {pa : Addr} {w : Au.Nm} {seen : List Bool} (P : ov N o i h t9 ga g pa w seen) : ∃ en, hcell h (pa.add 3) = some en := by
 obtain ⟨tg, ln, q, qc, fd, en, au, sg, ws, k, _⟩ := P
 exact ⟨en, k.now.at (j := 3) rfl⟩
end
theorem Js [Gh] {h : aB} {p : Option Addr} {cap : Nat} {L : Au.Nm} (R : Row 1 Au.bV h p cap L) (t : Au.Nm) (hl : L.length + t.length ≤ 2 ^ 30) {K : Value → aB → Prop}
  (hk : ∀ p' cap' h', Row 1 Au.bV h' p' cap' (L ++ t) → Fr (InA p) h h' → (∀ b, InA p' b → InA p b ∨ h.size ≤ b) → K (.slice p' (L ++ t).length cap') h') :
  cQ Tryz.prog .append #[aL, bW] aL #[false, false] #[.slice p L.length cap, .string (bs t)] h K := by
 have s : Src h 1 (.string (bs t)) t.length (t.flatMap Au.bV) := by
  have := Src.str (h := h) (sz := 1) (bs t) rfl
  rw [x6, aX] at this
  rw [Au.wj]; exact this
 exact R.appL Au.Ei Tryz.underlying9 (by intro k e; cases e) (by kernel_rfl) (by decide +kernel) Au.rF (fun _ => rfl) s hl hk
theorem wx (K : List Gr) (k : Nat) (h : K.length ≤ k) : K.take k = K := List.take_of_length_le h
def nD (K : List Gr) : Nat := (K.filter j6).length
theorem K1 (K : List Gr) (g : Gr) : nD (K ++ [g]) = nD K + if j6 g = true then 1 else 0 := by
 unfold nD; rw [List.filter_append, List.length_append]
 by_cases h : j6 g = true
 ·rw [List.filter_cons_of_pos h, if_pos h]; rfl
 ·rw [List.filter_cons_of_neg h, if_neg h]; rfl
theorem JA (K : List Gr) : nD K ≤ K.length := List.length_filter_le _ _
def mid (w x : Au.Nm) (k i : Nat) : Au.Nm := if i < k then w ++ x else w
set_option maxHeartbeats 1000000 in
theorem FM [Gh] {N : Nat} {F : Nat → Prop} {h : aB} {s c : Addr} {f : aR} {dir : Int} {bs : List Bd} {gs K : List Gr} {w : Au.Nm} {work : Int} (S : vW N F h s c f dir bs gs K w work false []) (x : Au.Nm) (hx : w.length + x.length ≤ 2 ^ 16) (hK : K.length ≤ 40) (hw : 0 ≤ work ∧ work ≤ 2 ^ 30)
  {Q : Value → aB → Prop} (hk : ∀ h', Fr F h h' → vW N (fun y => F y ∨ h.size ≤ y) h' s c f dir bs gs K (w ++ x) (work + (nD K * x.length : Nat)) false [] → Q (.tuple #[]) h') :
  aD Tryz.prog gS #[.pointer (some c), .string (Go.Proofs.YtjmfpeiidlpngaaGreatDoor.bs x)] h Q := by
 apply wD
 unfold qu
 obtain ⟨o, t9, av, pa, kp, R, C, KP, hkp⟩ := S
 have C0 := C
 obtain ⟨tg, pp, pc, bp, bc, op, oc, ow, R1, t1, _⟩ := C
 refine Cx (aV (aG (ow.cells.at (j := 14) rfl) ?_))
 rw [if_neg (by decide)]
 refine aV (aC (ow.cells.at (j := 11) rfl) ?_)
 have lp := R.lp
 have la := R.la
 have hkl : kp.toList.length ≤ 1 := by cases kp <;> simp
 have hLl : (pa ++ kp.toList).length ≤ 41 := by rw [List.length_append]; omega
 have hLk : (pa ++ kp.toList).length = K.length + kp.toList.length := by rw [List.length_append]; omega
 have lpp : ∀ y, InA pp y → y < h.size := fun y hy => R1.lt hy
 refine aH.mk (fun st h' => ∃ (k : Nat) (o : Tag), st = (k : Int) ∧ k ≤ (pa ++ kp.toList).length ∧ Fr F h h' ∧ lD N (fun y => F y ∨ h.size ≤ y) o h' s c t9 bs gs K av pa (mid w x k) (fun i g => iD g (mid w x k i)) ∧ uR o h' s c f dir (pa ++ kp.toList) (if rv K = true then (if K.length < k then w ++ x else w) else []) (work + (nD (K.take k) * x.length : Nat)) false [] ∧ CG o h' t9 kp ∧ Row 1 adV h' pp pc (pa ++ kp.toList) ∧ ∀ y, InA pp y → o y = 4)
  (fun st _ => (pa ++ kp.toList).length - st.toNat) ⟨0, o, rfl, by omega, Fr.refl _ _, ?_, ?_, KP, R1, t1⟩ ?_
 ·refine ⟨R.low, fun y hy hn hne => .inl (R.fp y hy hn hne), R.set, R.k9, R.la, R.lp, fun i h1 h2 h3 => ?_⟩
  have := R.part i h1 h2 h3
  unfold mid; rw [if_neg (by omega)]; exact this
 ·have e : work + ((nD (K.take 0) * x.length : Nat) : Int) = work := by simp [nD]
  rw [e, if_neg (show ¬ K.length < 0 by omega)]; exact C0
 rintro st h1 ⟨k, o, rfl, hkl, fF, R, C, KP, Rp, tp⟩
 unfold lP
 have C1 := C
 obtain ⟨tg, pp1, pc1, bp, bc, op, oc, ow, R1, t1, R2, t2, R3, t3⟩ := C
 have zF := fF.size
 have hnd : ∀ m, (nD (K.take m) * x.length : Nat) ≤ 40 * 2 ^ 16 := fun m => Nat.mul_le_mul (Nat.le_trans (JA _) (by rw [List.length_take]; omega)) (by omega)
 have hFo : ∀ y, y < h1.size → o y ≠ 0 → o y ≠ 9 → y < h.size → F y := fun y hy h0 h9 hyh => by
  rcases R.fp y hy (by
   rcases Nat.lt_or_ge y N with hl | hl
   ·exact absurd (R.low y hl) h0
   ·exact hl) h9 with hh | hh
  ·exact hh
  ·omega
 refine ifD (fun hlt => ?_) (fun hge => ?_)
 ·have hi : k < (pa ++ kp.toList).length := by omega
  refine Rp.idx wq (by omega) k rfl hi fun ad cc => ?_
  rw [Int.toNat_natCast]
  refine bB (cc.at0 rfl) (aV ?_)
  by_cases hkK : k < K.length
  ·have e1 : (pa ++ kp.toList)[k] = pa[k]'(by omega) := List.getElem_append_left (by omega)
   rw [e1]
   have P := R.part k hkK (by omega) (by omega)
   obtain ⟨fd, hfd⟩ := P.fd
   refine DO hfd ?_
   have em : mid w x k k = w := by unfold mid; rw [if_neg (by omega)]
   have P' : ov N o k h1 t9 (av[k]'(by omega)) K[k] (pa[k]'(by omega)) w (iD K[k] w) := by have := P; rw [em] at this; exact this
   refine P'.feed P'.lt R.low ow tg R.k9 x hx (by have := hnd k; omega) (K := fun h' => _) hfd (fun h' hh => ⟨rfl, hh⟩) fun h' o' ho f' ow' Pn => ?_
   have z' := f'.size
   have eT : K.take (k + 1) = K.take k ++ [K[k]] := by rw [List.take_append_getElem]
   rw [wr (by omega) (by omega)]
   have hsT : ∀ y, y < h1.size → (o y = 1 ∨ o y = 10 + 2 * k ∨ o y = 11 + 2 * k) → o y ≠ 0 ∧ (o y < 10 ∨ o y = 10 + 2 * k ∨ o y = 11 + 2 * k) := fun y hy hh => by omega
   refine ⟨⟨k + 1, o', by omega, by omega, fF.tr f' fun y hy hh => hFo y (by omega) (by omega) (by omega) hy, R.upd f' ho k hsT (fun y hy hn hne => ?_) (fun i g hik => ?_) (fun h1 h2 h3 => ?_), ?_, KP.fr f' ho fun y hy hh => by omega, Rp.fr f' fun y hy hh => by have := tp y hy; omega, fun y hy => by rw [ho y (Rp.lt hy)]; exact tp y hy⟩, by omega⟩
   ·rcases Nat.lt_or_ge y h1.size with hl | hl
    ·exact R.fp y hl hn (by rw [← ho y hl]; exact hne)
    ·exact .inr (by omega)
   ·have : mid w x (k + 1) i = mid w x k i := by
     unfold mid
     by_cases hik2 : i < k
     ·rw [if_pos hik2, if_pos (by omega)]
     ·rw [if_neg hik2, if_neg (by omega)]
    exact ⟨this, by show iD g (mid w x (k + 1) i) = _; rw [this]⟩
   ·have e3 : mid w x (k + 1) k = w ++ x := by unfold mid; rw [if_pos (by omega)]
    rw [e3]; exact Pn
   ·have ew : work + ((nD (K.take k) * x.length : Nat) : Int) + (if j6 K[k] = true then (x.length : Int) else 0) = work + ((nD (K.take (k + 1)) * x.length : Nat) : Int) := by
     rw [eT, K1]
     by_cases hd : j6 K[k] = true
     ·rw [if_pos hd, if_pos hd, Nat.succ_mul]; omega
     ·rw [if_neg hd, if_neg hd, Nat.add_zero]; omega
    rw [ew] at ow'
    rw [if_neg (show ¬ K.length < k by omega)] at R2
    rw [if_neg (show ¬ K.length < k by omega)] at ow'
    rw [if_neg (show ¬ K.length < k + 1 by omega)]
    refine ⟨by rw [ho _ ow.lt]; exact tg, pp1, pc1, bp, bc, op, oc, ow', R1.fr f' (fun y hy hh => by have := t1 y hy; omega), fun y hy => by rw [ho _ (R1.lt hy)]; exact t1 y hy,
     R2.fr f' (fun y hy hh => by have := t2 y hy; omega), fun y hy => by rw [ho _ (R2.lt hy)]; exact t2 y hy, R3.fr f' (fun y hy hh => by have := t3 y hy; omega), fun y hy => by rw [ho _ (R3.lt hy)]; exact t3 y hy⟩
  ·obtain ⟨a, rfl⟩ : ∃ a, kp = some a := by
    cases kp with
    | none => simp at hi; omega
    | some a => exact ⟨a, rfl⟩
   have hkg : rv K = true := by rw [← hkp]; rfl
   have hl1 : (pa ++ (some a : Option Addr).toList).length = pa.length + 1 := by simp
   have hk0 : k = K.length := by omega
   have e1 : (pa ++ (some a : Option Addr).toList)[k] = a := by
    rw [List.getElem_append_right (by omega)]; simp
   rw [e1]
   obtain ⟨t90, kk⟩ := KP a rfl
   refine DO (kk.now.1.at (j := 2) rfl) ?_
   unfold II
   rw [cM]
   apply u9
   unfold oX
   rw [if_pos hkg, if_neg (show ¬ K.length < k by omega)] at R2 ow
   have k9 := R.k9
   refine bB (k9.now.at0 rfl) (bB (k9.now.at0 rfl) (aV (aC (ow.cells.at (j := 12) rfl) ?_)))
   refine Js R2 x (by omega) fun bp' bc' h2 R2' f2 hn2 => ⟨_, _, _, rfl, ?_⟩
   have z2 := f2.size
   have k92 := k9.fr (B' := fun y => o y = 0) f2 (fun y hy h1 hh => by have := t2 y hh; omega) fun _ _ => id
   refine ⟨bB (k92.now.at0 rfl) rfl, aV ?_⟩
   have ow2 := ow.fr f2 fun hh => by have := t2 _ hh; omega
   have lc := ow.lt
   refine cO ow2 12 (by show 12 < 16; omega) rfl fun h3 f3 z3 ow3 => ⟨rfl, ?_⟩
   have z3' := f3.size
   have Ft : Fr (fun y => InA bp y ∨ y = c.block) h1 h3 := (f2.mono fun _ => .inl).trans (f3.mono fun _ => .inr)
   have up : ∀ y, y < h1.size → Au.upT o h1.size 2 y = o y := fun y hy => Au.dX hy
   have tS : ∀ y, (InA bp y ∨ y = c.block) → o y = 2 ∨ o y = 1 := fun y hh => by
    rcases hh with hh | hh
    ·exact .inl (t2 y hh)
    ·exact .inr (by rw [hh]; exact tg)
   rw [wr (by omega) (by omega)]
   have eT : K.take (k + 1) = K.take k := by rw [wx _ _ (by omega), wx _ _ (by omega)]
   refine ⟨⟨k + 1, Au.upT o h1.size 2, by omega, by omega, fF.tr Ft fun y hy hh => hFo y (by omega) (by have := tS y hh; omega) (by have := tS y hh; omega) hy, lD.ext (R.fr (F' := fun y => F y ∨ h.size ≤ y) Ft (Au.Old.up (Nat.le_refl _)) (fun y hy hh => by have := tS y hh; omega) (fun y hy hn hne => ?_) Ft.size) fun i hi => ?_, ?_, KP.fr Ft (Au.Old.up (Nat.le_refl _)) (fun y hy hh => by have := tS y hh; omega), Rp.fr Ft (fun y hy hh => by have := tp y hy; have := tS y hh; omega), fun y hy => by rw [up y (Rp.lt hy)]; exact tp y hy⟩, by omega⟩
   ·rcases Nat.lt_or_ge y h1.size with hl | hl
    ·exact R.fp y hl hn (by rw [← up y hl]; exact hne)
    ·exact .inr (by omega)
   ·have : mid w x (k + 1) i = mid w x k i := by unfold mid; rw [if_pos (by omega), if_pos (by omega)]
    exact ⟨this, by show iD _ (mid w x (k + 1) i) = _; rw [this]⟩
   ·rw [if_pos hkg, if_pos (show K.length < k + 1 by omega), eT]
    refine ⟨by rw [up _ lc]; exact tg, pp1, pc1, bp', bc', op, oc, ow3, R1.fr Ft (fun y hy hh => by have := t1 y hy; have := tS y hh; omega), fun y hy => by rw [up y (R1.lt hy)]; exact t1 y hy,
     R2'.fr f3 (fun y hy hh => ?_), fun y hy => ?_, R3.fr Ft (fun y hy hh => by have := t3 y hy; have := tS y hh; omega), fun y hy => by rw [up y (R3.lt hy)]; exact t3 y hy⟩
    ·rcases hn2 y hy with h5 | h5
     ·have := t2 y h5; rw [hh, tg] at this; omega
     ·omega
    ·rcases hn2 y hy with h5 | h5
     ·rw [up y (R2.lt h5)]; exact t2 y h5
     ·exact Au.kf h5
 ·have hke : k = (pa ++ kp.toList).length := by omega
  have eT : K.take k = K := wx _ _ (by omega)
  refine hk h1 fF ⟨o, t9, av, pa, kp, R.ext fun i hi => ?_, ?_, KP, hkp⟩
  ·have : mid w x k i = w ++ x := by unfold mid; rw [if_pos (by omega)]
   exact ⟨this.symm, by show iD _ _ = iD _ (mid w x k i); rw [this]⟩
  ·rw [eT] at C1
   cases hkg : rv K with
   | false => rw [hkg] at C1; exact C1
   | true =>
    rw [hkg] at C1 hkp
    have : K.length < k := by
     cases kp with
     | none => cases hkp
     | some a => simp at hke; omega
    rw [if_pos rfl, if_pos this] at C1
    exact C1
end Go.Proofs.YtjmfpeiidlpngaaGreatDoor
namespace Go.Proofs.YtjmfpeiidlpngaaGreatDoor
set_option linter.unusedSimpArgs false
set_option linter.unusedVariables false
set_option maxRecDepth 20000
open Go
open Go.IntKind (wrap)
def ii (g : Gr) (w : Au.Nm) : List Bool := vP (gY g) (Au.jk g.Transforms.xs w)
theorem tf (g : Gr) (w : Au.Nm) : (ii g w).length = (gY g).length := by unfold ii vP; rw [List.length_map]
theorem HI (w : Au.Nm) : Au.jk [] w = w := rfl
def trans (g : Gr) : Bool := decide (g.Patterns.xs ≠ []) && decide (g.Transforms.xs ≠ [])
theorem HE (K : List Gr) : rv K = K.any trans := rfl
theorem FZ {g : Gr} {w : Au.Nm} (h : trans g = false) : ii g w = iD g w := by
 unfold trans at h
 unfold ii iD
 by_cases e : g.Transforms.xs = []
 ·rw [if_pos e, e, HI]
 ·rw [if_neg e]
  have : g.Patterns.xs = [] := by
   by_cases e2 : g.Patterns.xs = []
   ·exact e2
   ·simp [e, e2] at h
  have e0 : gY g = [] := by unfold gY ptS; rw [this]; rfl
  rw [e0]; rfl
theorem HB [Gh] {h : aB} {p : Option Addr} {c : Nat} {l : Au.Nm} (R : Row 1 Au.bV h p c l) {K : Value → aB → Prop} (hk : K (.string (bs l)) h) : kA Tryz.prog aL bW (.slice p l.length c) h K := by
 have o := R.own
 rw [Au.wj] at o
 exact rm Tryz.underlying98 Tryz.underlying9 Tryz.underlying5 (l := l) rfl (fun ad hd => by subst hd; exact o.cells) (fun hd => by subst hd; have := o.1; simpa [dW] using this) hk
set_option maxHeartbeats 1000000 in
theorem ov.fin [Gh] {N i : Nat} {o : Tag} {h : aB} {t9 ga : Addr} {g : Gr} {pa : Addr} {w : Au.Nm} (P : ov N o i h t9 ga g pa w (iD g w)) (low : ∀ x, x < N → o x = 0)
  {c s : Addr} {f : aR} {dir : Int} {pp : Option Addr} {pn pc : Nat} {bp : Option Addr} {bc : Nat} {buf : Au.Nm} {work : Int} {done : Bool} {op : Option Addr} {on oc : Nat} (oc9 : Own h c (Bw s f dir pp pn pc bp buf.length bc work done op on oc) iI) (tc : o c.block = 1) (k9 : Kp (fun x => o x = 0) h fun h' => aY h' t9 [.pointer (some c)])
  (Rb : Row 1 Au.bV h bp bc buf) (tb : ∀ x, InA bp x → o x = 2) (hb : trans g = true → buf = w) (hx : w.length ≤ 2 ^ 15) (hw : 0 ≤ work ∧ work ≤ 2 ^ 40) {Q : Value → aB → Prop} {K : aB → Prop} {en : Value} (hen : hcell h (pa.add 3) = some en) (hQ : ∀ h', K h' → Q (.tuple #[]) h')
  (hk : ∀ h', Fr (fun x => o x = 1 ∨ o x = 10 + 2 * i) h h' → Own h' c (Bw s f dir pp pn pc bp buf.length bc (work + if trans g = true then ((Au.jk g.Transforms.xs w).length : Int) else 0) done op on oc) iI → ov N o i h' t9 ga g pa w (ii g w) → K h') :
  my Tryz.prog en #[] h Q := by
 have P0 := P
 obtain ⟨tg, ln, q, qc, fd, en', au, sg, ws, k, R, hq, G, M⟩ := P
 have e := hen.symm.trans (k.now.at (j := 3) rfl)
 simp only [Option.some.injEq] at e
 subst e
 have no : trans g = false → en = Cy → my Tryz.prog en #[] h Q := fun ht e => by
  subst e
  unfold Cy
  rw [cM]
  apply vc
  unfold oD
  refine hQ _ (hk h (Fr.refl _ _) ?_ ?_)
  ·rw [ht]; simpa using oc9
  ·rw [FZ ht]; exact P0
 rcases M with ⟨m1, m2, m3⟩ | ⟨m1, m2, m3, _⟩ | ⟨m1, m2, m3, t12, t13, m4, kc⟩
 ·exact no (by unfold trans; simp [m1]) m3
 ·exact no (by unfold trans; simp [m2]) m3
 ·have ht : trans g = true := by unfold trans; simp [m1, m2]
  have ebuf := hb ht
  subst ebuf
  subst m4
  unfold K3
  rw [cM]
  apply vf
  unfold oO
  have gc := tH G.1.now.1
  refine bB (kc.now.1.at0 rfl) (aV (aC (gc.at (j := 1) rfl) (bB (k9.now.at0 rfl) (aV (aC (oc9.cells.at (j := 12) rfl) ?_)))))
  refine HB Rb ⟨_, rfl, bB (kc.now.1.at0 rfl) rfl, aC (gc.at (j := 1) rfl) rfl, ?_⟩
  refine Au.MK g.Transforms buf (by omega) G.1.now.2.k1 fun h1 f1 => ⟨_, rfl, ?_⟩
  have k91 := k9.fr0 f1
  have oc1 := oc9.fr0 f1
  have hl := Au.Dk g.Transforms.xs buf
  refine bB (k91.now.at0 rfl) (aV (aA (oc1.cells.at (j := 13) rfl) (aV ?_)))
  rw [aX, wr (by omega) (by omega)]
  refine cO oc1 13 (by show 13 < 16; omega) rfl fun h2 f2 z2 oc2 => ?_
  have lc := oc9.lt
  have z1 := f1.size
  have z2' := f2.size
  have F2 : Fr (fun x => x = c.block) h h2 := (f1.mono fun _ => False.elim).trans f2
  have G2 := G.fr F2 fun x hx hh => by
   rcases Nat.lt_or_ge x N with hl | hl
   ·have := low x hl; rw [hh, tc] at this; omega
   ·exact hl
  have kc2 := kc.fr (B' := fun x => o x = 0) F2 (fun x hx h0 hh => by rw [hh] at h0; omega) fun _ _ => id
  refine bB (kc2.now.2.at0 rfl) (bB (kc2.now.1.at0 rfl) (aV (bB (G2.1.now.1.at (j := 5) rfl) ?_)))
  refine Au.MR G2.2 (Au.jk g.Transforms.xs buf) (by omega) fun h3 r rc f3 Rr hr => ⟨_, _, _, rfl, ?_⟩
  have z3 := f3.size
  have kc3 := kc2.fr0 f3
  refine ⟨bB (kc3.now.2.at0 rfl) rfl, ?_⟩
  have lq : ∀ y, InA q y → y < h.size := fun y hy => R.lt hy
  have R3 := (R.fr F2 fun y hy hh => by have := hq y hy; rw [hh, tc] at this; omega).fr0 f3
  have k3 := (k.fr (B' := fun x => o x = 0) F2 (fun x hx h0 hh => by rw [hh] at h0; omega) fun _ _ => id).fr0 f3
  have eW : iD g buf = List.replicate (gY g).length false := by unfold iD; rw [if_neg m2]
  refine Kf k3.now R3 (fun hh => by have := hq _ hh; omega) Rr (fun y hy hh => by have := hr y hy; have := lq y hh; omega) (fun y hy => ?_) ?_ fun h4 f4 R4 => ⟨rfl, ?_⟩
  ·rw [na]
   exact (xY.1 (show (y.1, y.2) ∈ _ from hy)).2.2.1
  ·have := Au.xW (gY g) (Au.jk g.Transforms.xs buf) 0 (Au.jk g.Transforms.xs buf).length
   have hm := G.2.m
   have : (Au.jk g.Transforms.xs buf).length * (gY g).length ≤ 2 ^ 16 * 512 := Nat.mul_le_mul (by omega) hm
   have : (Au.qd (gY g) (Au.jk g.Transforms.xs buf) 0 (Au.jk g.Transforms.xs buf).length).length ≤ 2 ^ 40 := by omega
   exact this
  ·have e4 : uI (iD g buf) (Au.qd (gY g) (Au.jk g.Transforms.xs buf) 0 (Au.jk g.Transforms.xs buf).length) = ii g buf := by rw [eW]; exact IP _ _
   have R4' : Row 1 bbV h4 q qc (ii g buf) := by rw [← e4]; exact R4
   have Ft : Fr (fun x => x = c.block ∨ InA q x) h h4 := ((F2.mono fun _ => .inl).trans (f3.mono fun _ => False.elim)).trans (f4.mono fun _ => .inr)
   have tS : ∀ y, (y = c.block ∨ InA q y) → o y = 1 ∨ o y = 10 + 2 * i := fun y hh => by
    rcases hh with hh | hh
    ·exact .inl (by rw [hh]; exact tc)
    ·exact .inr (hq y hh)
   have kt : ∀ {P : aB → Prop}, Kp (fun x => o x = 0) h P → Kp (fun x => o x = 0) h4 P := fun kk => kk.fr Ft (fun y hy h0 hh => by have := tS y hh; omega) fun _ _ => id
   refine hQ _ (hk h4 (Ft.mono tS) ?_ ⟨tg, tf _ _, q, qc, fd, K3 t12 t9 t13, au, sg, ws, ?_, R4', hq, ?_, .inr (.inr ⟨m1, m2, m3, t12, t13, rfl, kt kc⟩)⟩)
   ·rw [ht, if_pos rfl]
    exact (oc2.fr0 f3).fr f4 fun hh => by have := hq _ hh; omega
   ·have := kt k
    rw [na] at this
    rw [tf]
    exact this
   ·exact G.fr Ft fun y hy hh => by
     rcases Nat.lt_or_ge y N with hl | hl
     ·have := low y hl; have := tS y hh; omega
     ·exact hl
end Go.Proofs.YtjmfpeiidlpngaaGreatDoor
namespace Go.Proofs.YtjmfpeiidlpngaaGreatDoor
set_option linter.unusedSimpArgs false
set_option linter.unusedVariables false
set_option maxRecDepth 20000
open Go
open Go.IntKind (wrap)
theorem sj.front {h : aB} {p : Option Addr} {cap sz : Nat} {A B : List Value} (o : sj h p cap sz (A ++ B)) : sj h p cap sz A := by
 cases p with
 | none => exact ⟨(List.append_eq_nil_iff.1 o.1).1, o.2⟩
 | some ad =>
  obtain ⟨h1, h2, ds, t, fr, hfr, hg, hc1, hc2, hc3⟩ := o
  refine ⟨h1, h2, ds, t, fr, hfr, hg, hc1, by rw [List.length_append] at hc2; omega, fun i hi => ?_⟩
  rw [hc3 i (by rw [List.length_append]; omega), List.getElem_append_left hi]
theorem Row.front {α : Type} {sz : Nat} {vals : α → List Value} {h : aB} {p : Option Addr} {cap : Nat} {A B : List α} (R : Row sz vals h p cap (A ++ B)) : Row sz vals h p cap A :=
 ⟨by have := R.own; rw [List.flatMap_append] at this; exact this.front, by have := R.le; rw [List.length_append] at this; omega⟩
theorem DH (l : List Int) : l.flatMap Au.lZ = l.map fun n => Value.int .i64 n := by induction l <;> simp_all [Au.lZ]
theorem Ee {h : aB} {p : Option Addr} {cap : Nat} {A B : List Int} (R : Row 1 Au.lZ h p cap (A ++ B)) {ty : TypeId} {cs : Array Bool} {K : Value → aB → Prop}
  (hk : ∀ h', Fr (InA p) h h' → Row 1 Au.lZ h' p cap A → K (.tuple #[]) h') :
  cQ Tryz.prog .clear #[bG] ty cs #[.slice (if cap = A.length then p else p.map (·.add (A.length * 1))) B.length (cap - A.length)] h K := by
 have hle := R.le
 rw [List.length_append] at hle
 refine xx (s := Builtin.clear_ #[bG] ty #[.slice (if cap = A.length then p else p.map (·.add (A.length * 1))) B.length (cap - A.length)]) rfl ?_
 unfold Builtin.clear_
 simp only [List.getElem?_toArray, List.getElem?_cons_zero, bind]
 rw [aQ]
 refine bU Tryz.underlying46 ?_
 cases hB : B with
 | nil =>
  rw [hB, List.append_nil] at R
  generalize (if cap = A.length then p else p.map (·.add (A.length * 1))) = q
  cases q <;> exact hk h (Fr.refl _ _) R
 | cons b B' =>
  rw [hB] at hle
  simp only [List.length_cons] at hle
  cases p with
  | none => have := R.own.2; omega
  | some ad =>
   have hf := R.front
   obtain ⟨⟨h1, h2, ds, t, fr, hfr, hg, hc1, hc2, hc3⟩, hle2⟩ := R
   obtain ⟨bk, o, sp⟩ := ad
   simp only at h1 h2 hg
   subst h1 h2
   rw [if_neg (by omega)]
   simp only [Option.map_some, List.length_cons]
   rw [aQ]
   refine DX (i := Tryz.t3) (z := .int .i64 0) (by kernel_rfl) (by kernel_rfl) ?_
   rw [aQ]
   have hadd : ∀ j, (Addr.add (Addr.add ⟨bk, 0, none⟩ (A.length * 1)) j) = ⟨bk, A.length + j, none⟩ := fun j => by rw [gN, gN, Nat.zero_add, Nat.mul_one]
   rw [DH, List.length_map, List.length_append, hB] at hc2
   simp only [List.length_cons] at hc2
   have hz : (Builtin.zeroCells (Value.int .i64 0).cells (B'.length + 1)).toList.length = B'.length + 1 := by
    rw [Array.length_toList, rp]; show (B'.length + 1) * 1 = _; omega
   refine te hadd _ 0 ds h hg hfr (fun v hv => ?_) (by rw [hz]; omega) ?_
   ·rw [Array.mem_toList_iff] at hv
    unfold Builtin.zeroCells at hv
    obtain ⟨i, _, e⟩ := Array.mem_map.1 hv
    have hm : i % (Value.int .i64 0).cells.size = 0 := Nat.mod_one i
    rw [hm] at e
    rw [← e]; rfl
   ·refine hk _ (Fr.set _ _ ⟨_, rfl, rfl⟩) ⟨⟨rfl, rfl, _, t, fr, by rw [iC]; exact hfr, l6 hg, by rw [iC]; exact hc1, by rw [iC, DH, List.length_map]; omega, fun i hi => ?_⟩, by omega⟩
    have hi' := hi
    rw [DH, List.length_map] at hi
    rw [qV _ _ _ (by rw [hz]; omega), if_neg (by omega)]
    obtain ⟨_, _, ds', t', fr', _, hg', _, _, hc3'⟩ := hf.own
    simp only at hg'
    rw [hg] at hg'
    simp only [Option.some.injEq, Obj.cells.injEq] at hg'
    obtain ⟨rfl, _⟩ := hg'
    exact hc3' i hi'
theorem JY {p : Option Addr} {n c k : Nat} (hk : k ≤ n) (hc : n ≤ c) {K : Option Addr → Nat → Nat → Prop} (h : K (if c = k then p else p.map (·.add (k * 1))) (n - k) (c - k)) : fM 1 p n c (some (k : Int)) none none K := by
 refine ⟨by omega, by omega, ?_⟩
 rw [Int.toNat_natCast]; exact h
theorem IW {p : Option Addr} {n c k : Nat} (hc : k ≤ c) {K : Option Addr → Nat → Nat → Prop} (h : K p k c) : fM 1 p n c none (some (k : Int)) none K := by
 refine ⟨by omega, by omega, ?_⟩
 rw [Int.toNat_natCast]; exact h
def LU [Gh] (del : Value) (p : Option Addr) (h : aB) (xs : List Int) (q : Int → Bool) : Prop :=
 ∀ h', Fr (InA p) h h' → ∀ x ∈ xs, ∀ Q : Value → aB → Prop, (∀ h'', Fr (fun _ => False) h' h'' → Q (.bool (q x)) h'') → my Tryz.prog del #[.int .i64 x] h' Q
theorem Fh [Gh] {del : Value} {h : aB} {p : Option Addr} {cap : Nat} {xs : List Int} {q : Int → Bool} (R : Row 1 Au.lZ h p cap xs) (D : LU del p h xs q) (hl : xs.length ≤ 2 ^ 40) {Q : Value → aB → Prop}
  (hno : ∀ h', Fr (fun _ => False) h h' → (∀ x ∈ xs, q x = false) → Q (.int .i64 (-1)) h')
  (hk : ∀ (i : Nat) (hi : i < xs.length) h', Fr (fun _ => False) h h' → (∀ x ∈ xs.take i, q x = false) → q xs[i] = true → Q (.int .i64 i) h') :
  aD Tryz.prog ik #[.slice p xs.length cap, del] h Q := by
 apply qS
 unfold lK
 refine aH.mk (fun st h' => ∃ i : Nat, st = (i : Int) ∧ i ≤ xs.length ∧ Fr (fun _ => False) h h' ∧ ∀ x ∈ xs.take i, q x = false) (fun st _ => xs.length - st.toNat) ⟨0, rfl, by omega, Fr.refl _ _, fun x hx => by simp at hx⟩ ?_
 rintro st h1 ⟨i, rfl, hi, f1, hq⟩
 unfold iA
 refine ifD (fun hlt => ?_) (fun hge => ?_)
 ·have hi' : i < xs.length := by omega
  refine (R.fr0 f1).idx nk (by omega) i rfl hi' fun ad cc => ?_
  rw [Int.toNat_natCast]
  refine aA (cc.at0 rfl) ?_
  refine D h1 (f1.mono fun _ => False.elim) xs[i] (List.getElem_mem hi') _ fun h2 f2 => ⟨_, rfl, ?_⟩
  refine ifB (fun e => hk i hi' h2 (f1.trans f2) hq e) fun e => ?_
  rw [wr (by omega) (by omega)]
  refine ⟨⟨i + 1, by omega, by omega, f1.trans f2, fun x hx => ?_⟩, by omega⟩
  rw [show xs.take (i + 1) = xs.take i ++ [xs[i]] by rw [List.take_append_getElem], List.mem_append] at hx
  rcases hx with hx | hx
  ·exact hq x hx
  ·rw [List.mem_singleton.1 hx]; exact e
 ·have : i = xs.length := by omega
  subst this
  rw [List.take_length] at hq
  exact hno h1 f1 hq
def dU (q : Int → Bool) (xs : List Int) : List Int := xs.filter fun x => !q x
theorem yX (q : Int → Bool) (a b : List Int) : dU q (a ++ b) = dU q a ++ dU q b := List.filter_append ..
theorem CH (q : Int → Bool) (a : List Int) : (dU q a).length ≤ a.length := List.length_filter_le _ _
theorem CQ {q : Int → Bool} {xs : List Int} (h : ∀ x ∈ xs, q x = false) : dU q xs = xs := by
 unfold dU; rw [List.filter_eq_self]; intro x hx; rw [h x hx]; rfl
theorem GF (A B : List Int) (b x : Int) : (A ++ b :: B).set A.length x = (A ++ [x]) ++ B := by
 rw [List.set_append_right _ _ (Nat.le_refl _), Nat.sub_self, List.set_cons_zero, List.append_assoc]; rfl
theorem DG [Gh] {del : Value} {h : aB} {p : Option Addr} {cap : Nat} {xs : List Int} {q : Int → Bool} (R : Row 1 Au.lZ h p cap xs) (D : LU del p h xs q) (hl : xs.length ≤ 2 ^ 40) {Q : Value → aB → Prop}
  (hk : ∀ h', Fr (InA p) h h' → Row 1 Au.lZ h' p cap (dU q xs) → Q (.slice p (dU q xs).length cap) h') :
  aD Tryz.prog gZ #[.slice p xs.length cap, del] h Q := by
 apply qB
 unfold lh
 refine Fh R D hl (fun h1 f1 hq => ⟨_, rfl, ?_⟩) fun i0 hi0 h1 f1 hq he => ⟨_, rfl, ?_⟩
 ·rw [if_pos (by decide)]
  have e := CQ hq
  have := hk h1 (f1.mono fun _ => False.elim) (by rw [e]; exact R.fr0 f1)
  rw [e] at this; exact this
 rw [if_neg (by simp only [beq_iff_eq]; omega)]
 have e0 : dU q (xs.take (i0 + 1)) = xs.take i0 := by
  rw [show xs.take (i0 + 1) = xs.take i0 ++ [xs[i0]] by rw [List.take_append_getElem], yX, CQ hq]
  unfold dU; rw [List.filter_cons_of_neg (by rw [he]; simp)]; simp
 refine aH.mk (fun st h' => ∃ j : Nat, st = (((dU q (xs.take j)).length : Int), (j : Int)) ∧ j ≤ xs.length ∧ (dU q (xs.take j)).length < j ∧ Fr (InA p) h h' ∧ Row 1 Au.lZ h' p cap (dU q (xs.take j) ++ xs.drop (dU q (xs.take j)).length))
  (fun st _ => xs.length - st.2.toNat) ⟨i0 + 1, ?_, by omega, ?_, f1.mono fun _ => False.elim, ?_⟩ ?_
 ·rw [e0, wr (by omega) (by omega), List.length_take, Nat.min_eq_left (by omega)]; rfl
 ·rw [e0, List.length_take]; omega
 ·rw [e0, List.length_take, Nat.min_eq_left (by omega), List.take_append_drop]; exact R.fr0 f1
 rintro st h2 ⟨j, rfl, hj, hlt, f2, R2⟩
 dsimp only
 unfold hY
 have hkl := CH q (xs.take j)
 rw [List.length_take] at hkl
 have L2 : (dU q (xs.take j) ++ xs.drop (dU q (xs.take j)).length).length = xs.length := by rw [List.length_append, List.length_drop]; omega
 have R2l := R2.le
 rw [L2] at R2l
 refine ifD (fun hlt2 => ?_) (fun hge => ?_)
 ·have hj' : j < xs.length := by omega
  have ej : (dU q (xs.take j) ++ xs.drop (dU q (xs.take j)).length)[j]'(by omega) = xs[j] := by
   rw [List.getElem_append_right (by omega), List.getElem_drop]
   congr 1; omega
  have et : xs.take (j + 1) = xs.take j ++ [xs[j]] := by rw [List.take_append_getElem]
  obtain ⟨ad, rfl, cc⟩ := R2.cellsAt nk (by omega) j (by omega)
  rw [ej] at cc
  refine bQ j rfl hj' (aV ?_)
  rw [Int.toNat_natCast]
  refine aA (cc.at0 rfl) ?_
  refine D h2 f2 xs[j] (List.getElem_mem hj') _ fun h3 f3 => ⟨_, rfl, ?_⟩
  have R3 := R2.fr0 f3
  refine ifN (fun e => ?_) fun e => ?_
  ·have ek : dU q (xs.take (j + 1)) = dU q (xs.take j) ++ [xs[j]] := by
    rw [et, yX]; unfold dU; rw [List.filter_cons_of_pos (by rw [e]; rfl)]; rfl
   refine bQ (dU q (xs.take j)).length rfl (by omega) (aV ?_)
   rw [Int.toNat_natCast, ← kI (ad.add ((dU q (xs.take j)).length * 1))]
   refine R3.set1 nk (dU q (xs.take j)).length (by omega) rfl (j := 0) (by omega) (v := .int .i64 xs[j]) rfl (e' := xs[j]) rfl fun h4 f4 R4 => ?_
   rw [wr (by omega) (by omega), wr (by omega) (by omega)]
   have ed : xs.drop (dU q (xs.take j)).length = xs[(dU q (xs.take j)).length]'(by omega) :: xs.drop ((dU q (xs.take j)).length + 1) := List.drop_eq_getElem_cons (by omega)
   refine ⟨⟨j + 1, by rw [ek, List.length_append]; rfl, by omega, by rw [ek, List.length_append, List.length_singleton]; omega, (f2.trans (f3.mono fun _ => False.elim)).trans f4, ?_⟩, by dsimp only; omega⟩
   rw [ed, GF] at R4
   rw [ek, List.length_append, List.length_singleton]; exact R4
  ·have ek : dU q (xs.take (j + 1)) = dU q (xs.take j) := by
    rw [et, yX]; unfold dU; rw [List.filter_cons_of_neg (by rw [e]; decide)]; simp
   rw [wr (by omega) (by omega)]
   refine ⟨⟨j + 1, by rw [ek]; rfl, by omega, by rw [ek]; omega, f2.trans (f3.mono fun _ => False.elim), by rw [ek]; exact R3⟩, by dsimp only; omega⟩
 ·have : j = xs.length := by omega
  subst this
  rw [List.take_length] at *
  unfold gX
  refine JY (by omega) (by omega) ?_
  have e : xs.length - (dU q xs).length = (xs.drop (dU q xs).length).length := by rw [List.length_drop]
  rw [e]
  refine Ee R2 fun h3 f3 R3 => ⟨rfl, ?_⟩
  exact IW (by omega) (hk h3 (f2.trans f3) R3)
def iy (xs : List Int) (i n : Nat) : List Int := (List.range n).filterMap fun k => if xs.getD (i + k) 0 = xs.getD (i + k - 1) 0 then none else some (xs.getD (i + k) 0)
theorem py (xs : List Int) (i n : Nat) : iy xs i (n + 1) = iy xs i n ++ if xs.getD (i + n) 0 = xs.getD (i + n - 1) 0 then [] else [xs.getD (i + n) 0] := by
 unfold iy
 rw [List.range_succ, List.filterMap_append]
 by_cases h : xs.getD (i + n) 0 = xs.getD (i + n - 1) 0
 ·simp only [List.filterMap_cons, List.filterMap_nil, if_pos h]
 ·simp only [List.filterMap_cons, List.filterMap_nil, if_neg h]
theorem Fa (xs : List Int) (i n : Nat) : (iy xs i n).length ≤ n := by
 unfold iy
 exact Nat.le_trans (List.length_filterMap_le _ _) (by simp)
theorem wA (xs : List Int) (i : Nat) (h : i < xs.length) : xs.getD i 0 = xs[i] := by rw [List.getD_eq_getElem?_getD, List.getElem?_eq_getElem h]; rfl
def mu (xs : List Int) : List Int := xs.take 1 ++ iy xs 1 (xs.length - 1)
theorem Fu {xs : List Int} {n : Nat} (h : ∀ k, k < n → xs.getD (1 + k) 0 ≠ xs.getD (1 + k - 1) 0) (hn : n + 1 ≤ xs.length) : xs.take 1 ++ iy xs 1 n = xs.take (n + 1) := by
 induction n with
 | zero => simp [iy]
 | succ n ih =>
  rw [py, if_neg (h n (by omega)), ← List.append_assoc, ih (fun k hk => h k (by omega)) (by omega), wA xs _ (by omega)]
  rw [show xs.take (n + 1 + 1) = xs.take (n + 1) ++ [xs[n + 1]] by rw [List.take_append_getElem]]
  have : 1 + n = n + 1 := by omega
  simp only [this]
theorem Ic [Gh] {h : aB} {p : Option Addr} {cap : Nat} {xs : List Int} (R : Row 1 Au.lZ h p cap xs) (hl : xs.length ≤ 2 ^ 40) {Q : Value → aB → Prop}
  (hk : ∀ h', Fr (InA p) h h' → Row 1 Au.lZ h' p cap (mu xs) → Q (.slice p (mu xs).length cap) h') :
  aD Tryz.prog iY #[.slice p xs.length cap] h Q := by
 apply si
 unfold mr
 have Rl := R.le
 have same : ∀ xs' : List Int, mu xs = xs' → xs' = xs → Q (.slice p xs.length cap) h := fun xs' e1 e2 => by
  have e := e1.trans e2
  have := hk h (Fr.refl _ _) (by rw [e]; exact R)
  rw [e] at this; exact this
 refine ifD (fun h2 => ?_) (fun h2 => ?_)
 ·refine same xs ?_ rfl
  unfold mu
  have : xs.length - 1 = 0 := by omega
  rw [this, List.take_of_length_le (by omega)]; simp [iy]
 refine aH.mk (fun st h' => ∃ k : Nat, st = ((k + 1 : Nat) : Int) ∧ k + 1 ≤ xs.length ∧ h = h' ∧ ∀ i, i < k → xs.getD (1 + i) 0 ≠ xs.getD (1 + i - 1) 0) (fun st _ => xs.length - st.toNat) ⟨0, rfl, by omega, rfl, fun i hi => absurd hi (Nat.not_lt_zero _)⟩ ?_
 rintro st h' ⟨k, rfl, hkl, eh, hn⟩
 subst eh
 unfold iX
 refine ifD (fun hlt => ?_) (fun hge => ?_)
 ·have hk1 : k + 1 < xs.length := by omega
  obtain ⟨ad, rfl, c1⟩ := R.cellsAt nk (by omega) (k + 1) hk1
  obtain ⟨ad', e', c0⟩ := R.cellsAt nk (by omega) k (by omega)
  cases e'
  have ew : wrap .i64 (((k + 1 : Nat) : Int) - 1) = (k : Int) := by rw [wr (by omega) (by omega)]; omega
  rw [ew]
  refine bQ (k + 1) rfl hk1 (aV ?_)
  rw [Int.toNat_natCast]
  refine aA (c1.at0 rfl) ?_
  refine bQ k rfl (by omega) (aV ?_)
  rw [Int.toNat_natCast]
  refine aA (c0.at0 rfl) ?_
  have hg : ∀ i (hi : i < xs.length), xs.getD i 0 = xs[i] := fun i hi => wA xs i hi
  refine ifE (fun e => ?_) fun e => ?_
  ·refine JY (by omega) (by omega) ?_
   rw [if_neg (by omega)]
   refine aH.mk (fun st h' => ∃ m : Nat, st = (((k + 1 + (iy xs (k + 2) m).length : Nat) : Int), ((m + 1 : Nat) : Int)) ∧ k + 2 + m ≤ xs.length ∧ Fr (InA (some ad)) h h' ∧ Row 1 Au.lZ h' (some ad) cap (xs.take (k + 1) ++ iy xs (k + 2) m ++ xs.drop (k + 1 + (iy xs (k + 2) m).length)))
    (fun st _ => xs.length - st.2.toNat) ⟨0, by simp [iy], by omega, Fr.refl _ _, by simp [iy]; exact R⟩ ?_
   rintro st h1 ⟨m, rfl, hm, f1, R1⟩
   dsimp only
   unfold iV
   have hnl := Fa xs (k + 2) m
   have tl : (xs.take (k + 1)).length = k + 1 := by rw [List.length_take]; omega
   have hA : (xs.take (k + 1) ++ iy xs (k + 2) m).length = k + 1 + (iy xs (k + 2) m).length := by rw [List.length_append, tl]
   have L1 : (xs.take (k + 1) ++ iy xs (k + 2) m ++ xs.drop (k + 1 + (iy xs (k + 2) m).length)).length = xs.length := by rw [List.length_append, hA, List.length_drop]; omega
   have atj : ∀ j (hj : j < xs.length), k + 1 + (iy xs (k + 2) m).length ≤ j → aY h1 (ad.add (j * 1)) (Au.lZ xs[j]) := fun j hj hge => by
    obtain ⟨ad2, e2, c⟩ := R1.cellsAt nk (by omega) j (by omega)
    cases e2
    have : (xs.take (k + 1) ++ iy xs (k + 2) m ++ xs.drop (k + 1 + (iy xs (k + 2) m).length))[j]'(by omega) = xs[j] := by
     rw [List.getElem_append_right (by omega), List.getElem_drop]
     congr 1; omega
    rw [this] at c; exact c
   refine ifD (fun hlt2 => ?_) (fun hge2 => ?_)
   ·have hj : k + 2 + m < xs.length := by omega
    have ew2 : wrap .i64 (((m + 1 : Nat) : Int) - 1) = (m : Int) := by rw [wr (by omega) (by omega)]; omega
    rw [ew2]
    have ea : ∀ n : Nat, Addr.add (Addr.add ad ((k + 1) * 1)) (n * 1) = ad.add ((k + 1 + n) * 1) := fun n => by rw [lY]; congr 1; omega
    have a1 := atj (k + 1 + (m + 1)) (by omega) (by omega)
    have a0 := atj (k + 1 + m) (by omega) (by omega)
    rw [← ea] at a1 a0
    refine bQ (m + 1) rfl (by omega) (aV ?_)
    rw [Int.toNat_natCast]
    refine aA (a1.at0 rfl) ?_
    refine bQ m rfl (by omega) (aV ?_)
    rw [Int.toNat_natCast]
    refine aA (a0.at0 rfl) ?_
    have g1 : xs.getD (k + 2 + m) 0 = xs[k + 1 + (m + 1)]'(by omega) := by rw [hg _ (by omega)]; congr 1; omega
    have g0 : xs.getD (k + 2 + m - 1) 0 = xs[k + 1 + m]'(by omega) := by rw [hg _ (by omega)]; congr 1; omega
    refine lu (fun ne => ?_) fun eq => ?_
    ·have en : iy xs (k + 2) (m + 1) = iy xs (k + 2) m ++ [xs[k + 1 + (m + 1)]'(by omega)] := by
      rw [py, g1, g0, if_neg ne]
     refine bQ (m + 1) rfl (by omega) (aV ?_)
     rw [Int.toNat_natCast]
     refine aA (a1.at0 rfl) ?_
     refine bQ (k + 1 + (iy xs (k + 2) m).length) rfl (by omega) (aV ?_)
     rw [← kI (ad.add ((k + 1 + (iy xs (k + 2) m).length) * 1))]
     refine R1.set1 nk (k + 1 + (iy xs (k + 2) m).length) (by omega) rfl (j := 0) (by omega) (v := .int .i64 (xs[k + 1 + (m + 1)]'(by omega))) rfl (e' := xs[k + 1 + (m + 1)]'(by omega)) rfl fun h3 f3 R3 => ?_
     rw [wr (by omega) (by omega), wr (by omega) (by omega)]
     have ed : xs.drop (k + 1 + (iy xs (k + 2) m).length) = xs[k + 1 + (iy xs (k + 2) m).length]'(by omega) :: xs.drop (k + 1 + (iy xs (k + 2) m).length + 1) := List.drop_eq_getElem_cons (by omega)
     refine ⟨⟨m + 1, by rw [en, List.length_append, List.length_singleton]; rfl, by omega, f1.trans f3, ?_⟩, by dsimp only; omega⟩
     rw [ed] at R3
     have es := GF (xs.take (k + 1) ++ iy xs (k + 2) m) (xs.drop (k + 1 + (iy xs (k + 2) m).length + 1)) (xs[k + 1 + (iy xs (k + 2) m).length]'(by omega)) (xs[k + 1 + (m + 1)]'(by omega))
     rw [hA] at es
     rw [es] at R3
     rw [en, List.length_append, List.length_singleton, ← List.append_assoc]; exact R3
    ·have en : iy xs (k + 2) (m + 1) = iy xs (k + 2) m := by
      rw [py, g1, g0, if_pos eq, List.append_nil]
     rw [wr (by omega) (by omega)]
     refine ⟨⟨m + 1, by rw [en]; rfl, by omega, f1, by rw [en]; exact R1⟩, by dsimp only; omega⟩
   ·unfold iZ
    have hmm : m = xs.length - (k + 2) := by omega
    have R1l := R1.le
    rw [L1] at R1l
    refine JY (by omega) (by omega) ?_
    have e3 : xs.length - (k + 1 + (iy xs (k + 2) m).length) = (xs.drop (k + 1 + (iy xs (k + 2) m).length)).length := by rw [List.length_drop]
    have hcl := fun K hK => Ee (ty := T_t) (cs := #[false]) (K := K) R1 hK
    rw [hA, ← e3] at hcl
    refine hcl _ fun h3 f3 R3 => ⟨rfl, ?_⟩
    have ec : mu xs = xs.take (k + 1) ++ iy xs (k + 2) m := by
     have h1 : xs.length - 1 = k + 1 + m := by omega
     unfold mu
     rw [h1]
     have h2 : iy xs 1 (k + 1) = iy xs 1 k := by
      rw [py, hg _ (by omega), hg _ (by omega), if_pos, List.append_nil]
      have a : 1 + k = k + 1 := by omega
      have b : 1 + k - 1 = k := by omega
      simp only [a, b]
      exact e
     have h3 : ∀ m, iy xs 1 (k + 1 + m) = iy xs 1 k ++ iy xs (k + 2) m := fun m => by
      induction m with
      | zero => rw [Nat.add_zero, h2]; simp [iy]
      | succ m ih =>
       rw [← Nat.add_assoc, py, ih, py xs (k + 2) m, List.append_assoc]
       have a : 1 + (k + 1 + m) = k + 2 + m := by omega
       rw [a]
     rw [h3, ← List.append_assoc, Fu hn (by omega)]
    refine IW (by omega) ?_
    have := hk h3 (f1.trans f3) (by rw [ec]; exact R3)
    rw [ec, hA] at this; exact this
  ·rw [wr (by omega) (by omega)]
   refine ⟨⟨k + 1, by omega, by omega, rfl, fun i hi => ?_⟩, by omega⟩
   rcases Nat.lt_or_ge i k with h | h
   ·exact hn i h
   ·have : i = k := by omega
    subst this
    rw [hg _ (by omega), hg _ (by omega)]
    have a : 1 + i = i + 1 := by omega
    have b : 1 + i - 1 = i := by omega
    simp only [a, b]
    exact e
 ·have hkk : k + 1 = xs.length := by omega
  refine same (xs.take (k + 1)) ?_ (by rw [hkk, List.take_length])
  unfold mu
  rw [show xs.length - 1 = k by omega]
  exact Fu hn (by omega)
end Go.Proofs.YtjmfpeiidlpngaaGreatDoor
namespace Go.Proofs.YtjmfpeiidlpngaaGreatDoor.Au
set_option linter.unusedSimpArgs false
set_option linter.unusedVariables false
set_option maxRecDepth 20000
open Go
theorem yR (c : UInt8) (r : Nm) : jL (c :: r) = if c = 63 then 0 else jL r + 1 := by
 unfold jL B5
 rw [List.findIdx?_cons]
 by_cases h : c = 63
 ·subst h; simp
 ·rw [if_neg h]
  have : (c == 63) = false := by simpa using h
  rw [this]
  cases List.findIdx? (fun x => x == 63) r <;> simp
theorem Ht : ∀ (l : Nm) (b : UInt8), b ∈ l.take (jL l) → b ≠ 63
 | [], b, h => by simp at h
 | c :: r, b, h => by
  rw [yR] at h
  by_cases e : c = 63
  ·rw [if_pos e] at h; simp at h
  ·rw [if_neg e, List.take_succ_cons] at h
   rcases List.mem_cons.1 h with rfl | h
   ·exact e
   ·exact Ht r b h
def emp : Nm → Nat
 | [] => 1
 | c :: _ => if c = 63 then 1 else 0
theorem nL (c : UInt8) (r : Nm) : emp (c :: r) = if c = 63 then 1 else 0 := rfl
theorem Kr (l : Nm) : emp l ≤ 1 := by unfold emp; repeat (first | split | omega)
theorem KR {l : Nm} (h : jL l ≠ 0) : emp l = 0 := by
 cases l with
 | nil => exact absurd rfl h
 | cons c r =>
  rw [yR] at h
  rw [nL]
  by_cases e : c = 63
  ·rw [if_pos e] at h; exact absurd rfl h
  ·rw [if_neg e]
theorem Jk {l : Nm} (h : jL l = 0) : emp l = 1 := by
 cases l with
 | nil => rfl
 | cons c r =>
  rw [yR] at h
  rw [nL]
  by_cases e : c = 63
  ·rw [if_pos e]
  ·rw [if_neg e] at h; omega
def phi (l : Nm) : Nat := l.length + emp l
theorem mY {l m : Nm} (h : m.length + 1 ≤ l.length) : phi m ≤ phi l := by have := Kr m; unfold phi; omega
theorem Io (l : Nm) : phi (cF l) ≤ phi l := by
 cases l with
 | nil => exact Nat.le_refl _
 | cons c r =>
  unfold phi
  rw [jR]
  have : emp (cF (c :: r)) ≤ emp (c :: r) := by
   unfold cF
   rw [List.map_cons, nL, nL]
   by_cases h : c = 63
   ·subst h; rw [if_pos rfl]; split <;> omega
   ·rw [if_neg h]
    have : fK c ≠ 63 := fun e => h (by
     unfold fK at e
     split at e
     ·rename_i hc
      have h1 := congrArg UInt8.toNat e
      have h2 : 65 ≤ c.toNat := UInt8.le_iff_toNat_le.1 hc.1
      have h3 : c.toNat ≤ 90 := UInt8.le_iff_toNat_le.1 hc.2
      rw [UInt8.toNat_add] at h1
      have h4 : (c.toNat + (32 : UInt8).toNat) % 256 = c.toNat + 32 := by show (c.toNat + 32) % 256 = _; omega
      have h5 : (63 : UInt8).toNat = 63 := rfl
      omega
     ·exact e)
    rw [if_neg this]; omega
  omega
theorem HP (l : Nm) : phi (kM l) ≤ phi l := by
 cases l with
 | nil => exact Nat.le_refl _
 | cons c r =>
  unfold kM
  rw [List.filter_cons]
  have := List.length_filter_le qP r
  split
  ·unfold phi; rw [nL, nL]; simp only [List.length_cons]; omega
  ·exact mY (by simp only [List.length_cons]; omega)
theorem KS (l : Nm) : phi (pS l) ≤ phi l := by
 match l with
 | [] => exact Nat.le_refl _
 | [a] => exact Nat.le_refl _
 | [a, b] => exact Nat.le_refl _
 | c :: a :: b :: r =>
  rw [pS]
  split
  ·exact mY (by have := yr r; simp only [List.length_cons]; omega)
  ·have := yr (a :: b :: r)
   unfold phi
   rw [nL, nL]
   simp only [List.length_cons] at this ⊢
   omega
theorem Kz (l : Nm) : phi (oQ (-1) l) ≤ phi l := by
 cases l with
 | nil => exact Nat.le_refl _
 | cons c r =>
  rw [oQ]
  split
  ·exact mY (by have := wi r (-1); simp only [List.length_cons]; omega)
  ·rw [if_pos (by omega)]
   exact mY (by have := wi r (lV (bA c)); simp only [List.length_cons]; omega)
theorem JE (l : Nm) : phi (oM 0 0 l) ≤ phi l := by
 cases l with
 | nil => exact Nat.le_refl _
 | cons c r =>
  rw [oM]
  split
  ·exact mY (by simp)
  ·split
   ·exact mY (by have := ww r 0 0; simp only [List.length_cons]; omega)
   ·rw [if_neg (by omega)]
    exact mY (by have := ww r (0 * 64 + (vj c).toNat) (0 + 6); simp only [List.length_cons]; omega)
theorem Km (k : List Nm) (s : Nm) (h : jq s = true) : bX (mE k s) ≤ bX k := by
 unfold jq at h
 unfold mE
 split
 ·exact Nat.le_refl _
 ·rename_i hn
  split
  ·exact zE k
  ·rename_i h2
   simp only [Bool.or_eq_true, decide_eq_true_eq] at h
   rcases h with (h | h) | h
   ·exact absurd (.inl h) hn
   ·exact absurd (.inr h) hn
   ·exact absurd h h2
theorem CB (t : List Nm) (ht : t ≠ []) : bX (bJ t) + (if jq (t.getLast ht) = true then 1 else 0) ≤ bX t := by
 rcases List.eq_nil_or_concat t with h | ⟨t', s, h⟩
 ·exact absurd h ht
 ·rw [List.concat_eq_append] at h
  subst h
  rw [List.getLast_concat]
  unfold bJ
  rw [List.foldl_append, List.foldl_cons, List.foldl_nil, wa]
  have h1 := rx t' []
  have h0 : bX ([] : List Nm) = 0 := rfl
  split
  ·rename_i he
   have := Km (t'.foldl mE []) s he
   omega
  ·have := CD (t'.foldl mE []) s
   omega
theorem Is {ts : List Nm} (h : ts ≠ []) : (Lib.join ts [47]).length + 1 ≤ bX ts := by
 cases ts with
 | nil => exact absurd rfl h
 | cons a r =>
  rw [Lib.join_cons]
  unfold Lib.joinTail bX
  rw [List.length_append, List.length_flatten, List.map_map, List.map_cons, List.sum_cons]
  have : (r.map (List.length ∘ fun x => [47] ++ x)).sum = (r.map fun t => t.length + 1).sum := by
   have hf : (List.length ∘ fun x : Nm => [47] ++ x) = fun t => t.length + 1 := by funext x; show ([47] ++ x : Nm).length = _; simp
   rw [hf]
  rw [this]; omega
theorem Gw (p : Nm) : (tG p).length ≤ p.length ∨ (tG p = [47]) := by
 unfold tG
 split
 ·exact .inr rfl
 rename_i hk
 refine .inl ?_
 have hj := Is hk
 have hs := sY p
 rw [List.length_append, List.length_append]
 have a2 : (if jq ((aF p).getLast (gA p)) = true then ([47] : Nm) else []).length = if jq ((aF p).getLast (gA p)) = true then 1 else 0 := by split <;> rfl
 rw [a2]
 by_cases h1 : p.take 1 = [47]
 ·rw [if_pos h1]
  cases p with
  | nil => cases h1
  | cons c q =>
   simp only [List.take_succ_cons, List.take_zero, List.cons.injEq, and_true] at h1
   subst h1
   have e : aF (47 :: q) = [] :: aF q := by rw [aF, if_pos rfl]
   have ek : bJ (aF (47 :: q)) = bJ (aF q) := by rw [e]; rfl
   have el : (aF (47 :: q)).getLast (gA _) = (aF q).getLast (gA q) := by
    have : ∀ (t : List Nm) (h : t ≠ []) (hq : aF q ≠ []), t = [] :: aF q → t.getLast h = (aF q).getLast hq := fun t h hq ht => by
     subst ht; exact List.getLast_cons hq
    exact this _ _ _ e
   have h3 := CB (aF q) (gA q)
   have h4 : bX (aF (47 :: q)) = 1 + bX (aF q) := by rw [e]; unfold bX; simp
   rw [ek] at hj ⊢
   rw [el]
   simp only [List.length_cons, List.length_nil] at *
   omega
 ·rw [if_neg h1]
  have h3 := CB (aF p) (gA p)
  simp only [List.length_nil]
  omega
theorem IU {ts : List Nm} {b : UInt8} (h : b ∈ Lib.join ts [47]) : b = 47 ∨ ∃ t ∈ ts, b ∈ t := by
 cases ts with
 | nil => rw [Lib.join_nil] at h; cases h
 | cons a r =>
  rw [Lib.join_cons] at h
  rcases List.mem_append.1 h with h | h
  ·exact .inr ⟨a, by simp, h⟩
  ·unfold Lib.joinTail at h
   obtain ⟨x, hx, hb⟩ := List.mem_flatten.1 h
   obtain ⟨t, ht, rfl⟩ := List.mem_map.1 hx
   rcases List.mem_append.1 hb with hb | hb
   ·exact .inl (by simpa using hb)
   ·exact .inr ⟨t, List.mem_cons_of_mem _ ht, hb⟩
theorem EN : ∀ (ss k : List Nm) (t : Nm), t ∈ ss.foldl mE k → t ∈ k ∨ t ∈ ss
 | [], k, t, h => .inl h
 | s :: ss, k, t, h => by
  rw [List.foldl_cons] at h
  rcases EN ss _ t h with h | h
  ·unfold mE at h
   split at h
   ·exact .inl h
   ·split at h
    ·exact .inl ((List.dropLast_sublist _).subset h)
    ·rcases List.mem_append.1 h with h | h
     ·exact .inl h
     ·exact .inr (by rw [List.mem_singleton.1 h]; simp)
  ·exact .inr (List.mem_cons_of_mem _ h)
theorem wy : ∀ (l : Nm) (t : Nm) (b : UInt8), t ∈ aF l → b ∈ t → b ∈ l
 | [], t, b, h, hb => by
  unfold aF at h
  rw [List.mem_singleton.1 h] at hb; cases hb
 | c :: l, t, b, h, hb => by
  unfold aF at h
  split at h
  ·rcases List.mem_cons.1 h with rfl | h
   ·cases hb
   ·exact List.mem_cons_of_mem _ (wy l t b h hb)
  ·cases hs : aF l with
   | nil => exact absurd hs (gA l)
   | cons x xs =>
    rw [hs] at h
    rcases List.mem_cons.1 h with rfl | h
    ·rcases List.mem_cons.1 hb with rfl | hb
     ·simp
     ·exact List.mem_cons_of_mem _ (wy l x b (by rw [hs]; simp) hb)
    ·exact List.mem_cons_of_mem _ (wy l t b (by rw [hs]; simp [h]) hb)
theorem Id {p : Nm} {b : UInt8} (h : b ∈ tG p) : b = 47 ∨ b ∈ p := by
 unfold tG at h
 split at h
 ·exact .inl (by simpa using h)
 ·rcases List.mem_append.1 h with h | h
  ·rcases List.mem_append.1 h with h | h
   ·split at h
    ·exact .inl (by simpa using h)
    ·cases h
   ·rcases IU h with h | ⟨t, ht, hb⟩
    ·exact .inl h
    ·rcases EN _ _ t ht with h | h
     ·cases h
     ·exact .inr (wy p t b h hb)
  ·split at h
   ·exact .inl (by simpa using h)
   ·cases h
theorem JP (l : Nm) : phi (zX l) ≤ phi l := by
 unfold zX
 have hc := D6 l
 have htl : (l.take (jL l)).length = jL l := by rw [List.length_take]; omega
 by_cases h0 : jL l = 0
 ·have e1 : tG (l.take (jL l)) = [47] := by rw [h0, List.take_zero]; rfl
  rw [e1, h0, List.drop_zero]
  have := Jk h0
  unfold phi
  rw [this]
  show (47 :: l : Nm).length + (if (47 : UInt8) = 63 then 1 else 0) ≤ _
  rw [if_neg (by decide)]
  simp
 ·have he := KR h0
  cases hp : tG (l.take (jL l)) with
  | nil => exact mY (by rw [List.nil_append, List.length_drop]; omega)
  | cons c q =>
   have hn : c ≠ 63 := by
    rcases Id (p := l.take (jL l)) (b := c) (by rw [hp]; simp) with h | h
    ·rw [h]; decide
    ·exact Ht l c h
   unfold phi
   rw [List.cons_append]
   have e0 : emp (c :: (q ++ l.drop (jL l))) = 0 := by rw [nL, if_neg hn]
   rw [e0, he, ← List.cons_append, ← hp, List.length_append, List.length_drop]
   rcases Gw (l.take (jL l)) with h | h
   ·omega
   ·rw [h]; simp only [List.length_cons, List.length_nil]; omega
theorem Mi (k : Int) (l : Nm) : phi (trL k l) ≤ phi l := by
 unfold trL
 split
 ·exact Io l
 split
 ·exact HP l
 split
 ·exact KS l
 split
 ·exact JE l
 split
 ·exact JP l
 split
 ·exact Kz l
 ·exact Nat.le_refl _
theorem Fd : ∀ (ks : List Int) (l : Nm), phi (ks.foldl (fun s k => trL k s) l) ≤ phi l
 | [], l => Nat.le_refl _
 | k :: ks, l => by rw [List.foldl_cons]; exact Nat.le_trans (Fd ks _) (Mi k l)
theorem FT (ks : List Int) (l : Nm) : (jk ks l).length ≤ l.length + 1 := by
 have h1 : phi (jk ks l) ≤ phi l := Fd _ l
 have h2 := Kr l
 unfold phi at h1
 omega
end Go.Proofs.YtjmfpeiidlpngaaGreatDoor.Au
namespace Go.Proofs.YtjmfpeiidlpngaaGreatDoor
set_option linter.unusedSimpArgs false
set_option linter.unusedVariables false
set_option maxRecDepth 20000
open Go
open Go.IntKind (wrap)
def qZ (rs : List (List Int)) (sn : List Bool) (k : Nat) : List Int := (List.range k).flatMap fun i => if sn.getD i false = true then rs.getD i [] else []
theorem xz (rs : List (List Int)) (sn : List Bool) (k : Nat) : qZ rs sn (k + 1) = qZ rs sn k ++ if sn.getD k false = true then rs.getD k [] else [] := by
 unfold qZ
 rw [List.range_succ, List.flatMap_append, List.flatMap_cons, List.flatMap_nil, List.append_nil]
theorem Ig {rs : List (List Int)} {sn : List Bool} {m : Nat} (h : ∀ r ∈ rs, r.length ≤ m) (k : Nat) : (qZ rs sn k).length ≤ k * m := by
 induction k with
 | zero => simp [qZ]
 | succ k ih =>
  rw [xz, List.length_append, Nat.succ_mul]
  have : (if sn.getD k false = true then rs.getD k [] else []).length ≤ m := by
   split
   ·rw [List.getD_eq_getElem?_getD]
    cases hk : rs[k]? with
    | none => simp
    | some r => exact h r (List.mem_of_getElem? hk)
   ·simp
  omega
def En (g : Gr) (w : Au.Nm) : List Int := g.Always.xs ++ qZ (g.Rules.xs.map (·.xs)) (ii g w) (ii g w).length
def pX (K : List Gr) (w : Au.Nm) : List Int := K.flatMap fun g => En g w
structure GSz (g : Gr) : Prop where
 rl : g.Rules.xs.length = g.Patterns.xs.length
 pl : g.Patterns.xs.length ≤ 40
 al : g.Always.xs.length ≤ 40
 ru : ∀ r ∈ g.Rules.xs, r.xs.length ≤ 40
theorem GSz.pick {g : Gr} (z : GSz g) (sn : List Bool) {k : Nat} (hk : k ≤ 40) : (qZ (g.Rules.xs.map (·.xs)) sn k).length ≤ 1600 := by
 have := Ig (rs := g.Rules.xs.map (·.xs)) (sn := sn) (m := 40) (fun r hr => by obtain ⟨s, hs, rfl⟩ := List.mem_map.1 hr; exact z.ru s hs) k
 omega
theorem GSz.sl {g : Gr} (z : GSz g) (w : Au.Nm) : (ii g w).length ≤ 40 := by rw [tf, rJ]; exact z.pl
theorem I7 {g : Gr} (z : GSz g) (w : Au.Nm) : (En g w).length ≤ 2000 := by
 unfold En
 rw [List.length_append]
 have := z.pick (ii g w) (z.sl w)
 have := z.al
 omega
theorem HT (K : List Gr) (g : Gr) (w : Au.Nm) : pX (K ++ [g]) w = pX K w ++ En g w := by unfold pX; rw [List.flatMap_append]; simp
theorem EG {w : Au.Nm} : ∀ {K : List Gr}, (∀ g ∈ K, GSz g) → (pX K w).length ≤ K.length * 2000
 | [], _ => by simp [pX]
 | g :: K, h => by
  unfold pX
  rw [List.flatMap_cons, List.length_append, List.length_cons, Nat.succ_mul]
  have h1 := I7 (h g (by simp)) w
  have h2 : (pX K w).length ≤ K.length * 2000 := EG fun x hx => h x (List.mem_cons_of_mem _ hx)
  unfold pX at h2
  omega
def trW (K : List Gr) (w : Au.Nm) : Nat := (K.map fun g => if trans g = true then (Au.jk g.Transforms.xs w).length else 0).sum
theorem Kq (K : List Gr) (g : Gr) (w : Au.Nm) : trW (K ++ [g]) w = trW K w + if trans g = true then (Au.jk g.Transforms.xs w).length else 0 := by
 unfold trW; rw [List.map_append, List.sum_append]; simp
theorem MC (K : List Gr) (w : Au.Nm) : trW K w ≤ K.length * (w.length + 1) := by
 unfold trW
 induction K with
 | nil => simp
 | cons g K ih =>
  rw [List.map_cons, List.sum_cons, List.length_cons, Nat.succ_mul]
  have := Au.FT g.Transforms.xs w
  split <;> omega
structure yh (N : Nat) (F : Nat → Prop) (h0 : aB) (t1 s c t9 : Addr) (f : aR) (dir : Int) (bs : List Bd) (gs K : List Gr) (av pa : List Addr) (kp : Option Addr) (w : Au.Nm) (pp : Option Addr) (pc : Nat) (o : Tag) (h : aB) (sn : Nat → Gr → List Bool) (work : Int) (out : List Int) : Prop where
 fr : Fr F h0 h
 k1 : Kp (fun x => o x = 0) h fun h' => aY h' t1 [.pointer (some c)]
 R : lD N (fun y => F y ∨ h0.size ≤ y) o h s c t9 bs gs K av pa (fun _ => w) sn
 C : uR o h s c f dir (pa ++ kp.toList) (if rv K = true then w else []) work true out
 KP : CG o h t9 kp
 Rp : Row 1 adV h pp pc (pa ++ kp.toList)
 tp : ∀ y, InA pp y → o y = 4
section
variable {N : Nat} {F : Nat → Prop} {h0 : aB} {t1 s c t9 : Addr} {f : aR} {dir : Int} {bs : List Bd} {gs K : List Gr} {av pa : List Addr} {kp : Option Addr} {w : Au.Nm} {pp : Option Addr} {pc : Nat} {o : Tag} {h : aB} {sn : Nat → Gr → List Bool} {work : Int} {out : List Int}
theorem yh.own (I : yh N F h0 t1 s c t9 f dir bs gs K av pa kp w pp pc o h sn work out) : ∀ y, y < h.size → o y ≠ 0 → o y ≠ 9 → y < h0.size → F y := fun y hy h0' h9 hyh => by
 rcases I.R.fp y hy (by
  rcases Nat.lt_or_ge y N with hl | hl
  ·exact absurd (I.R.low y hl) h0'
  ·exact hl) h9 with hh | hh
 ·exact hh
 ·omega
theorem yh.outCell (I : yh N F h0 t1 s c t9 f dir bs gs K av pa kp w pp pc o h sn work out) : ∃ op oc, hcell h (c.add 15) = some (.slice op out.length oc) := by
 obtain ⟨tg, pp1, pc1, bp, bc, op, oc, ow, _⟩ := I.C
 exact ⟨op, oc, ow.cells.at (j := 15) rfl⟩
theorem yh.push [Gh] (I : yh N F h0 t1 s c t9 f dir bs gs K av pa kp w pp pc o h sn work out) {xs : List Int} {v : Value} (src : Src h 1 v xs.length (xs.flatMap Au.lZ)) (hl : out.length + xs.length ≤ 2 ^ 30)
  {op : Option Addr} {oc : Nat} (hc : hcell h (c.add 15) = some (.slice op out.length oc)) {K' : aB → Prop}
  (hk : ∀ h' o', Au.Old h o o' → Fr (fun x => o x = 1 ∨ o x = 3) h h' → yh N F h0 t1 s c t9 f dir bs gs K av pa kp w pp pc o' h' sn work (out ++ xs) → K' h') :
  cQ Tryz.prog .append #[bG, bG] bG #[false, false] #[.slice op out.length oc, v] h fun v h4 => ∃ t44a : Option Addr, ∃ t44n : Nat, ∃ t44c : Nat, v = .slice t44a t44n t44c ∧ (ldP h4 t1 fun t931 => (.pointer t931 : Value) = .pointer (some c)) ∧ nn (some c) fun t45 => st1 h4 (Addr.add t45 15) (.slice t44a t44n t44c) fun h5 => K' h5 := by
 have own := I.own
 obtain ⟨fr, k1, R, C, KP, Rp, tp⟩ := I
 obtain ⟨tg, pp1, pc1, bp, bc, op', oc', ow, R1, t1', R2, t2, R3, t3⟩ := C
 have e := hc.symm.trans (ow.cells.at (j := 15) rfl)
 simp only [Option.some.injEq, Value.slice.injEq, true_and] at e
 obtain ⟨rfl, rfl⟩ := e
 refine R3.appL Au.rq Tryz.underlying46 (by intro k e; cases e) (by kernel_rfl) (by decide +kernel) nk AA src hl fun op2 oc2 h2 R3' f2 hn2 => ⟨_, _, _, rfl, ?_⟩
 have z2 := f2.size
 have k12 := k1.fr (B' := fun y => o y = 0) f2 (fun y hy h1 hh => by have := t3 y hh; omega) fun _ _ => id
 refine ⟨bB (k12.now.at0 rfl) rfl, aV ?_⟩
 have ow2 := ow.fr f2 fun hh => by have := t3 _ hh; omega
 have lc := ow.lt
 refine cO ow2 15 (by show 15 < 16; omega) rfl fun h3 f3 z3 ow3 => ?_
 have z3' := f3.size
 have Ft : Fr (fun y => InA op y ∨ y = c.block) h h3 := (f2.mono fun _ => .inl).trans (f3.mono fun _ => .inr)
 have up : ∀ y, y < h.size → Au.upT o h.size 3 y = o y := fun y hy => Au.dX hy
 have tS : ∀ y, (InA op y ∨ y = c.block) → o y = 3 ∨ o y = 1 := fun y hh => by
  rcases hh with hh | hh
  ·exact .inl (t3 y hh)
  ·exact .inr (by rw [hh]; exact tg)
 refine hk h3 (Au.upT o h.size 3) (Au.Old.up (Nat.le_refl _)) (Ft.mono fun y hy => by have := tS y hy; omega) ⟨fr.tr Ft fun y hy hh => own y (by have := fr.size; omega) (by have := tS y hh; omega) (by have := tS y hh; omega) hy, k1.tag Ft (Au.Old.up (Nat.le_refl _)) fun y hy hh => by have := tS y hh; omega,
  R.fr Ft (Au.Old.up (Nat.le_refl _)) (fun y hy hh => by have := tS y hh; omega) (fun y hy hn hne => ?_) Ft.size, ?_, KP.fr Ft (Au.Old.up (Nat.le_refl _)) (fun y hy hh => by have := tS y hh; omega), Rp.fr Ft (fun y hy hh => by have := tp y hy; have := tS y hh; omega), fun y hy => by rw [up y (Rp.lt hy)]; exact tp y hy⟩
 ·rcases Nat.lt_or_ge y h.size with hl | hl
  ·exact R.fp y hl hn (by rw [← up y hl]; exact hne)
  ·exact .inr (by have := fr.size; omega)
 ·refine ⟨by rw [up _ lc]; exact tg, pp1, pc1, bp, bc, op2, oc2, ow3, R1.fr Ft (fun y hy hh => by have := t1' y hy; have := tS y hh; omega), fun y hy => by rw [up y (R1.lt hy)]; exact t1' y hy,
   R2.fr Ft (fun y hy hh => by have := t2 y hy; have := tS y hh; omega), fun y hy => by rw [up y (R2.lt hy)]; exact t2 y hy, R3'.fr f3 (fun y hy hh => ?_), fun y hy => ?_⟩
  ·rcases hn2 y hy with h5 | h5
   ·have := t3 y h5; rw [hh, tg] at this; omega
   ·omega
  ·rcases hn2 y hy with h5 | h5
   ·rw [up y (R3.lt h5)]; exact t3 y h5
   ·exact Au.kf h5
end
def yI (F : Nat → Prop) (h : aB) (c : Addr) (work : Int) (out : List Int) : Prop :=
 ∃ s f dir pp pn pc bp bn bc op oc, Own h c (Bw s f dir pp pn pc bp bn bc work true op out.length oc) iI ∧ Row 1 Au.lZ h op oc out ∧ ¬ InA op c.block ∧ F c.block ∧ ∀ x, InA op x → F x
theorem yI.fr {F S : Nat → Prop} {h h' : aB} {c : Addr} {work : Int} {out : List Int} (D : yI F h c work out) (f : Fr S h h') (hs : ∀ x, S x → ¬ F x) : yI F h' c work out := by
 obtain ⟨s, fl, dir, pp, pn, pc, bp, bn, bc, op, oc, ow, R, h1, h2, h3⟩ := D
 exact ⟨s, fl, dir, pp, pn, pc, bp, bn, bc, op, oc, ow.fr f fun hh => hs _ hh h2, R.fr f fun x hx hh => hs _ hh (h3 x hx), h1, h2, h3⟩
def vC (bs : List Bd) (f : aR) (dir : Int) (x : Int) : Bool := !(atB (fun b => Au.eE b f dir) bs x.toNat)
def wW (bs : List Bd) (f : aR) (dir : Int) (l : List Int) : List Int := mu (Au.oW (dU (vC bs f dir) l))
set_option maxHeartbeats 1000000 in
theorem KO [Gh] {N : Nat} {F : Nat → Prop} {h0 : aB} {t1 s c t9 : Addr} {f : aR} {dir : Int} {bs : List Bd} {gs K : List Gr} {av pa : List Addr} {kp : Option Addr} {w : Au.Nm} {pp : Option Addr} {pc : Nat} {o : Tag} {h : aB} {sn : Nat → Gr → List Bool} {work : Int} {out : List Int}
  (I : yh N F h0 t1 s c t9 f dir bs gs K av pa kp w pp pc o h sn work out) (hb : bs.length ≤ 40) (hr : ∀ x ∈ out, 0 ≤ x ∧ x < bs.length) (hl : out.length ≤ 2 ^ 19) {Q : Value → aB → Prop}
  (hk : ∀ p pc h', Fr F h0 h' → yI (fun y => F y ∨ h0.size ≤ y) h' c work (wW bs f dir out) → Row 1 Au.lZ h' p pc (wW bs f dir out) → (∀ x, InA p x → h.size ≤ x) → Q (.slice p (wW bs f dir out).length pc) h') :
  eY t1 Q h := by
 have own := I.own
 obtain ⟨fr, k1, R, C, KP, Rp, tp⟩ := I
 obtain ⟨tg, pp1, pc1, bp, bc, op, oc, ow, R1, t1', R2, t2, R3, t3⟩ := C
 have lc := ow.lt
 have zf := fr.size
 have nc : ¬ InA op c.block := fun hh => by have := t3 _ hh; omega
 have k1f : ∀ {h'}, Fr (fun y => InA op y ∨ y = c.block) h h' → aY h' t1 [.pointer (some c)] := fun f => (k1.fr (B' := fun y => o y = 0) f (fun y hy h1 hh => by
  rcases hh with hh | hh
  ·have := t3 y hh; omega
  ·rw [hh, tg] at h1; omega) fun _ _ => id).now
 unfold eY
 refine bB (k1.now.at0 rfl) (bB (k1.now.at0 rfl) (aV (aC (ow.cells.at (j := 15) rfl) ?_)))
 have D : LU (.func (.func 46) #[] #[.pointer (some t1)]) op h out (vC bs f dir) := by
  intro h' f' x hx Q hQ
  have c1 := k1f (f'.mono fun _ => .inl)
  have ow' := ow.fr f' nc
  obtain ⟨h1, h2⟩ := hr x hx
  obtain ⟨n, rfl⟩ : ∃ n : Nat, x = n := ⟨x.toNat, by omega⟩
  have hn : n < bs.length := by omega
  have T := R.set.fr f' fun y hy hh => by
   rcases Nat.lt_or_ge y N with hl | hl
   ·have := R.low y hl; have := t3 y hh; omega
   ·exact hl
  obtain ⟨p1, cc1, v, cs, ok⟩ := T.rd hb
  rw [cM]
  apply qH
  unfold li
  refine bB (c1.at0 rfl) (aV (bB (ow'.cells.at0 rfl) (aV (aC (cs.at0 rfl) ?_))))
  refine cL ok n rfl hn fun ad cc okr => ?_
  rw [Int.toNat_natCast]
  refine (aA (cc.at0 rfl) (aA (cc.at rfl) (aC (cc.at rfl) (aC (cc.at rfl) (aC (cc.at rfl) (aC (cc.at rfl) (aG (cc.at rfl) (aA (cc.at rfl) (aA (cc.at rfl) (aA (cc.at rfl) (aT (cc.at rfl) (aA (cc.at rfl) (aA (cc.at rfl) (aC (cc.at rfl) (aC (cc.at rfl) (aC (cc.at rfl) (aC (cc.at rfl) (aA (cc.at rfl) (aA (cc.at rfl) (aA (cc.at rfl) (aA (cc.at rfl) (aC (cc.at rfl) (aC (cc.at rfl) (aC (cc.at rfl) (aC (cc.at rfl) ?_)))))))))))))))))))))))))
  refine bB (c1.at0 rfl) (aV ?_)
  refine (aA (ow'.cells.at rfl) (aG (ow'.cells.at rfl) (aA (ow'.cells.at rfl) (aA (ow'.cells.at rfl) (aG (ow'.cells.at rfl) (aA (ow'.cells.at rfl) (aA (ow'.cells.at rfl) (aA (ow'.cells.at rfl) (aA (ow'.cells.at rfl) ?_)))))))))
  refine bB (c1.at0 rfl) (aV (aA (ow'.cells.at (j := 10) rfl) ?_))
  refine Au.CZ bs[n] f dir okr fun h3 f3 => ⟨_, rfl, ?_⟩
  have := hQ h3 f3
  unfold vC at this
  rw [Int.toNat_natCast, wd _ _ _ hn] at this
  exact this
 refine DG R3 D (by omega) fun h8 f8 R8 => ⟨_, _, _, rfl, ?_⟩
 have kl := CH (vC bs f dir) out
 have F8 : Fr (fun y => InA op y ∨ y = c.block) h h8 := f8.mono fun _ => .inl
 refine ⟨bB ((k1f F8).at0 rfl) rfl, aV ?_⟩
 have ow8 := ow.fr f8 nc
 refine cO ow8 15 (by show 15 < 16; omega) rfl fun h9 f9 z9 ow9 => ?_
 have F9 := F8.trans (f9.mono fun y hy => .inr hy)
 refine bB ((k1f F9).at0 rfl) (aV (aC (ow9.cells.at (j := 15) rfl) ?_))
 have R9 := R8.fr f9 fun y hy hh => nc (by rw [← hh]; exact hy)
 refine Au.GR R9 (by omega) fun h10 f10 R10 => ⟨rfl, ?_⟩
 have F10 := F9.trans (f10.mono fun y hy => .inl hy)
 have ow10 := ow9.fr f10 nc
 have hsl : (Au.oW (dU (vC bs f dir) out)).length = (dU (vC bs f dir) out).length := List.length_mergeSort _
 refine bB ((k1f F10).at0 rfl) (bB ((k1f F10).at0 rfl) (aV (aC (ow10.cells.at (j := 15) rfl) ?_)))
 have cmp := fun (Q : Value → aB → Prop) => Ic (Q := Q) R10 (by omega)
 rw [hsl] at cmp
 refine cmp _ fun h11 f11 R11 => ⟨_, _, _, rfl, ?_⟩
 have F11 := F10.trans (f11.mono fun y hy => .inl hy)
 have ow11 := ow10.fr f11 nc
 refine ⟨bB ((k1f F11).at0 rfl) rfl, aV ?_⟩
 refine cO ow11 15 (by show 15 < 16; omega) rfl fun h12 f12 z12 ow12 => ?_
 have F12 := F11.trans (f12.mono fun y hy => .inr hy)
 have R12 := R11.fr f12 fun y hy hh => nc (by rw [← hh]; exact hy)
 unfold eZ
 refine bB ((k1f F12).at0 rfl) (aV (aC (ow12.cells.at (j := 15) rfl) ?_))
 have hcl : (mu (Au.oW (dU (vC bs f dir) out))).length ≤ out.length + 1 := by
  unfold mu
  rw [List.length_append, List.length_take]
  have := Fa (Au.oW (dU (vC bs f dir) out)) 1 ((Au.oW (dU (vC bs f dir) out)).length - 1)
  omega
 have hin : ∀ x ∈ mu (Au.oW (dU (vC bs f dir) out)), kOk .i64 h12 x := fun x hx => by
  have h1 : x ∈ Au.oW (dU (vC bs f dir) out) := by
   unfold mu at hx
   rcases List.mem_append.1 hx with hx | hx
   ·exact List.mem_of_mem_take hx
   ·unfold iy at hx
    obtain ⟨k, hk, e⟩ := List.mem_filterMap.1 hx
    split at e
    ·cases e
    ·simp only [Option.some.injEq] at e
     rw [List.mem_range] at hk
     rw [wA _ _ (by omega)] at e
     rw [← e]; exact List.getElem_mem _
  have h2 : x ∈ dU (vC bs f dir) out := (List.mergeSort_perm _ _).mem_iff.1 h1
  have h3 := hr x ((List.mem_filter.1 h2).1)
  exact Fp.Gt (by omega) (by omega)
 have os : bH 1 (fun n : Int => [Value.int .i64 n]) (kOk .i64) h12 ⟨op, oc, mu (Au.oW (dU (vC bs f dir) out))⟩ := Row.sl (vals := fun n : Int => [Value.int .i64 n]) R12 (fun _ => rfl) (by omega) (by omega) hin
 refine BM ⟨op, oc, mu (Au.oW (dU (vC bs f dir) out))⟩ os (by show (mu _).length ≤ 2 ^ 20; omega) fun p' c' h13 f13 R13 hn13 => ⟨_, _, _, rfl, ?_⟩
 have z12' := F12.size
 refine hk p' c' h13 ((fr.tr F12 fun y hy hh => ?_).trans (f13.mono fun _ => False.elim)) ⟨s, f, dir, pp1, _, pc1, bp, _, bc, op, oc, ow12.fr0 f13, R12.fr0 f13, nc, ?_, fun x hx => ?_⟩ R13 fun x hx => by have := hn13 x hx; omega
 ·rcases hh with hh | hh
  ·have h3 := t3 y hh; exact own y (by omega) (by omega) (by omega) hy
  ·rw [hh] at hy ⊢; exact own _ lc (by omega) (by omega) hy
 ·rcases Nat.lt_or_ge c.block h0.size with hl | hl
  ·exact .inl (own _ lc (by omega) (by omega) hl)
  ·exact .inr hl
 ·rcases Nat.lt_or_ge x h0.size with hl | hl
  ·have h3 := t3 x hx; exact .inl (own _ (R3.lt hx) (by omega) (by omega) hl)
  ·exact .inr hl
end Go.Proofs.YtjmfpeiidlpngaaGreatDoor
namespace Go.Proofs.YtjmfpeiidlpngaaGreatDoor
set_option linter.unusedSimpArgs false
set_option linter.unusedVariables false
set_option maxRecDepth 20000
open Go
open Go.IntKind (wrap)
def snK (w : Au.Nm) (k i : Nat) (g : Gr) : List Bool := if i < k then ii g w else iD g w
section
variable {N : Nat} {F : Nat → Prop} {h0 : aB} {t1 s c t9 : Addr} {f : aR} {dir : Int} {bs : List Bd} {gs K : List Gr} {av pa : List Addr} {kp : Option Addr} {w : Au.Nm} {pp : Option Addr} {pc : Nat} {o : Tag} {h : aB} {work : Int} {out : List Int}
set_option maxHeartbeats 1000000 in
theorem KZ [Gh] {k : Nat} (hkK : k < K.length) (hka : k < av.length) (hkp : k < pa.length) (I : yh N F h0 t1 s c t9 f dir bs gs K av pa kp w pp pc o h (snK w (k + 1)) work (out ++ K[k].Always.xs)) (z : GSz K[k]) (hl : out.length ≤ 2 ^ 18)
  {q : Option Addr} {qc : Nat} (hq : hcell h (pa[k].add 1) = some (.slice q (ii K[k] w).length qc)) {pga : Option Addr} {pgn pgc : Nat} {t21 t22 : Int} {Q : Value → aB → Prop} {Kn1 : Int → aB → Prop}
  (hk : ∀ h' o', yh N F h0 t1 s c t9 f dir bs gs K av pa kp w pp pc o' h' (snK w (k + 1)) work (out ++ En K[k] w) → Kn1 (wrap .i64 (t22 + 1)) h') :
  aH (fun (s : Int) h Kn => dH t1 (some pa[k]) pga pgn pgc t21 t22 q (ii K[k] w).length qc (((ii K[k] w).length : Nat) : Int) Q Kn1 s h Kn) 0 h := by
 have P := I.R.part k hkK hka hkp
 have esn : snK w (k + 1) k K[k] = ii K[k] w := if_pos (by omega)
 rw [esn] at P
 obtain ⟨tg, ln, q', qc', fd, en, au, sg, ws, kk, Rq, tq, G, _⟩ := P
 have e := hq.symm.trans (kk.now.at (j := 1) rfl)
 simp only [Option.some.injEq, Value.slice.injEq, true_and] at e
 obtain ⟨rfl, rfl⟩ := e
 have zl := z.sl w
 refine aH.mk (fun st h' => ∃ (m : Nat) (o' : Tag), st = (m : Int) ∧ m ≤ (ii K[k] w).length ∧ yh N F h0 t1 s c t9 f dir bs gs K av pa kp w pp pc o' h' (snK w (k + 1)) work (out ++ K[k].Always.xs ++ qZ (K[k].Rules.xs.map (·.xs)) (ii K[k] w) m) ∧
   Kp (fun x => o' x = 0) h' (fun h'' => aY h'' pa[k] [.pointer (some av[k]), .slice q (ii K[k] w).length qc, fd, en]) ∧ Row 1 bbV h' q qc (ii K[k] w) ∧ (∀ x, InA q x → o' x = 10 + 2 * k) ∧ GpX N h' av[k] K[k] au sg ws)
  (fun st _ => (ii K[k] w).length - st.toNat) ⟨0, o, rfl, by omega, by simpa [qZ] using I, kk, Rq, tq, G⟩ ?_
 rintro st h1 ⟨m, o', rfl, hm, I1, k1, R1, tq1, G1⟩
 unfold dH
 refine ifD (fun hlt => ?_) (fun hge => ?_)
 ·have hm' : m < (ii K[k] w).length := by omega
  refine R1.idx AB (by omega) m rfl hm' fun ad cc => ?_
  try rw [Int.toNat_natCast]
  refine aG (cc.at0 rfl) ?_
  have eg : (ii K[k] w).getD m false = (ii K[k] w)[m] := by rw [List.getD_eq_getElem?_getD, List.getElem?_eq_getElem hm']; rfl
  refine ifB (fun es => ?_) fun es => ?_
  ·obtain ⟨op, oc, hc⟩ := I1.outCell
   refine bB (I1.k1.now.at0 rfl) (bB (I1.k1.now.at0 rfl) (aV (aC hc (aV (bB (k1.now.at0 rfl) (aV ?_))))))
   have gc := tH G1.1.now.1
   refine aC (gc.at (j := 3) rfl) ?_
   have hmr : m < K[k].Rules.xs.length := by
    rw [z.rl, ← rJ, ← tf K[k] w]; exact hm'
   refine cL G1.1.now.2.k3 m rfl hmr fun ad2 cc2 ok2 => ?_
   try rw [Int.toNat_natCast]
   refine aC (cc2.at0 rfl) ?_
   have hmx : K[k].Rules.xs[m].xs.length ≤ 40 := z.ru _ (List.getElem_mem hmr)
   have ep : qZ (K[k].Rules.xs.map (·.xs)) (ii K[k] w) (m + 1) = qZ (K[k].Rules.xs.map (·.xs)) (ii K[k] w) m ++ K[k].Rules.xs[m].xs := by
    rw [xz, eg, es, if_pos rfl, List.getD_eq_getElem?_getD, List.getElem?_map, List.getElem?_eq_getElem hmr]; rfl
   have hp := z.pick (ii K[k] w) (k := m) (by omega)
   have hal := z.al
   refine I1.push (xs := K[k].Rules.xs[m].xs) (ok2.src fun _ => rfl) (by rw [List.length_append, List.length_append]; omega) hc fun h2 o2 ho f2 I2 => ?_
   have z2 := f2.size
   rw [wr (by omega) (by omega)]
   refine ⟨⟨m + 1, o2, by omega, by omega, by rw [ep, ← List.append_assoc]; exact I2, k1.tag f2 ho fun y hy hh => by omega, R1.fr f2 fun y hy hh => by have := tq1 y hy; omega, fun y hy => by rw [ho y (R1.lt hy)]; exact tq1 y hy, G1.fr f2 fun y hy hh => ?_⟩, by omega⟩
   rcases Nat.lt_or_ge y N with hl | hl
   ·have := I1.R.low y hl; omega
   ·exact hl
  ·have ep : qZ (K[k].Rules.xs.map (·.xs)) (ii K[k] w) (m + 1) = qZ (K[k].Rules.xs.map (·.xs)) (ii K[k] w) m := by
    rw [xz, eg, es, if_neg (by decide), List.append_nil]
   rw [wr (by omega) (by omega)]
   exact ⟨⟨m + 1, o', by omega, by omega, by rw [ep]; exact I1, k1, R1, tq1, G1⟩, by omega⟩
 ·have : m = (ii K[k] w).length := by omega
  subst this
  refine hk h1 o' ?_
  unfold En
  rw [← List.append_assoc]; exact I1
end
set_option maxHeartbeats 2000000 in
theorem BA [Gh] {N : Nat} {F : Nat → Prop} {h : aB} {s c : Addr} {f : aR} {dir : Int} {bs : List Bd} {gs K : List Gr} {w : Au.Nm} {work : Int} (S : vW N F h s c f dir bs gs K w work false []) (hb : bs.length ≤ 40) (hK : K.length ≤ 40) (hx : w.length ≤ 2 ^ 15) (hw : 0 ≤ work ∧ work ≤ 2 ^ 30)
  (hz : ∀ g ∈ K, GSz g) (hr : ∀ x ∈ pX K w, 0 ≤ x ∧ x < bs.length) {Q : Value → aB → Prop}
  (hk : ∀ p pc h', Fr F h h' → yI (fun y => F y ∨ h.size ≤ y) h' c (work + (trW K w : Nat)) (wW bs f dir (pX K w)) → Row 1 Au.lZ h' p pc (wW bs f dir (pX K w)) → (∀ x, InA p x → h.size ≤ x) → Q (.slice p (wW bs f dir (pX K w)).length pc) h') :
  aD Tryz.prog fE #[.pointer (some c)] h Q := by
 apply rQ
 unfold mg
 obtain ⟨o, t9, av, pa, kp, R, C, KP, hkp⟩ := S
 obtain ⟨tg, pp, pc, bp, bc, op, oc, ow, R1, t1', R2, t2, R3, t3⟩ := C
 refine aU (vs := [.pointer (some c)]) fun t1 h1 f1 e1 o1 => ?_
 have z1 := f1.size
 have ow1 := ow.fr0 f1
 have lc := ow.lt
 have l1 := o1.lt
 refine bB (o1.cells.at0 rfl) (Cx (bB (o1.cells.at0 rfl) (aV (aG (ow1.cells.at (j := 14) rfl) ?_))))
 rw [if_pos (by rfl)]
 refine bB (o1.cells.at0 rfl) (aV ?_)
 refine cO ow1 14 (by show 14 < 16; omega) rfl fun h2 f2 z2 ow2 => ?_
 have z2' := f2.size
 have o12 := o1.fr f2 (by omega)
 refine bB (o12.cells.at0 rfl) (aV (aC (ow2.cells.at (j := 11) rfl) ?_))
 have lp := R.lp
 have la := R.la
 have hkl : kp.toList.length ≤ 1 := by cases kp <;> simp
 have hLl : (pa ++ kp.toList).length ≤ 41 := by rw [List.length_append]; omega
 have hLk : (pa ++ kp.toList).length = K.length + kp.toList.length := by rw [List.length_append]; omega
 have lpp : ∀ y, InA pp y → y < h.size := fun y hy => R1.lt hy
 have up : ∀ y, y < h.size → Au.upT o h.size 0 y = o y := fun y hy => Au.dX hy
 have Ft : Fr (fun y => y = c.block) h h2 := (f1.mono fun _ => False.elim).trans f2
 have own0 : ∀ y, y < h.size → o y ≠ 0 → o y ≠ 9 → F y := fun y hy h0' h9 => R.fp y hy (by
  rcases Nat.lt_or_ge y N with hl | hl
  ·exact absurd (R.low y hl) h0'
  ·exact hl) h9
 have I0 : yh N F h t1 s c t9 f dir bs gs K av pa kp w pp pc (Au.upT o h.size 0) h2 (snK w 0) work [] := by
  refine ⟨Ft.mono fun y hy => ?_, ?_, (R.fr (F' := fun y => F y ∨ h.size ≤ y) Ft (Au.Old.up (Nat.le_refl _)) (fun y hy hh => by rw [hh, tg]; omega) (fun y hy hn hne => ?_) Ft.size).ext fun i hi => ⟨rfl, ?_⟩, ?_, KP.fr Ft (Au.Old.up (Nat.le_refl _)) (fun y hy hh => by rw [hh, tg]; omega), R1.fr Ft (fun y hy hh => by have := t1' y hy; rw [hh, tg] at this; omega), fun y hy => by rw [up y (lpp y hy)]; exact t1' y hy⟩
  ·rw [hy]; exact own0 _ lc (by omega) (by omega)
  ·exact uA o12 (Au.kf (by omega))
  ·rcases Nat.lt_or_ge y h.size with hl | hl
   ·exact .inl (R.fp y hl hn (by rw [← up y hl]; exact hne))
   ·exact .inr hl
  ·show snK w 0 i K[i] = iD K[i] w
   exact if_neg (by omega)
  ·refine ⟨by rw [up _ lc]; exact tg, pp, pc, bp, bc, op, oc, ow2, R1.fr Ft (fun y hy hh => by have := t1' y hy; rw [hh, tg] at this; omega), fun y hy => by rw [up y (R1.lt hy)]; exact t1' y hy,
    R2.fr Ft (fun y hy hh => by have := t2 y hy; rw [hh, tg] at this; omega), fun y hy => by rw [up y (R2.lt hy)]; exact t2 y hy, R3.fr Ft (fun y hy hh => by have := t3 y hy; rw [hh, tg] at this; omega), fun y hy => by rw [up y (R3.lt hy)]; exact t3 y hy⟩
 have trb : ∀ m, trW (K.take m) w ≤ 40 * (2 ^ 15 + 1) := fun m => Nat.le_trans (MC _ _) (Nat.mul_le_mul (by rw [List.length_take]; omega) (by omega))
 have outb : ∀ m, (pX (K.take m) w).length ≤ 40 * 2000 := fun m => Nat.le_trans (EG fun g hg => hz g (List.mem_of_mem_take hg)) (Nat.mul_le_mul_right _ (by rw [List.length_take]; omega))
 refine aH.mk (fun st h' => ∃ (k : Nat) (o : Tag), st = (k : Int) ∧ k ≤ (pa ++ kp.toList).length ∧ yh N F h t1 s c t9 f dir bs gs K av pa kp w pp pc o h' (snK w k) (work + (trW (K.take k) w : Nat)) (pX (K.take k) w))
  (fun st _ => (pa ++ kp.toList).length - st.toNat) ⟨0, Au.upT o h.size 0, rfl, by omega, ?_⟩ ?_
 ·have e : work + ((trW (K.take 0) w : Nat) : Int) = work := by simp [trW]
  rw [e]; exact I0
 rintro st h3 ⟨k, o3, rfl, hkl', I⟩
 unfold iP
 have zI := I.fr.size
 refine ifD (fun hlt => ?_) (fun hge => ?_)
 ·have hi : k < (pa ++ kp.toList).length := by omega
  refine I.Rp.idx wq (by omega) k rfl hi fun ad cc => ?_
  try rw [Int.toNat_natCast]
  refine bB (cc.at0 rfl) (aV ?_)
  by_cases hkK : k < K.length
  ·have hka : k < av.length := by omega
   have hkp' : k < pa.length := by omega
   have e1 : (pa ++ kp.toList)[k] = pa[k] := List.getElem_append_left (by omega)
   rw [e1]
   have P := I.R.part k hkK hka hkp'
   have esn : snK w k k K[k] = iD K[k] w := if_neg (by omega)
   rw [esn] at P
   obtain ⟨en, hen⟩ := P.en
   refine DO hen ?_
   have own := I.own
   have I' := I
   obtain ⟨fr, k1, R, C, KP, Rp, tp⟩ := I
   obtain ⟨tg, pp1, pc1, bp, bc, op, oc, ow, R1, t1', R2, t2, R3, t3⟩ := C
   have hbuf : trans K[k] = true → (if rv K = true then w else []) = w := fun ht => by
    rw [HE, if_pos (List.any_eq_true.2 ⟨K[k], List.getElem_mem hkK, ht⟩)]
   refine P.fin R.low ow tg R.k9 R2 t2 hbuf hx (by have := trb k; omega) (K := fun h' => _) hen (fun h' hh => ⟨rfl, hh⟩) fun h4 f4 ow4 P4 => ?_
   have z4 := f4.size
   have eT : K.take (k + 1) = K.take k ++ [K[k]] := by rw [List.take_append_getElem]
   have ew : work + ((trW (K.take k) w : Nat) : Int) + (if trans K[k] = true then ((Au.jk K[k].Transforms.xs w).length : Int) else 0) = work + ((trW (K.take (k + 1)) w : Nat) : Int) := by
    rw [eT, Kq]
    split <;> omega
   rw [ew] at ow4
   have I4 : yh N F h t1 s c t9 f dir bs gs K av pa kp w pp pc o3 h4 (snK w (k + 1)) (work + (trW (K.take (k + 1)) w : Nat)) (pX (K.take k) w) := by
    refine ⟨fr.tr f4 fun y hy hh => own y (by omega) (by omega) (by omega) hy, k1.tag f4 (Au.Old.refl _ _) fun y hy hh => by omega, R.upd f4 (Au.Old.refl _ _) k (fun y hy hh => by omega) (fun y hy hn hne => ?_) (fun i g hik => ⟨rfl, ?_⟩) (fun h1 h2 h3 => ?_), ?_, KP.fr f4 (Au.Old.refl _ _) fun y hy hh => by omega, Rp.fr f4 fun y hy hh => by have := tp y hy; omega, tp⟩
    ·rcases Nat.lt_or_ge y h3.size with hl | hl
     ·exact R.fp y hl hn hne
     ·exact .inr (by omega)
    ·unfold snK
     by_cases hik2 : i < k
     ·rw [if_pos hik2, if_pos (by omega)]
     ·rw [if_neg hik2, if_neg (by omega)]
    ·have : snK w (k + 1) k K[k] = ii K[k] w := if_pos (by omega)
     rw [this]; exact P4
    ·exact ⟨tg, pp1, pc1, bp, bc, op, oc, ow4, R1.fr f4 (fun y hy hh => by have := t1' y hy; omega), t1', R2.fr f4 (fun y hy hh => by have := t2 y hy; omega), t2, R3.fr f4 (fun y hy hh => by have := t3 y hy; omega), t3⟩
   obtain ⟨op4, oc4, hc4⟩ := I4.outCell
   obtain ⟨tgp, lnp, q, qc, fd', en', au, sg, ws, kk, Rq, tq, G, _⟩ := P4
   refine bB (I4.k1.now.at0 rfl) (bB (I4.k1.now.at0 rfl) (aV (aC hc4 (aV (bB (kk.now.at0 rfl) (aV ?_))))))
   have gc := tH G.1.now.1
   refine aC (gc.at (j := 4) rfl) ?_
   have z := hz _ (List.getElem_mem hkK)
   have hal := z.al
   have hob := outb k
   refine I4.push (xs := K[k].Always.xs) (G.1.now.2.k4.src fun _ => rfl) (by omega) hc4 fun h5 o5 ho f5 I5 => aV ?_
   have kk5 := kk.tag f5 ho fun y hy hh => by omega
   refine aC (kk5.now.at (j := 1) rfl) ?_
   refine KZ hkK hka hkp' I5 z (by omega) (kk5.now.at (j := 1) rfl) fun h6 o6 I6 => ?_
   rw [wr (by omega) (by omega)]
   refine ⟨⟨k + 1, o6, by omega, by omega, ?_⟩, by omega⟩
   rw [eT, HT, ← eT]; exact I6
  ·obtain ⟨a, rfl⟩ : ∃ a, kp = some a := by
    cases kp with
    | none => simp at hi; omega
    | some a => exact ⟨a, rfl⟩
   have hl1 : (pa ++ (some a : Option Addr).toList).length = pa.length + 1 := by simp
   have hk0 : k = K.length := by omega
   have e1 : (pa ++ (some a : Option Addr).toList)[k] = a := by
    rw [List.getElem_append_right (by omega)]; simp
   rw [e1]
   obtain ⟨t90, kk⟩ := I.KP a rfl
   refine DO (kk.now.1.at (j := 3) rfl) ?_
   unfold MJ
   rw [cM]
   apply u6
   unfold oJ
   refine ⟨rfl, ?_⟩
   obtain ⟨op4, oc4, hc4⟩ := I.outCell
   refine bB (I.k1.now.at0 rfl) (bB (I.k1.now.at0 rfl) (aV (aC hc4 (aV (bB (kk.now.1.at0 rfl) (aV (aC (kk.now.2.at (j := 4) rfl) ?_)))))))
   have hob := outb k
   refine I.push (xs := []) (Src.nil 0) (by show _ + 0 ≤ _; omega) hc4 fun h5 o5 ho f5 I5 => aV ?_
   have kk5 := kk.tag f5 ho fun y hy hh => by omega
   refine aC (kk5.now.1.at (j := 1) rfl) ?_
   have eT : K.take (k + 1) = K.take k := by rw [wx _ _ (by omega), wx _ _ (by omega)]
   refine aH.mk (fun st h' => st = 0 ∧ h' = h5) (fun _ _ => 0) ⟨rfl, rfl⟩ ?_
   rintro st h' ⟨rfl, e⟩
   subst e
   unfold dH
   rw [if_neg (by decide), wr (by omega) (by omega)]
   refine ⟨⟨k + 1, o5, by omega, by omega, ?_⟩, by omega⟩
   rw [List.append_nil] at I5
   rw [eT]
   refine ⟨I5.fr, I5.k1, I5.R.ext fun i hi => ⟨rfl, ?_⟩, I5.C, I5.KP, I5.Rp, I5.tp⟩
   unfold snK
   rw [if_pos (by omega), if_pos (by omega)]
 ·have hke : k = (pa ++ kp.toList).length := by omega
  have eT : K.take k = K := wx _ _ (by omega)
  rw [eT] at I
  have hob := outb k
  rw [eT] at hob
  exact KO I hb hr (by omega) fun p pc h' f' D Rr hn => hk p pc h' f' D Rr fun x hx => by have := hn x hx; omega
theorem Gz [Gh] {F : Nat → Prop} {h : aB} {c : Addr} {work : Int} {out : List Int} (D : yI F h c work out) {Q : Value → aB → Prop} (hk : Q (.int .i64 work) h) : aD Tryz.prog lI #[.pointer (some c)] h Q := by
 apply wE
 unfold qq
 obtain ⟨s, f, dir, pp, pn, pc, bp, bn, bc, op, oc, ow, _⟩ := D
 exact Cx (aV (aA (ow.cells.at (j := 13) rfl) hk))
theorem C5 [Gh] {N : Nat} {h0 : aB} {s : Addr} {bs : List Bd} {gs : List Gr} (T0 : xu N h0 s bs gs) (hb : bs.length ≤ 40) (hg : gs.length ≤ 40) (hz : ∀ g ∈ gs, GSz g) (f : aR) (b : bR) (hx : b.Data.length ≤ 2 ^ 15)
  (hr : ∀ x ∈ pX (gs.filter fun g => g.Kind = b.Kind) b.Data, 0 ≤ x ∧ x < bs.length) {Q : Value → aB → Prop}
  (hk : ∀ p pc h', Fr (fun _ => False) h0 h' → Row 1 Au.lZ h' p pc (wW bs f b.Dir (pX (gs.filter fun g => g.Kind = b.Kind) b.Data)) → (∀ x, InA p x → h0.size ≤ x) → Q (.slice p (wW bs f b.Dir (pX (gs.filter fun g => g.Kind = b.Kind) b.Data)).length pc) h') :
  aD Tryz.prog fL #[.pointer (some s), .agg f.vals.toArray, .agg b.vals.toArray] h0 Q := by
 apply sN
 unfold mp
 refine aU (vs := f.vals) fun t4 h1 f1 e1 o4 => aU (vs := b.vals) fun t5 h2 f2 e2 o5 => ?_
 have o42 := o4.fr0 f2
 refine (aA (o42.cells.at0 rfl) (aG (o42.cells.at rfl) (aA (o42.cells.at rfl) (aA (o42.cells.at rfl) (aG (o42.cells.at rfl) (aA (o42.cells.at rfl) (aA (o42.cells.at rfl) (aA (o42.cells.at rfl) (aA (o42.cells.at rfl) ?_)))))))))
 refine aA (o5.cells.at0 rfl) (aA (o5.cells.at (j := 1) rfl) ?_)
 have F2 := f1.trans f2
 have z1 := f1.size; have z2 := f2.size
 have Klen : (gs.filter fun g => g.Kind = b.Kind).length ≤ 40 := Nat.le_trans (List.length_filter_le _ _) hg
 refine yO (T0.fr0 F2) hg (fun g hgg => by have := (hz g hgg).pl; omega) f b.Kind b.Dir fun c h3 f3 S3 hc3 => ⟨_, rfl, ?_⟩
 have z3 := f3.size
 have o53 := o5.fr0 f3
 refine aT (o53.cells.at (j := 3) rfl) ?_
 refine FM S3 b.Data (by simp; omega) Klen (by omega) fun h4 f4 S4 => ⟨rfl, ?_⟩
 have z4 := f4.size
 rw [List.nil_append] at S4
 have hnd := JA (gs.filter fun g => g.Kind = b.Kind)
 have hw : nD (gs.filter fun g => g.Kind = b.Kind) * b.Data.length ≤ 40 * 2 ^ 15 := Nat.mul_le_mul (by omega) hx
 refine BA S4 hb Klen hx (by omega) (fun g hgg => hz g (List.mem_filter.1 hgg).1) hr fun p pc h5 f5 D5 R5 hn5 => ⟨_, _, _, rfl, ?_⟩
 refine hk p pc h5 (((F2.trans f3).tr f4 fun y hy hh => by omega).tr f5 fun y hy hh => ?_) R5 fun x hx => by have := hn5 x hx; omega
 rcases hh with hh | hh <;> omega
end Go.Proofs.YtjmfpeiidlpngaaGreatDoor
namespace Go.Proofs.YtjmfpeiidlpngaaGreatDoor.Au
set_option linter.unusedSimpArgs false
set_option linter.unusedVariables false
set_option maxRecDepth 20000
open Go
open Go.IntKind (wrap)
theorem CK [Gh] (c : Int) (h0 : 0 ≤ c) (h1 : c ≤ 255) {h : aB} {Q : Value → aB → Prop} (hk : Q (.int .u8 (xF c)) h) : aD Tryz.prog oe #[.int .u8 c] h Q := by
 apply Co
 unfold w5
 unfold xF at hk
 refine ifD (fun e => ifD (fun e2 => ?_) fun e2 => ?_) fun e => ?_
 ·rw [if_pos ⟨e, e2⟩] at hk
  rw [wrb (x := c + 32) (by omega) (by omega)]
  exact hk
 ·rw [if_neg (by omega)] at hk; exact hk
 ·rw [if_neg (by omega)] at hk; exact hk
def xj (nc : Bool) (a b : Nm) : Prop := if nc = true then cF a = cF b else a = b
theorem Jq {nc : Bool} {a b : Nm} (i : Nat) (ha : i < a.length) (hb : i < b.length) (h : xj nc a b) : bA a[i] = bA b[i] ∨ (nc = true ∧ bA (fK a[i]) = bA (fK b[i])) := by
 unfold xj at h
 split at h
 ·rename_i e
  refine .inr ⟨e, Classical.byContradiction fun hn => LZ i ha hb hn h⟩
 ·subst h; exact .inl rfl
theorem Gq {nc : Bool} {a b : Nm} {i : Nat} (ha : i < a.length) (hb : i < b.length) (h : xj nc (a.take i) (b.take i)) (h2 : bA a[i] = bA b[i] ∨ (nc = true ∧ bA (fK a[i]) = bA (fK b[i]))) : xj nc (a.take (i + 1)) (b.take (i + 1)) := by
 rw [show a.take (i + 1) = a.take i ++ [a[i]] by rw [List.take_append_getElem], show b.take (i + 1) = b.take i ++ [b[i]] by rw [List.take_append_getElem]]
 unfold xj at h ⊢
 by_cases e : nc = true
 ·rw [if_pos e] at h ⊢
  have hl : fK a[i] = fK b[i] := by
   rcases h2 with h2 | h2
   ·rw [ng h2]
   ·exact ng h2.2
  unfold cF at h ⊢
  rw [List.map_append, List.map_append, h]
  simp only [List.map_cons, List.map_nil]
  rw [hl]
 ·rw [if_neg e] at h ⊢
  rcases h2 with h2 | h2
  ·rw [h, ng h2]
  ·exact absurd h2.1 e
theorem Kk {c : Cn} {d : Nm} {q : Nat} (hf : q + c.Pattern.length ≤ d.length) : atB c d q = true ↔ xj c.Nocase (pQ d q c.Pattern.length) c.Pattern := by
 unfold atB xj
 rw [decide_eq_true (show 0 ≤ (q : Int) ∧ (q : Int) + c.Pattern.length ≤ d.length by omega), Bool.true_and, Int.toNat_natCast]
 split <;> rw [decide_eq_true_iff]
theorem Nb [Gh] (c : Cn) (d : Nm) (p : Int) (hc : c.Pattern.length ≤ 2 ^ 40) (hd : d.length ≤ 2 ^ 40) {h : aB} {Q : Value → aB → Prop} (hk : ∀ h', Fr (fun _ => False) h h' → Q (.bool (atB c d p)) h') :
  aD Tryz.prog vu #[.agg c.vals.toArray, .string (bs d), .int .i64 p] h Q := by
 apply FW
 unfold Bx
 refine aU (vs := c.vals) fun t3 h1 f1 e1 o1 => ?_
 have cc : aY h1 t3 c.vals := o1.cells
 have hk := hk h1 f1
 have no : ¬ (0 ≤ p ∧ p + c.Pattern.length ≤ d.length) → Q (.bool false) h1 := fun hn => by
  unfold atB at hk
  rw [decide_eq_false hn, Bool.false_and] at hk; exact hk
 rw [aX]
 refine ifD (fun e => no (by omega)) fun e => ifD (fun e2 => no (by omega)) fun e2 => ?_
 refine aT (cc.at0 rfl) ?_
 rw [aX, wr (by omega) (by omega)]
 refine ifD (fun e3 => no (by omega)) fun e3 => ?_
 have hfit : p + c.Pattern.length ≤ d.length := by omega
 obtain ⟨q, rfl⟩ : ∃ q : Nat, p = q := ⟨p.toNat, by omega⟩
 have hfit' : q + c.Pattern.length ≤ d.length := by omega
 have hiff := Kk (c := c) (d := d) (q := q) hfit'
 have hpl : (pQ d q c.Pattern.length).length = c.Pattern.length := by unfold pQ; rw [List.length_take, List.length_drop]; omega
 have hat : ∀ i (h1 : i < c.Pattern.length), (pQ d q c.Pattern.length)[i]'(by omega) = d[q + i]'(by omega) := fun i h1 => by
  unfold pQ; rw [List.getElem_take, List.getElem_drop]
 have bad : ¬ xj c.Nocase (pQ d q c.Pattern.length) c.Pattern → Q (.bool false) h1 := fun hn => by
  have : atB c d q = false := by
   cases h : atB c d q with
   | false => rfl
   | true => exact absurd (hiff.1 h) hn
  rw [this] at hk; exact hk
 refine aH.go (fun n st h' => ∃ i : Nat, st = (i : Int) ∧ i ≤ c.Pattern.length ∧ n = c.Pattern.length - i ∧ h' = h1 ∧ xj c.Nocase ((pQ d q c.Pattern.length).take i) (c.Pattern.take i)) c.Pattern.length ⟨0, rfl, by omega, rfl, rfl, by unfold xj; simp⟩ ?_
 rintro n - h2 ⟨i, rfl, hi, rfl, rfl, he⟩ Kn hK
 unfold vJ
 refine aT (cc.at0 rfl) ?_
 rw [aX]
 refine ifD (fun e4 => ?_) fun e4 => ?_
 ·have hil : i < c.Pattern.length := by omega
  refine aT (cc.at0 rfl) (ixS c.Pattern i rfl hil ?_)
  refine ixS d (q + i) (by rw [wr (by omega) (by omega)]; omega) (by omega) ?_
  have b1 := jJ c.Pattern[i]
  have b2 := jJ (d[q + i]'(by omega))
  have nx : (bA ((pQ d q c.Pattern.length)[i]'(by omega)) = bA c.Pattern[i] ∨ (c.Nocase = true ∧ bA (fK ((pQ d q c.Pattern.length)[i]'(by omega))) = bA (fK c.Pattern[i]))) → Kn (wrap .i64 ((i : Int) + 1)) h2 := fun hh => by
   rw [wr (by omega) (by omega)]
   exact hK (c.Pattern.length - (i + 1)) _ _ (by omega) ⟨i + 1, rfl, hil, rfl, rfl, Gq (by omega) hil he hh⟩
  have nl : ¬ (bA ((pQ d q c.Pattern.length)[i]'(by omega)) = bA c.Pattern[i] ∨ (c.Nocase = true ∧ bA (fK ((pQ d q c.Pattern.length)[i]'(by omega))) = bA (fK c.Pattern[i]))) → Q (.bool false) h2 := fun hn => bad fun hh => hn (Jq i (by omega) hil hh)
  rw [hat i hil] at nx nl
  refine lu (fun ne => ?_) fun eq => nx (.inl eq.symm)
  refine aG (cc.at (j := 1) rfl) (ifN (fun e5 => nl fun hh => ?_) fun e5 => ?_)
  ·rcases hh with hh | hh
   ·exact ne hh.symm
   ·rw [e5] at hh; exact absurd hh.1 (by decide)
  ·refine CK _ b1.1 b1.2 ⟨_, rfl, CK _ b2.1 b2.2 ⟨_, rfl, ?_⟩⟩
   rw [← qN, ← qN]
   refine lu (fun e6 => nl fun hh => ?_) fun e6 => nx (.inr ⟨e5, e6.symm⟩)
   rcases hh with hh | hh
   ·exact ne hh.symm
   ·exact e6 hh.2.symm
 ·have : i = c.Pattern.length := by omega
  subst this
  rw [List.take_of_length_le (by omega), List.take_of_length_le (by omega)] at he
  rw [hiff.2 he] at hk; exact hk
end Go.Proofs.YtjmfpeiidlpngaaGreatDoor.Au
namespace Go.Proofs.YtjmfpeiidlpngaaGreatDoor
set_option linter.unusedSimpArgs false
set_option linter.unusedVariables false
set_option maxRecDepth 20000
open Go
open Go.IntKind (wrap)
def FN (h : aB) (s : Addr) (l : Sl Bd) : Prop := aY h s [.slice l.p l.xs.length l.cap] ∧ bH 25 aE.vals aE.ok h l
theorem FN.fr0 {h h' : aB} {s : Addr} {l : Sl Bd} (f : Fr (fun _ => False) h h') (T : FN h s l) : FN h' s l := ⟨T.1.fr f id, bH.fr0 aE.ok_fr f T.2⟩
section
variable {h : aB} {Q : Value → aB → Prop}
theorem BG [Gh] (l : Sl Bd) (ok : bH 25 aE.vals aE.ok h l) (hl : l.xs.length ≤ 40)
  (hbad : ¬ (l.xs.map oV).Nodup → Q (.tuple #[.pointer none, .int .i64 7]) h)
  (hk : ∀ s h', Fr (fun _ => False) h h' → FN h' s l → s.block = h.size → (l.xs.map oV).Nodup → Q (.tuple #[.pointer (some s), .int .i64 0]) h') :
  aD Tryz.prog ph #[.slice l.p l.xs.length l.cap] h Q := by
 apply As
 unfold uU
 refine ifD (fun e => by omega) fun _ => ?_
 have bad : ∀ (i k : Nat) (hi : i < l.xs.length) (hk : k < i), oV l.xs[i] = oV (l.xs[k]'(by omega)) → Q (.tuple #[.pointer none, .int .i64 7]) h := fun i k hi hk e => hbad fun nd => by
  have := (List.getElem_inj (h₀ := by simpa using hi) (h₁ := by rw [List.length_map]; omega) nd (i := i) (j := k)).1 (by rw [List.getElem_map, List.getElem_map]; exact e)
  omega
 refine aH.go (fun n st h' => ∃ i : Nat, st = (i : Int) ∧ i ≤ l.xs.length ∧ n = l.xs.length - i ∧ h' = h ∧ ((l.xs.take i).map oV).Nodup) l.xs.length ⟨0, rfl, by omega, rfl, rfl, List.nodup_nil⟩ ?_
 rintro n - h2 ⟨i, rfl, hi, rfl, rfl, nd⟩ Kn hK
 unfold pr
 refine ifD (fun hlt => ?_) (fun hge => ?_)
 ·have hi' : i < l.xs.length := by omega
  refine aH.go (fun n st h' => ∃ k : Nat, st = (k : Int) ∧ k ≤ i ∧ n = i - k ∧ h' = h2 ∧ ∀ j (hj : j < k) (hjl : j < l.xs.length), oV l.xs[i] ≠ oV l.xs[j]) i ⟨0, rfl, by omega, rfl, rfl, fun j hj => absurd hj (Nat.not_lt_zero _)⟩ ?_
  rintro n - h3 ⟨k, rfl, hki, rfl, rfl, hn⟩ Kn2 hK2
  unfold pj
  refine ifD (fun hlt2 => ?_) (fun hge2 => ?_)
  ·have hk' : k < l.xs.length := by omega
   refine cL ok i rfl hi' fun ad cc _ => ?_
   try rw [Int.toNat_natCast]
   refine aA (cc.at (j := 7) rfl) ?_
   refine cL ok k rfl hk' fun ad2 cc2 _ => ?_
   try rw [Int.toNat_natCast]
   refine aA (cc2.at (j := 7) rfl) ?_
   refine ifE (fun e => bad i k hi' (by omega) e) fun e => ?_
   rw [wr (by omega) (by omega)]
   refine hK2 (i - (k + 1)) _ _ (by omega) ⟨k + 1, rfl, by omega, rfl, rfl, fun j hj hjl => ?_⟩
   rcases Nat.lt_or_ge j k with h | h
   ·exact hn j h hjl
   ·have : j = k := by omega
    subst this; exact e
  ·rw [wr (by omega) (by omega)]
   refine hK (l.xs.length - (i + 1)) _ _ (by omega) ⟨i + 1, rfl, by omega, rfl, rfl, ?_⟩
   rw [show l.xs.take (i + 1) = l.xs.take i ++ [l.xs[i]] by rw [List.take_append_getElem], List.map_append, List.nodup_append]
   refine ⟨nd, by simp, fun a ha b hb => ?_⟩
   rw [List.map_singleton, List.mem_singleton] at hb
   subst hb
   obtain ⟨x, hx, rfl⟩ := List.mem_map.1 ha
   obtain ⟨j, hj, rfl⟩ := List.getElem_of_mem hx
   rw [List.length_take] at hj
   rw [List.getElem_take]
   exact fun e => hn j (by omega) (by omega) e.symm
 ·have : i = l.xs.length := by omega
  subst this
  rw [List.take_length] at nd
  unfold px
  refine aU (vs := [.slice l.p l.xs.length l.cap]) fun s h3 f3 e3 o3 => ?_
  exact hk s h3 f3 ⟨o3.cells, bH.fr0 aE.ok_fr f3 ok⟩ e3 nd
variable {s : Addr} {l : Sl Bd}
def cOf (p : List UInt8 × Bool) : Au.Cn := ⟨p.1, p.2, false, false, 0, 0, false⟩
def xQ (c : Au.Cn) (d : Au.Nm) : Bool := (List.range (d.length + 1)).any fun p : Nat => Au.atB c d p
def zk (b : Bd) (f : aR) (bf : bR) : Bool :=
 decide (b.Rule.Kind = bf.Kind) && (Au.eE b f bf.Dir && match Fp.vg b.Rule.Contents.xs with | none => true | some p => xQ (cOf p) (Au.jk b.Rule.Transforms.xs bf.Data))
theorem Ia (b : Bd) (f : aR) (bf : bR) : zk (wipe b) f bf = zk b f bf := rfl
theorem BR {cs : List Fp.Cn} {m : Nat} (sh : ∀ c ∈ cs, c.Pattern.length ≤ m) {p : List UInt8 × Bool} (hp : Fp.vg cs = some p) : p.1.length ≤ m := by
 unfold Fp.vg at hp
 split at hp
 ·cases hp
 ·rename_i hneg
  have hlt := Fp.re cs
  simp only [Option.some.injEq] at hp
  subst hp
  have hk : (Fp.cY cs).toNat < cs.length := by omega
  have e : cs.getD (Fp.cY cs).toNat Fp.noC = cs[(Fp.cY cs).toNat] := by rw [List.getD_eq_getElem?_getD, List.getElem?_eq_getElem hk]; rfl
  have := sh _ (List.getElem_mem hk)
  simp only [e]
  split
  ·simpa using this
  ·exact this
theorem M5 [Gh] (T : FN h s l) (i : Nat) (hi : i < l.xs.length) (sd : Snd l.xs[i]) (f : aR) (b : bR) (hb : b.Data.length ≤ 2 ^ 15) (hk : ∀ h', Fr (fun _ => False) h h' → Q (.bool (zk l.xs[i] f b)) h') :
  aD Tryz.prog pu #[.pointer (some s), .int .i64 i, .agg f.vals.toArray, .agg b.vals.toArray] h Q := by
 apply Ai
 unfold u5
 refine aU (vs := f.vals) fun t6 h1 f1 e1 o6 => aU (vs := b.vals) fun t7 h2 f2 e2 o7 => ?_
 have T2 := (T.fr0 f1).fr0 f2
 refine aV (aC (T2.1.at0 rfl) ?_)
 refine cL T2.2 i rfl hi fun ad cc okr => ?_
 try rw [Int.toNat_natCast]
 refine (aA (cc.at0 rfl) (aA (cc.at rfl) (aC (cc.at rfl) (aC (cc.at rfl) (aC (cc.at rfl) (aC (cc.at rfl) (aG (cc.at rfl) (aA (cc.at rfl) (aA (cc.at rfl) (aA (cc.at rfl) (aT (cc.at rfl) (aA (cc.at rfl) (aA (cc.at rfl) (aC (cc.at rfl) (aC (cc.at rfl) (aC (cc.at rfl) (aC (cc.at rfl) (aA (cc.at rfl) (aA (cc.at rfl) (aA (cc.at rfl) (aA (cc.at rfl) ?_)))))))))))))))))))))
 refine oG rfl rfl fun t9 h4 f4 ht9 o9 => ?_
 have F4 := (f1.trans f2).trans f4
 have T4 := T2.fr0 f4
 have o74 := o7.fr0 f4
 have o64 := (o6.fr0 f2).fr0 f4
 refine aA (o9.cells.at (j := 12) rfl) (aA (o74.cells.at0 rfl) ?_)
 refine lu (fun ne => ?_) fun eq => ?_
 ·have := hk h4 F4
  unfold zk at this
  rw [decide_eq_false ne, Bool.false_and] at this; exact this
 refine aV (aC (T4.1.at0 rfl) ?_)
 refine cL T4.2 i rfl hi fun ad4 cc4 okr4 => ?_
 try rw [Int.toNat_natCast]
 refine (aA (cc4.at0 rfl) (aA (cc4.at rfl) (aC (cc4.at rfl) (aC (cc4.at rfl) (aC (cc4.at rfl) (aC (cc4.at rfl) (aG (cc4.at rfl) (aA (cc4.at rfl) (aA (cc4.at rfl) (aA (cc4.at rfl) (aT (cc4.at rfl) (aA (cc4.at rfl) (aA (cc4.at rfl) (aC (cc4.at rfl) (aC (cc4.at rfl) (aC (cc4.at rfl) (aC (cc4.at rfl) (aA (cc4.at rfl) (aA (cc4.at rfl) (aA (cc4.at rfl) (aA (cc4.at rfl) (aC (cc4.at rfl) (aC (cc4.at rfl) (aC (cc4.at rfl) (aC (cc4.at rfl) ?_)))))))))))))))))))))))))
 refine (aA (o64.cells.at0 rfl) (aG (o64.cells.at rfl) (aA (o64.cells.at rfl) (aA (o64.cells.at rfl) (aG (o64.cells.at rfl) (aA (o64.cells.at rfl) (aA (o64.cells.at rfl) (aA (o64.cells.at rfl) (aA (o64.cells.at rfl) ?_)))))))))
 refine aA (o74.cells.at (j := 1) rfl) ?_
 refine Au.B2 l.xs[i] f b.Dir okr4 fun h5 f5 => ⟨_, rfl, ?_⟩
 have F5 := F4.trans f5
 refine ifN (fun e => ?_) fun e => ?_
 ·have := hk h5 F5
  unfold zk at this
  rw [e, Bool.false_and, Bool.and_false] at this; exact this
 have o95 := o9.fr0 f5
 refine (aA (o95.cells.at0 rfl) (aA (o95.cells.at rfl) (aC (o95.cells.at rfl) (aC (o95.cells.at rfl) (aC (o95.cells.at rfl) (aC (o95.cells.at rfl) (aG (o95.cells.at rfl) (aA (o95.cells.at rfl) (aA (o95.cells.at rfl) (aA (o95.cells.at rfl) (aT (o95.cells.at rfl) (aA (o95.cells.at rfl) (aA (o95.cells.at rfl) (aC (o95.cells.at rfl) (aC (o95.cells.at rfl) (aC (o95.cells.at rfl) (aC (o95.cells.at rfl) (aA (o95.cells.at rfl) (aA (o95.cells.at rfl) (aA (o95.cells.at rfl) (aA (o95.cells.at rfl) ?_)))))))))))))))))))))
 have okr5 := aE.ok_fr _ _ _ f5 okr4
 refine Fp.Gb l.xs[i].Rule okr5.k0 sd.short.c fun h6 f6 => ?_
 have F6 := F5.trans f6
 have hk2 : ∀ h', Fr (fun _ => False) h6 h' → Q (.bool (match Fp.vg l.xs[i].Rule.Contents.xs with | none => true | some p => xQ (cOf p) (Au.jk l.xs[i].Rule.Transforms.xs b.Data))) h' := fun h' f' => by
  have := hk h' (F6.trans f')
  unfold zk at this
  rw [decide_eq_true eq, e, Bool.true_and, Bool.true_and] at this; exact this
 unfold Fp.Ip
 cases hp : Fp.vg l.xs[i].Rule.Contents.xs with
 | none =>
  rw [hp] at hk2
  refine ⟨_, _, _, rfl, ?_⟩
  refine oG rfl rfl fun t10 h8 f8 ht10 o10 => ?_
  rw [if_pos (by rfl)]
  exact hk2 h8 f8
 | some p =>
  rw [hp] at hk2
  obtain ⟨t, n⟩ := p
  refine ⟨_, _, _, rfl, ?_⟩
  refine oG (vs := [.string (bs t), .bool n]) rfl rfl fun t10 h8 f8 ht10 o10 => ?_
  rw [if_neg (by decide)]
  have F58 := f6.trans f8
  have o98 := o95.fr0 F58
  have o78 := (o74.fr0 f5).fr0 F58
  refine aC (o98.cells.at (j := 13) rfl) (aT (o78.cells.at (j := 3) rfl) ?_)
  have okr8 := aE.ok_fr _ _ _ F58 okr5
  refine Au.L9 l.xs[i].Rule.Transforms b.Data (by omega) okr8.k0.k13 fun h9 f9 => ⟨_, rfl, ?_⟩
  have o109 := o10.fr0 f9
  have tl := Au.Dk l.xs[i].Rule.Transforms.xs b.Data
  have pl : t.length ≤ 64 := BR (p := (t, n)) (fun c hc => (sd.ck.con c hc).2.1) hp
  generalize Au.jk l.xs[i].Rule.Transforms.xs b.Data = d at *
  simp only at hk2
  refine aH.go (fun n' st h' => ∃ k : Nat, st = (k : Int) ∧ k ≤ d.length + 1 ∧ n' = d.length + 1 - k ∧ Fr (fun _ => False) h9 h' ∧ ∀ j, j < k → Au.atB (cOf (t, n)) d (j : Nat) = false) (d.length + 1) ⟨0, rfl, by omega, rfl, Fr.refl _ _, fun j hj => absurd hj (Nat.not_lt_zero _)⟩ ?_
  rintro n' - h10 ⟨k, rfl, hkd, rfl, f10, hn⟩ Kn hK
  unfold pA
  have F8 := f8.trans (f9.trans f10)
  rw [aX]
  refine ifD (fun hle => ?_) fun hgt => ?_
  ·have o10' := o109.fr0 f10
   refine aT (o10'.cells.at0 rfl) (aG (o10'.cells.at (j := 1) rfl) ?_)
   refine Au.Nb (cOf (t, n)) d k (by show t.length ≤ _; omega) (by omega) fun h11 f11 => ⟨_, rfl, ?_⟩
   refine ifB (fun e11 => ?_) fun e11 => ?_
   ·have := hk2 h11 (F8.trans f11)
    have ea : xQ (cOf (t, n)) d = true := by
     unfold xQ; rw [List.any_eq_true]; exact ⟨k, by rw [List.mem_range]; omega, e11⟩
    rw [ea] at this; exact this
   ·rw [wr (by omega) (by omega)]
    refine hK (d.length + 1 - (k + 1)) _ _ (by omega) ⟨k + 1, rfl, by omega, rfl, f10.trans f11, fun j hj => ?_⟩
    rcases Nat.lt_or_ge j k with h | h
    ·exact hn j h
    ·have : j = k := by omega
     subst this; exact e11
  ·have := hk2 h10 F8
   have ea : xQ (cOf (t, n)) d = false := by
    unfold xQ
    rw [List.any_eq_false]
    intro j hj
    rw [List.mem_range] at hj
    rw [hn j (by omega)]; decide
   rw [ea] at this; exact this
def ua (l : List Bd) (f : aR) (b : bR) : List Int := u7 (atB (fun x => zk x f b) l) l.length
theorem Hw [Gh] (T : FN h s l) (hb : l.xs.length ≤ 40) (f : aR) (dir : Int)
  (hk : ∀ p c h', Fr (fun _ => False) h h' → Row 1 Au.lZ h' p c (Ew l.xs f dir) → (∀ x, InA p x → h.size ≤ x) → Q (.slice p (Ew l.xs f dir).length c) h') :
  aD Tryz.prog mi #[.pointer (some s), .agg f.vals.toArray, .int .i64 dir] h Q := by
 apply xC
 unfold rE
 refine aU (vs := f.vals) fun t4 h1 f1 e1 o1 => ?_
 have z1 := f1.size
 refine aH.mk (fun st h' => ∃ (i : Nat) (p : Option Addr) (c : Nat), st = (p, (u7 (atB (fun b => Au.eE b f dir) l.xs) i).length, c, (i : Int)) ∧ i ≤ l.xs.length ∧ Fr (fun _ => False) h1 h' ∧ Row 1 Au.lZ h' p c (u7 (atB (fun b => Au.eE b f dir) l.xs) i) ∧ ∀ x, InA p x → h1.size ≤ x)
  (fun st _ => l.xs.length - st.2.2.2.toNat) ⟨0, none, 0, rfl, by omega, Fr.refl _ _, Row.nil, fun x hx => (cU hx).elim⟩ ?_
 rintro st h2 ⟨i, p, c, rfl, hi, f2, R, hn⟩
 dsimp only
 unfold mj
 have z2 := f2.size
 have T2 := (T.fr0 f1).fr0 f2
 refine aV (aC (T2.1.at0 rfl) ?_)
 refine ifD (fun hlt => ?_) (fun hge => ?_)
 ·have hi' : i < l.xs.length := by omega
  refine aV (aC (T2.1.at0 rfl) ?_)
  refine cL T2.2 i rfl hi' fun ad cb okr => ?_
  try rw [Int.toNat_natCast]
  refine (aA (cb.at0 rfl) (aA (cb.at rfl) (aC (cb.at rfl) (aC (cb.at rfl) (aC (cb.at rfl) (aC (cb.at rfl) (aG (cb.at rfl) (aA (cb.at rfl) (aA (cb.at rfl) (aA (cb.at rfl) (aT (cb.at rfl) (aA (cb.at rfl) (aA (cb.at rfl) (aC (cb.at rfl) (aC (cb.at rfl) (aC (cb.at rfl) (aC (cb.at rfl) (aA (cb.at rfl) (aA (cb.at rfl) (aA (cb.at rfl) (aA (cb.at rfl) (aC (cb.at rfl) (aC (cb.at rfl) (aC (cb.at rfl) (aC (cb.at rfl) ?_)))))))))))))))))))))))))
  have o2 := o1.fr0 f2
  refine (aA (o2.cells.at0 rfl) (aG (o2.cells.at rfl) (aA (o2.cells.at rfl) (aA (o2.cells.at rfl) (aG (o2.cells.at rfl) (aA (o2.cells.at rfl) (aA (o2.cells.at rfl) (aA (o2.cells.at rfl) (aA (o2.cells.at rfl) ?_)))))))))
  refine Au.B2 l.xs[i] f dir okr fun h3 f3 => ⟨_, rfl, ?_⟩
  have z3 := f3.size
  have hl := vo (atB (fun b => Au.eE b f dir) l.xs) i
  have hs := zy (atB (fun b => Au.eE b f dir) l.xs) i
  rw [wd _ _ _ hi'] at hs
  refine ifB (fun e => ?_) fun e => ?_
  ·rw [e] at hs
   rw [if_pos rfl] at hs
   refine aU (vs := [.int .i64 i]) fun t26 h4 f4 e4 o4 => ?_
   have z4 := f4.size
   refine ((R.fr0 f3).fr0 f4).app Au.rq Tryz.underlying46 (by intro k e; cases e) (by kernel_rfl) (by decide +kernel) nk AA (e := (i : Int)) o4 1 (by omega) fun p5 c5 h5 R5 f5 hn5 => ⟨_, _, _, rfl, ?_⟩
   rw [wr (by omega) (by omega)]
   refine ⟨⟨i + 1, p5, c5, by rw [hs]; simp, by omega, ?_, by rw [hs]; exact R5, fun x hx => ?_⟩, by dsimp only; omega⟩
   ·exact ((f2.trans f3).trans f4).tr f5 fun x hx hh => by have := hn x hh; omega
   ·rcases hn5 x hx with h | h
    ·exact hn x h
    ·omega
  ·rw [e] at hs
   rw [if_neg (by decide)] at hs
   rw [wr (by omega) (by omega)]
   exact ⟨⟨i + 1, p, c, by rw [hs]; simp, by omega, f2.trans f3, by rw [hs]; exact R.fr0 f3, hn⟩, by dsimp only; omega⟩
 ·have : i = l.xs.length := by omega
  subst this
  exact hk p c h2 (f1.trans f2) R fun x hx => by have := hn x hx; omega
theorem FX [Gh] (T : FN h s l) (hb : l.xs.length ≤ 40) (sd : ∀ b ∈ l.xs, Snd b) (f : aR) (b : bR) (hd : b.Data.length ≤ 2 ^ 15)
  (hk : ∀ p c h', Fr (fun _ => False) h h' → Row 1 Au.lZ h' p c (ua l.xs f b) → (∀ x, InA p x → h.size ≤ x) → Q (.slice p (ua l.xs f b).length c) h') :
  aD Tryz.prog jH #[.pointer (some s), .agg f.vals.toArray, .agg b.vals.toArray] h Q := by
 apply uc
 unfold oo
 refine aU (vs := f.vals) fun t4 h0 f0 e0 o4 => aU (vs := b.vals) fun t5 h1 f1 e1 o1 => ?_
 have z0 := f0.size; have z1 := f1.size
 refine aH.mk (fun st h' => ∃ (i : Nat) (p : Option Addr) (c : Nat), st = (p, (u7 (atB (fun x => zk x f b) l.xs) i).length, c, (i : Int)) ∧ i ≤ l.xs.length ∧ Fr (fun _ => False) h1 h' ∧ Row 1 Au.lZ h' p c (u7 (atB (fun x => zk x f b) l.xs) i) ∧ ∀ x, InA p x → h1.size ≤ x)
  (fun st _ => l.xs.length - st.2.2.2.toNat) ⟨0, none, 0, rfl, by omega, Fr.refl _ _, Row.nil, fun x hx => (cU hx).elim⟩ ?_
 rintro st h2 ⟨i, p, c, rfl, hi, f2, R, hn⟩
 dsimp only
 unfold jQ
 have z2 := f2.size
 have T2 := ((T.fr0 f0).fr0 f1).fr0 f2
 refine aV (aC (T2.1.at0 rfl) ?_)
 refine ifD (fun hlt => ?_) (fun hge => ?_)
 ·have hi' : i < l.xs.length := by omega
  have o42 := (o4.fr0 f1).fr0 f2
  have o2 := o1.fr0 f2
  refine (aA (o42.cells.at0 rfl) (aG (o42.cells.at rfl) (aA (o42.cells.at rfl) (aA (o42.cells.at rfl) (aG (o42.cells.at rfl) (aA (o42.cells.at rfl) (aA (o42.cells.at rfl) (aA (o42.cells.at rfl) (aA (o42.cells.at rfl) ?_)))))))))
  refine (aA (o2.cells.at0 rfl) (aA (o2.cells.at rfl) (aA (o2.cells.at rfl) (aT (o2.cells.at rfl) ?_))))
  refine M5 T2 i hi' (sd _ (List.getElem_mem hi')) f b hd fun h3 f3 => ⟨_, rfl, ?_⟩
  have z3 := f3.size
  have hl := vo (atB (fun x => zk x f b) l.xs) i
  have hs := zy (atB (fun x => zk x f b) l.xs) i
  rw [wd _ _ _ hi'] at hs
  refine ifB (fun e => ?_) fun e => ?_
  ·rw [e] at hs
   rw [if_pos rfl] at hs
   refine aU (vs := [.int .i64 i]) fun t26 h4 f4 e4 o4 => ?_
   have z4 := f4.size
   refine ((R.fr0 f3).fr0 f4).app Au.rq Tryz.underlying46 (by intro k e; cases e) (by kernel_rfl) (by decide +kernel) nk AA (e := (i : Int)) o4 1 (by omega) fun p5 c5 h5 R5 f5 hn5 => ⟨_, _, _, rfl, ?_⟩
   rw [wr (by omega) (by omega)]
   refine ⟨⟨i + 1, p5, c5, by rw [hs]; simp, by omega, ?_, by rw [hs]; exact R5, fun x hx => ?_⟩, by dsimp only; omega⟩
   ·exact ((f2.trans f3).trans f4).tr f5 fun x hx hh => by have := hn x hh; omega
   ·rcases hn5 x hx with h | h
    ·exact hn x h
    ·omega
  ·rw [e] at hs
   rw [if_neg (by decide)] at hs
   rw [wr (by omega) (by omega)]
   exact ⟨⟨i + 1, p, c, by rw [hs]; simp, by omega, f2.trans f3, by rw [hs]; exact R.fr0 f3, hn⟩, by dsimp only; omega⟩
 ·have : i = l.xs.length := by omega
  subst this
  exact hk p c h2 ((f0.trans f1).trans f2) R fun x hx => by have := hn x hx; omega
end
end Go.Proofs.YtjmfpeiidlpngaaGreatDoor
namespace Go.Proofs.YtjmfpeiidlpngaaGreatDoor.Fp
set_option linter.unusedSimpArgs false
set_option linter.unusedVariables false
set_option maxRecDepth 20000
open Go
theorem AM {α : Type} {l : List α} {j : Nat} {v : α} (h : l[j]? = some v) : l.set j v = l := by
 apply List.ext_getElem?
 intro i
 rw [List.getElem?_set]
 split
 ·rename_i e; subst e
  split
  ·exact h.symm
  ·rename_i hn; rw [List.getElem?_eq_none (by omega)]
 ·rfl
end Go.Proofs.YtjmfpeiidlpngaaGreatDoor.Fp
namespace Go.Proofs.YtjmfpeiidlpngaaGreatDoor.Fp
set_option linter.unusedSimpArgs false
set_option linter.unusedVariables false
set_option maxRecDepth 20000
open Go
structure Pre (cs : List Cn) (k : Nat) (best : Int) : Prop where
 lo : -1 ≤ best
 hi : 0 ≤ best → ∃ b : Nat, ∃ hb : b < cs.length, best = b ∧ b < k ∧ Ar cs[b] = false
 all : ∀ j (hj : j < cs.length), j < k → Ar cs[j] = false → cs[j].Fast = false ∧ ∃ b : Nat, ∃ hb : b < cs.length, best = b ∧ qm cs[j].Pattern ≤ qm cs[b].Pattern
end Go.Proofs.YtjmfpeiidlpngaaGreatDoor.Fp
