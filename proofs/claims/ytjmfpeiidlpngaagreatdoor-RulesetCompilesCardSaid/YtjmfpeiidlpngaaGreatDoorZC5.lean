/-
  Part 5 of 5 of the proofs: the texts of wip/ in one file, without what this claim does not use.
-/
import Derived.Test.YtjmfpeiidlpngaaGreatDoorZC4
namespace Go.Proofs.YtjmfpeiidlpngaaGreatDoor
set_option linter.unusedSimpArgs false
set_option linter.unusedVariables false
set_option maxRecDepth 20000
open Go
open Go.IntKind (wrap)
def tV (N : Nat) (F : Nat → Prop) (h : aA) (s c : Addr) (f : bI) (dir : Int) (bs : List Bd) (gs K : List Gr) (w : Au.Nm) (work : Int) (done : Bool) (out : List Int) : Prop :=
 ∃ (o : Tag) (t9 : Addr) (av pa : List Addr) (kp : Option Addr), kI N F o h s c t9 bs gs K av pa (fun _ => w) (sn0 w) ∧ sL o h s c f dir (pa ++ kp.toList) (if pO K = true then w else []) work done out ∧ zV o h t9 kp ∧ kp.isSome = pO K
theorem C5 (K : List Gr) (g : Gr) : pO (K ++ [g]) = (pO K || (decide (g.Patterns.xs ≠ []) && decide (g.Transforms.xs ≠ []))) := by
 unfold pO; rw [List.any_append]; simp
theorem Ho [Gh] {N : Nat} {o : Tag} {h0 h : aA} {s c t9 : Addr} {bs : List Bd} {gs K : List Gr} {av pa : List Addr} {f : bI} {dir : Int}
  (hN : N ≤ h0.size) (R : kI N (fun x => h0.size ≤ x) o h s c t9 bs gs K av pa (fun _ => []) (sn0 [])) (C : sL o h s c f dir pa [] 0 false []) (f0 : Fr (fun _ => False) h0 h) (hkl : K.length ≤ 40)
  {Q : Value → aA → Prop} (hk : ∀ h', Fr (fun _ => False) h0 h' → tV N (fun x => h0.size ≤ x) h' s c f dir bs gs K [] 0 false [] → h0.size ≤ c.block → Q (.pointer (some c)) h') :
  iQ t9 (pO K) Q h := by
 unfold iQ
 have lp := R.lp
 have C0 := C
 obtain ⟨tg, pp, pc, bp, bc, op, oc, ow, R1, t1, R2, t2, R3, t3⟩ := C
 have lc := ow.lt
 have cge : h0.size ≤ c.block := by
  refine R.fp _ lc ?_ (by rw [tg]; omega)
  rcases Nat.lt_or_ge c.block N with hl | hl
  ·have := R.low _ hl; omega
  ·exact hl
 have ppge : ∀ x, InA pp x → h0.size ≤ x := fun x hx => by
  refine R.fp _ (R1.lt hx) ?_ (by rw [t1 x hx]; omega)
  rcases Nat.lt_or_ge x N with hl | hl
  ·have := R.low _ hl; have := t1 x hx; omega
  ·exact hl
 have k9 := R.k9
 refine ifB (fun e => ?_) fun e => ?_
 ·refine aV (k9.now.at0 rfl) (aV (k9.now.at0 rfl) (aS (aC (ow.cells.at (j := 11) rfl) ?_)))
  refine aZ (vs := [.int .i64 0, .slice none 0 0, .slice none 0 0, .slice none 0 0, .slice none 0 0, .pointer none]) fun t90 h1 f1 e1 o90 => ?_
  have k91 := k9.fr0 f1
  have ow1 := ow.fr0 f1
  refine ⟨aV (k91.now.at0 rfl) rfl, aV (k91.now.at0 rfl) rfl, aC (ow1.cells.at (j := 11) rfl) rfl, ?_⟩
  refine aZ (vs := [.pointer (some t90), .slice none 0 0, FT t9, I3]) fun t93 h2 f2 e2 o93 => ?_
  have k92 := k91.fr0 f2
  have ow2 := ow1.fr0 f2
  refine ⟨aV (k92.now.at0 rfl) rfl, aV (k92.now.at0 rfl) rfl, aC (ow2.cells.at (j := 11) rfl) rfl, ?_⟩
  refine aZ (vs := adV t93) fun t94 h3 f3 e3 o94 => ?_
  have k93 := k92.fr0 f3
  have ow3 := ow2.fr0 f3
  have z1 := f1.size; have z2 := f2.size; have z3 := f3.size
  refine ⟨aV (k93.now.at0 rfl) rfl, aV (k93.now.at0 rfl) rfl, aC (ow3.cells.at (j := 11) rfl) rfl, ?_⟩
  have F3 := (f1.trans f2).trans f3
  refine (R1.fr0 F3).app DV Tryz.underlying97 (by intro k e; cases e) (by kernel_rfl) (by decide +kernel) uo xW o94 1 (by omega) fun pp' pc' h4 R1' f4 hn4 => ⟨_, _, _, rfl, ?_⟩
  have z4 := f4.size
  have k94 := k93.fr (B' := fun x => o x = 0) f4 (fun x hx h1 hh => by have := t1 x hh; omega) fun _ _ => id
  refine ⟨aV (k94.now.at0 rfl) rfl, aS ?_⟩
  have ow4 := ow3.fr f4 fun hh => by have := t1 _ hh; omega
  refine cK ow4 11 (by show 11 < 16; omega) rfl fun h5 f5 z5 ow5 => ?_
  have k95 := k94.fr (B' := fun x => o x = 0) f5 (fun x hx h1 hh => by rw [hh] at h1; omega) fun _ _ => id
  refine aV (k95.now.at0 rfl) ?_
  have z5' := f5.size
  have lpp : ∀ x, InA pp x → x < h.size := fun x hx => R1.lt hx
  have l90 := o90.lt; have l93 := o93.lt; have l94 := o94.lt
  have Ft : Fr (fun x => InA pp x ∨ x = c.block) h h5 := ((F3.mono fun _ => False.elim).trans (f4.mono fun _ => .inl)).trans (f5.mono fun _ => .inr)
  have own' : ∀ x, h.size ≤ x → x < h3.size → ¬ InA pp' x := fun x h1 h2 hh => by
   rcases hn4 _ hh with h | h
   ·have := lpp _ h; omega
   ·omega
  have nF : ∀ x, ¬ (fun _ : Nat => False) x := fun _ => id
  have o90' := ((o90.fr0 f2).fr0 f3).fr f4 (fun hh => by have := lpp _ hh; omega) |>.fr f5 (by omega)
  have o93' := (o93.fr0 f3).fr f4 (fun hh => by have := lpp _ hh; omega) |>.fr f5 (by omega)
  have tpp : ∀ x, InA pp' x → sf h o 0 (fun _ => False) (InA pp') (fun _ => False) x = 4 := fun x hx => by
   rcases Nat.lt_or_ge x h.size with hl | hl
   ·rw [mG hl]
    rcases hn4 x hx with h | h
    ·exact t1 x h
    ·omega
   ·exact GQ hl id hx
  refine hk h5 (f0.tr Ft fun x hx hh => ?_) ⟨sf h o 0 (fun _ => False) (InA pp') (fun _ => False), t9, av, pa, some t93, R.fr Ft CB (fun x hx hh => ?_) (fun x hx hN' hne => ?_) Ft.size, ⟨?_, pp', pc', bp, bc, op, oc, ?_, ?_, tpp, ?_, fun x hx => ?_, ?_, fun x hx => ?_⟩, fun a ea => ?_, by rw [e]; rfl⟩ cge
  ·rcases hh with hh | hh
   ·have := ppge x hh; omega
   ·omega
  ·rcases hh with hh | hh
   ·have := t1 x hh; omega
   ·rw [hh, tg]; omega
  ·rcases Nat.lt_or_ge x h.size with hl | hl
   ·exact R.fp x hl hN' (by rw [mG hl] at hne; exact hne)
   ·have := f0.size; show h0.size ≤ x; omega
  ·rw [mG lc]; exact tg
  ·rw [ite_self]; exact ow5
  ·exact R1'.fr f5 fun x hx hh => by
    rcases hn4 x hx with h | h
    ·have := t1 x h; rw [hh, tg] at this; omega
    ·omega
  ·rw [ite_self]
   exact R2.fr Ft fun x hx hh => by
    have := t2 x hx
    rcases hh with hh | hh
    ·have := t1 x hh; omega
    ·rw [hh, tg] at this; omega
  ·rw [mG (R2.lt hx)]; exact t2 x hx
  ·exact R3.fr Ft fun x hx hh => by
    have := t3 x hx
    rcases hh with hh | hh
    ·have := t1 x hh; omega
    ·rw [hh, tg] at this; omega
  ·rw [mG (R3.lt hx)]; exact t3 x hx
  ·simp only [Option.some.injEq] at ea
   subst ea
   exact ⟨t90, (sq o93' (tJ (by omega) id (own' _ (by omega) (by omega)) id)).and (sq o90' (tJ (by omega) id (own' _ (by omega) (by omega)) id))⟩
 ·refine aV (k9.now.at0 rfl) ?_
  refine hk h f0 ⟨o, t9, av, pa, none, R, ?_, fun a ea => (by cases ea), by rw [e]; rfl⟩ cge
  rw [ite_self]
  have : pa ++ (none : Option Addr).toList = pa := by simp
  rw [this]; exact C0
set_option maxHeartbeats 1000000 in
theorem wm [Gh] {N : Nat} {h0 : aA} {s : Addr} {bs : List Bd} {gs : List Gr} (T0 : vt N h0 s bs gs) (hg : gs.length ≤ 40) (hpl : ∀ g ∈ gs, g.Patterns.xs.length ≤ 512) (f : bI) (kind dir : Int)
  {Q : Value → aA → Prop} (hk : ∀ c h', Fr (fun _ => False) h0 h' → tV N (fun x => h0.size ≤ x) h' s c f dir bs gs (gs.filter fun g => g.Kind = kind) [] 0 false [] → h0.size ≤ c.block → Q (.pointer (some c)) h') :
  aD Tryz.prog je #[.pointer (some s), .agg f.vals.toArray, .int .i64 kind, .int .i64 dir] h0 Q := by
 apply uP
 unfold pf
 have hN := T0.1
 refine aZ (vs := f.vals) fun t5 h1 f1 e1 o5 => ?_
 refine zk ?_
 refine (aB (o5.cells.at0 rfl) (aN (o5.cells.at rfl) (aB (o5.cells.at rfl) (aB (o5.cells.at rfl) (aN (o5.cells.at rfl) (aB (o5.cells.at rfl) (aB (o5.cells.at rfl) (aB (o5.cells.at rfl) (aB (o5.cells.at rfl) ?_)))))))))
 refine aZ (vs := yn s f dir none 0 0 none 0 0 0 false none 0 0) fun c h2 f2 e2 oC => ?_
 refine aZ (vs := [.pointer none]) fun t9 h3 f3 e3 o9 => ?_
 refine mL o9 (by show 0 < 1; omega) rfl fun h4 f4 z4 o9' => ?_
 have z1 := f1.size; have z2 := f2.size; have z3 := f3.size; have z4' := f4.size
 have lC := oC.lt; have l9 := o9.lt
 have F3 := (f1.trans f2).trans f3
 have F4 : Fr (fun _ => False) h0 h4 := F3.tr f4 fun x hx hh => by omega
 obtain ⟨_, p1, c1, m, mm, k1, k2⟩ := T0
 have T0 : vt N h0 s bs gs := ⟨hN, p1, c1, m, mm, k1, k2⟩
 have k1 := k1.fr0 F4
 obtain ⟨pk, ck, av, ek, kR, Gp⟩ := k2 kind
 refine aS (kM (k1.now.1.at (j := 1) rfl) ?_)
 refine vO Dl Tryz.underlying76 Ed k1.now.2.2.2 kind false ?_
 rw [if_neg (by decide)]
 refine ⟨_, _, _, ek, ?_⟩
 have oC4 := (oC.fr0 f3).fr f4 (by omega)
 have Klen : (gs.filter fun g => g.Kind = kind).length ≤ 40 := Nat.le_trans (List.length_filter_le _ _) hg
 have avl := Gp.len
 generalize hKK : (gs.filter fun g => decide (g.Kind = kind)) = K at *
 refine aJ.mk (fun st h' => ∃ (k : Nat) (o : Tag) (pa : List Addr), st = (pO (K.take k), (k : Int)) ∧ k ≤ K.length ∧ Fr (fun _ => False) h0 h' ∧ kI N (fun x => h0.size ≤ x) o h' s c t9 bs gs (K.take k) (av.take k) pa (fun _ => []) (sn0 []) ∧ sL o h' s c f dir pa [] 0 false [] )
  (fun st _ => K.length - st.2.toNat) ⟨0, fun x => if x = c.block then 1 else if x < N then 0 else if x < h0.size then 9 else 0, [], rfl, by omega, F4, ⟨fun x hx => by rw [if_neg (by omega), if_pos hx], fun x hx hn hne => ?_, T0.fr0 F4, sq o9' (by rw [if_neg (by omega), if_neg (by omega), if_neg (by omega)]), by simp, rfl, fun i h => absurd h (by simp)⟩, ⟨if_pos rfl, none, 0, none, 0, none, 0, oC4, Row.nil, fun x hx => (dR hx).elim, Row.nil, fun x hx => (dR hx).elim, Row.nil, fun x hx => (dR hx).elim⟩⟩ ?_
 ·refine Classical.byContradiction fun hh => hne ?_
  have hh' : x < h0.size := Nat.lt_of_not_le hh
  rw [if_neg (by omega), if_neg (by omega), if_pos hh']
 rintro st hs ⟨k, o, pa, rfl, hkl, fs, R, C⟩
 dsimp only
 unfold kT
 refine ifD (fun hlt => ?_) (fun hge => ?_)
 ·have hi : k < K.length := by omega
  have hia : k < av.length := by omega
  have Rav := kR hs (fs.mono fun x hx => hx.elim)
  refine Rav.idx uo (by omega) k rfl hia fun ad cc => ?_
  rw [Int.toNat_natCast]
  refine aV (cc.at0 rfl) ?_
  have Gk0 := Gp.at_ k hia hi
  obtain ⟨au, sg, ws, Gk⟩ := GpX.of ((Gk0.fr (B' := fun x => x < N) fs (fun _ _ _ => id) fun _ _ => id)) R.set.1
  have gpl : K[k].Patterns.xs.length ≤ 512 := hpl _ (by
   have : K[k] ∈ gs.filter fun g => decide (g.Kind = kind) := by rw [hKK]; exact List.getElem_mem hi
   exact (List.mem_filter.1 this).1)
  refine aZ (vs := [.pointer none]) fun t12 a1 g1 d1 q12 => ?_
  refine mL q12 (by show 0 < 1; omega) rfl fun a2 g2 d2 q12' => ?_
  have y1 := g1.size; have y2 := g2.size
  have l12 := q12.lt
  have Fa2 : Fr (fun _ => False) hs a2 := g1.tr g2 fun x hx hh => by omega
  refine aV (q12'.cells.at0 rfl) (aV (q12'.cells.at0 rfl) (aS ?_))
  have Ga := Gk.fr Fa2 fun _ _ h => h.elim
  have gc := rR Ga.1.now.1
  refine aC (gc.at (j := 2) rfl) ?_
  have fin : ∀ (h' : aA) (t42 t13 : Addr) (q : Option Addr) (qc : Nat), FZ hs h' av[k] t42 t12 t13 q K[k].Patterns.xs.length qc → Fr (fun _ => False) hs h' →
    cU t9 (pO (K.take k)) t12 t13 pk av.length ck ((av.length : Nat) : Int) (k : Int) Q (fun s' h' => (∃ (k : Nat) (o : Tag) (pa : List Addr), s' = (pO (K.take k), (k : Int)) ∧ k ≤ K.length ∧ Fr (fun _ => False) h0 h' ∧ kI N (fun x => h0.size ≤ x) o h' s c t9 bs gs (K.take k) (av.take k) pa (fun _ => []) (sn0 []) ∧ sL o h' s c f dir pa [] 0 false [] ) ∧ K.length - s'.2.toNat < K.length - (k : Int).toNat) h' := by
   intro h' t42 t13 q qc Tn fh
   rw [← pV] at Tn
   refine FB (N := N) (k := k) (g := K[k]) (ga := av[k]) hN R C fs (by simp; omega) (by omega) Tn fh Gk fun keep' pa' h'' o' ek fk Rk Ck => ?_
   have e1 : K.take (k + 1) = K.take k ++ [K[k]] := by rw [List.take_append_getElem]
   have e2 : av.take (k + 1) = av.take k ++ [av[k]] := by rw [List.take_append_getElem]
   refine ⟨⟨k + 1, o', pa', by rw [e1, C5, ek]; simp, by omega, fk, by rw [e1, e2]; exact Rk, Ck⟩, by dsimp only; omega⟩
  have T2 : ∀ {h' : aA}, Fr (fun _ => False) a2 h' → Own h' t12 [.pointer (some av[k])] eJ := fun f => q12'.fr0 f
  have mk : ∀ (hx : aA) {K' : Value → aA → Prop}, (∀ a h', Fr (fun _ => False) hx h' → hx.size ≤ a.block → Row 1 bbV h' (some a) K[k].Patterns.xs.length (List.replicate K[k].Patterns.xs.length false) → K' (.slice (some a) K[k].Patterns.xs.length K[k].Patterns.xs.length) h') → xg Tryz.prog rq (.int .i64 ((K[k].Patterns.xs.length : Nat) : Int)) (.int .i64 ((K[k].Patterns.xs.length : Nat) : Int)) hx K' := by
   intro hx K' hK
   refine xH Ei K[k].Patterns.xs.length rfl (Nat.le_trans (Nat.mul_le_mul gpl (show Tryz.t4.bytes ≤ 8 by decide +kernel)) (by decide)) fun a h' f' ea oa => hK a h' f' (by omega) ?_
   have el : (List.replicate K[k].Patterns.xs.length (Value.bool false).cells.toList).flatten = (List.replicate K[k].Patterns.xs.length false).flatMap bbV := by
    rw [List.flatMap_def, List.map_replicate]; rfl
   rw [el] at oa
   have := Row.of_own xM oa
   rw [List.length_replicate] at this
   exact this
  have gcf : ∀ {h' : aA}, Fr (fun _ => False) a2 h' → aW h' av[k] K[k].vals := fun f => gc.fr0 f
  refine ⟨?_, ?_⟩
  ·refine mk a2 fun q b1 j1 nq Rq => ⟨_, _, _, rfl, aV ((T2 j1).cells.at0 rfl) rfl, ?_, ?_⟩
   ·refine aZ (vs := [.pointer (some av[k]), .slice (some q) K[k].Patterns.xs.length K[k].Patterns.xs.length, xv, zz]) fun t42 b2 j2 ej2 o42 => ?_
    refine aZ (vs := [.pointer none]) fun t13 b3 j3 ej3 o13 => ?_
    have F3 := (j1.trans j2).trans j3
    refine ⟨aV ((T2 F3).cells.at0 rfl) rfl, aV ((T2 F3).cells.at0 rfl) rfl, aC ((gcf F3).at (j := 2) rfl) rfl, ?_⟩
    refine mL o13 (by show 0 < 1; omega) rfl fun b4 j4 w4 o13' => ?_
    have x1 := j1.size; have x2 := j2.size; have x3 := j3.size
    have l42 := o42.lt; have l13 := o13.lt
    have lq : q.block < b1.size := Rq.lt ⟨q, rfl, rfl⟩
    exact fin b4 t42 t13 (some q) _ ⟨(T2 F3).fr j4 (by omega), (o42.fr0 j3).fr j4 (by omega), o13', ((Rq.fr0 j2).fr0 j3).fr j4 (fun x hx hh => by obtain ⟨_, e, rfl⟩ := hx; cases e; omega), by omega, by omega, fun x hx => by obtain ⟨_, e, rfl⟩ := hx; cases e; omega⟩ ((Fa2.trans F3).tr j4 fun x hx hh => by omega)
   ·refine aZ (vs := [.pointer none]) fun t13 b2 j2 ej2 o13 => ?_
    have F2 := j1.trans j2
    refine ⟨aV ((T2 F2).cells.at0 rfl) rfl, aV ((T2 F2).cells.at0 rfl) rfl, aC ((gcf F2).at (j := 2) rfl) rfl, ?_⟩
    refine aZ (vs := [.pointer (some av[k]), .slice (some q) K[k].Patterns.xs.length K[k].Patterns.xs.length, xv, zz]) fun t42 b3 j3 ej3 o42 => ?_
    have F3 := F2.trans j3
    have l13 := o13.lt
    have o13 := o13.fr0 j3
    refine mL o13 (by show 0 < 1; omega) rfl fun b4 j4 w4 o13' => ?_
    have x1 := j1.size; have x2 := j2.size; have x3 := j3.size
    have l42 := o42.lt
    have lq : q.block < b1.size := Rq.lt ⟨q, rfl, rfl⟩
    exact fin b4 t42 t13 (some q) _ ⟨(T2 F3).fr j4 (by omega), o42.fr j4 (by omega), o13', ((Rq.fr0 j2).fr0 j3).fr j4 (fun x hx hh => by obtain ⟨_, e, rfl⟩ := hx; cases e; omega), by omega, by omega, fun x hx => by obtain ⟨_, e, rfl⟩ := hx; cases e; omega⟩ ((Fa2.trans F3).tr j4 fun x hx hh => by omega)
  ·refine aZ (vs := [.pointer none]) fun t13 b1 j1 ej1 o13 => ?_
   refine ⟨aV ((T2 j1).cells.at0 rfl) rfl, aV ((T2 j1).cells.at0 rfl) rfl, aC ((gcf j1).at (j := 2) rfl) rfl, ?_⟩
   refine mk b1 fun q b2 j2 nq Rq => ⟨_, _, _, rfl, aV ((T2 (j1.trans j2)).cells.at0 rfl) rfl, ?_⟩
   refine aZ (vs := [.pointer (some av[k]), .slice (some q) K[k].Patterns.xs.length K[k].Patterns.xs.length, xv, zz]) fun t42 b3 j3 ej3 o42 => ?_
   have F3 := (j1.trans j2).trans j3
   have l13 := o13.lt
   have o13 := (o13.fr0 j2).fr0 j3
   refine mL o13 (by show 0 < 1; omega) rfl fun b4 j4 w4 o13' => ?_
   have x1 := j1.size; have x2 := j2.size; have x3 := j3.size
   have l42 := o42.lt
   have lq : q.block < b2.size := Rq.lt ⟨q, rfl, rfl⟩
   exact fin b4 t42 t13 (some q) _ ⟨(T2 F3).fr j4 (by omega), o42.fr j4 (by omega), o13', (Rq.fr0 j3).fr j4 (fun x hx hh => by obtain ⟨_, e, rfl⟩ := hx; cases e; omega), by omega, by omega, fun x hx => by obtain ⟨_, e, rfl⟩ := hx; cases e; omega⟩ ((Fa2.trans F3).tr j4 fun x hx hh => by omega)
 ·have : k = K.length := by omega
  subst this
  rw [List.take_length] at R ⊢
  rw [show av.take K.length = av by rw [← avl, List.take_length]] at R
  exact Ho hN R C fs Klen fun h' f' S cg => hk c h' f' S cg
end Go.Proofs.YtjmfpeiidlpngaaGreatDoor
namespace Go.Proofs.YtjmfpeiidlpngaaGreatDoor
set_option linter.unusedSimpArgs false
set_option linter.unusedVariables false
set_option maxRecDepth 20000
open Go
open Go.IntKind (wrap)
section
variable {N : Nat} {F F' : Nat → Prop} {o o' : Tag} {h h' : aA} {s c t9 : Addr} {f : bI} {dir : Int} {bs : List Bd} {gs K : List Gr} {av pa L : List Addr} {tx tx' : Nat → Au.Nm} {sn sn' : Nat → Gr → List Bool} {S : Nat → Prop}
theorem kI.upd (R : kI N F o h s c t9 bs gs K av pa tx sn) (f : Fr S h h') (ho : Au.Old h o o') (k : Nat) (hs : ∀ x, x < h.size → S x → o x ≠ 0 ∧ (o x < 10 ∨ o x = 10 + 2 * k ∨ o x = 11 + 2 * k)) (hF : ∀ x, x < h'.size → N ≤ x → o' x ≠ 9 → F' x)
  (hx : ∀ i g, i ≠ k → tx' i = tx i ∧ sn' i g = sn i g) (hP : ∀ (h1 : k < K.length) (h2 : k < av.length) (h3 : k < pa.length), mW N o' k h' t9 av[k] K[k] pa[k] (tx' k) (sn' k K[k])) : kI N F' o' h' s c t9 bs gs K av pa tx' sn' := by
 have hN := R.set.1
 refine ⟨fun x hx => by rw [ho x (by omega)]; exact R.low x hx, hF, R.set.fr f fun x hx hh => ?_, R.k9.tag f ho fun x hx hh => (hs x hx hh).1, R.la, R.lp, fun i h1 h2 h3 => ?_⟩
 ·rcases Nat.lt_or_ge x N with hl | hl
  ·exact absurd (R.low x hl) (hs x hx hh).1
  ·exact hl
 ·by_cases hi : i = k
  ·subst hi; exact hP h1 h2 h3
  ·have P := R.part i h1 h2 h3
   rw [(hx i K[i] hi).1, (hx i K[i] hi).2]
   exact P.fr P.lt R.low f ho fun x hx hh => by have := hs x hx hh; omega
theorem kI.ext (R : kI N F o h s c t9 bs gs K av pa tx sn) (hx : ∀ i (h1 : i < K.length), tx' i = tx i ∧ sn' i K[i] = sn i K[i]) : kI N F o h s c t9 bs gs K av pa tx' sn' := by
 refine ⟨R.low, R.fp, R.set, R.k9, R.la, R.lp, fun i h1 h2 h3 => ?_⟩
 rw [(hx i h1).1, (hx i h1).2]; exact R.part i h1 h2 h3
theorem mW.fd {N i : Nat} {o : Tag} {h : aA} {t9 ga : Addr} {g : Gr} {pa : Addr} {w : Au.Nm} {seen : List Bool} (P : mW N o i h t9 ga g pa w seen) : ∃ fd, hcell h (pa.add 2) = some fd := by
 obtain ⟨tg, ln, q, qc, fd, en, au, sg, ws, k, _⟩ := P
 exact ⟨fd, k.now.at (j := 2) rfl⟩
theorem mW.en {N i : Nat} {o : Tag} {h : aA} {t9 ga : Addr} {g : Gr} {pa : Addr} {w : Au.Nm} {seen : List Bool} (P : mW N o i h t9 ga g pa w seen) : ∃ en, hcell h (pa.add 3) = some en := by
 obtain ⟨tg, ln, q, qc, fd, en, au, sg, ws, k, _⟩ := P
 exact ⟨en, k.now.at (j := 3) rfl⟩
end
theorem FV [Gh] {h : aA} {p : Option Addr} {cap : Nat} {L : Au.Nm} (R : Row 1 Au.bV h p cap L) (t : Au.Nm) (hl : L.length + t.length ≤ 2 ^ 30) {K : Value → aA → Prop}
  (hk : ∀ p' cap' h', Row 1 Au.bV h' p' cap' (L ++ t) → Fr (InA p) h h' → (∀ b, InA p' b → InA p b ∨ h.size ≤ b) → K (.slice p' (L ++ t).length cap') h') :
  dN Tryz.prog .append #[aQ, dO] aQ #[false, false] #[.slice p L.length cap, .string (bs t)] h K := by
 have s : Src h 1 (.string (bs t)) t.length (t.flatMap Au.bV) := by
  have := Src.str (h := h) (sz := 1) (bs t) rfl
  rw [wc, bR] at this
  rw [Au.ut]; exact this
 exact R.appL Au.BO Tryz.underlying9 (by intro k e; cases e) (by kernel_rfl) (by decide +kernel) Au.wE (fun _ => rfl) s hl hk
theorem ul (K : List Gr) (k : Nat) (h : K.length ≤ k) : K.take k = K := List.take_of_length_le h
def nD (K : List Gr) : Nat := (K.filter jN).length
theorem It (K : List Gr) (g : Gr) : nD (K ++ [g]) = nD K + if jN g = true then 1 else 0 := by
 unfold nD; rw [List.filter_append, List.length_append]
 by_cases h : jN g = true
 ·rw [List.filter_cons_of_pos h, if_pos h]; rfl
 ·rw [List.filter_cons_of_neg h, if_neg h]; rfl
theorem Hb (K : List Gr) : nD K ≤ K.length := List.length_filter_le _ _
def mid (w x : Au.Nm) (k i : Nat) : Au.Nm := if i < k then w ++ x else w
set_option maxHeartbeats 1000000 in
theorem CX [Gh] {N : Nat} {F : Nat → Prop} {h : aA} {s c : Addr} {f : bI} {dir : Int} {bs : List Bd} {gs K : List Gr} {w : Au.Nm} {work : Int} (S : tV N F h s c f dir bs gs K w work false []) (x : Au.Nm) (hx : w.length + x.length ≤ 2 ^ 16) (hK : K.length ≤ 40) (hw : 0 ≤ work ∧ work ≤ 2 ^ 30)
  {Q : Value → aA → Prop} (hk : ∀ h', Fr F h h' → tV N (fun y => F y ∨ h.size ≤ y) h' s c f dir bs gs K (w ++ x) (work + (nD K * x.length : Nat)) false [] → Q (.tuple #[]) h') :
  aD Tryz.prog gB #[.pointer (some c), .string (Go.Proofs.YtjmfpeiidlpngaaGreatDoor.bs x)] h Q := by
 apply uJ
 unfold pj
 obtain ⟨o, t9, av, pa, kp, R, C, KP, hkp⟩ := S
 have C0 := C
 obtain ⟨tg, pp, pc, bp, bc, op, oc, ow, R1, t1, _⟩ := C
 refine zk (aS (aN (ow.cells.at (j := 14) rfl) ?_))
 rw [if_neg (by decide)]
 refine aS (aC (ow.cells.at (j := 11) rfl) ?_)
 have lp := R.lp
 have la := R.la
 have hkl : kp.toList.length ≤ 1 := by cases kp <;> simp
 have hLl : (pa ++ kp.toList).length ≤ 41 := by rw [List.length_append]; omega
 have hLk : (pa ++ kp.toList).length = K.length + kp.toList.length := by rw [List.length_append]; omega
 have lpp : ∀ y, InA pp y → y < h.size := fun y hy => R1.lt hy
 refine aJ.mk (fun st h' => ∃ (k : Nat) (o : Tag), st = (k : Int) ∧ k ≤ (pa ++ kp.toList).length ∧ Fr F h h' ∧ kI N (fun y => F y ∨ h.size ≤ y) o h' s c t9 bs gs K av pa (mid w x k) (fun i g => ip g (mid w x k i)) ∧ sL o h' s c f dir (pa ++ kp.toList) (if pO K = true then (if K.length < k then w ++ x else w) else []) (work + (nD (K.take k) * x.length : Nat)) false [] ∧ zV o h' t9 kp ∧ Row 1 adV h' pp pc (pa ++ kp.toList) ∧ ∀ y, InA pp y → o y = 4)
  (fun st _ => (pa ++ kp.toList).length - st.toNat) ⟨0, o, rfl, by omega, Fr.refl _ _, ?_, ?_, KP, R1, t1⟩ ?_
 ·refine ⟨R.low, fun y hy hn hne => .inl (R.fp y hy hn hne), R.set, R.k9, R.la, R.lp, fun i h1 h2 h3 => ?_⟩
  have := R.part i h1 h2 h3
  unfold mid; rw [if_neg (by omega)]; exact this
 ·have e : work + ((nD (K.take 0) * x.length : Nat) : Int) = work := by simp [nD]
  rw [e, if_neg (show ¬ K.length < 0 by omega)]; exact C0
 rintro st h1 ⟨k, o, rfl, hkl, fF, R, C, KP, Rp, tp⟩
 unfold lb
 have C1 := C
 obtain ⟨tg, pp1, pc1, bp, bc, op, oc, ow, R1, t1, R2, t2, R3, t3⟩ := C
 have zF := fF.size
 have hnd : ∀ m, (nD (K.take m) * x.length : Nat) ≤ 40 * 2 ^ 16 := fun m => Nat.mul_le_mul (Nat.le_trans (Hb _) (by rw [List.length_take]; omega)) (by omega)
 have hFo : ∀ y, y < h1.size → o y ≠ 0 → o y ≠ 9 → y < h.size → F y := fun y hy h0 h9 hyh => by
  rcases R.fp y hy (by
   rcases Nat.lt_or_ge y N with hl | hl
   ·exact absurd (R.low y hl) h0
   ·exact hl) h9 with hh | hh
  ·exact hh
  ·omega
 refine ifD (fun hlt => ?_) (fun hge => ?_)
 ·have hi : k < (pa ++ kp.toList).length := by omega
  refine Rp.idx uo (by omega) k rfl hi fun ad cc => ?_
  rw [Int.toNat_natCast]
  refine aV (cc.at0 rfl) (aS ?_)
  by_cases hkK : k < K.length
  ·have e1 : (pa ++ kp.toList)[k] = pa[k]'(by omega) := List.getElem_append_left (by omega)
   rw [e1]
   have P := R.part k hkK (by omega) (by omega)
   obtain ⟨fd, hfd⟩ := P.fd
   refine Bs hfd ?_
   have em : mid w x k k = w := by unfold mid; rw [if_neg (by omega)]
   have P' : mW N o k h1 t9 (av[k]'(by omega)) K[k] (pa[k]'(by omega)) w (ip K[k] w) := by have := P; rw [em] at this; exact this
   refine P'.feed P'.lt R.low ow tg R.k9 x hx (by have := hnd k; omega) (K := fun h' => _) hfd (fun h' hh => ⟨rfl, hh⟩) fun h' o' ho f' ow' Pn => ?_
   have z' := f'.size
   have eT : K.take (k + 1) = K.take k ++ [K[k]] := by rw [List.take_append_getElem]
   rw [wr (by omega) (by omega)]
   have hsT : ∀ y, y < h1.size → (o y = 1 ∨ o y = 10 + 2 * k ∨ o y = 11 + 2 * k) → o y ≠ 0 ∧ (o y < 10 ∨ o y = 10 + 2 * k ∨ o y = 11 + 2 * k) := fun y hy hh => by omega
   refine ⟨⟨k + 1, o', by omega, by omega, fF.tr f' fun y hy hh => hFo y (by omega) (by omega) (by omega) hy, R.upd f' ho k hsT (fun y hy hn hne => ?_) (fun i g hik => ?_) (fun h1 h2 h3 => ?_), ?_, KP.fr f' ho fun y hy hh => by omega, Rp.fr f' fun y hy hh => by have := tp y hy; omega, fun y hy => by rw [ho y (Rp.lt hy)]; exact tp y hy⟩, by omega⟩
   ·rcases Nat.lt_or_ge y h1.size with hl | hl
    ·exact R.fp y hl hn (by rw [← ho y hl]; exact hne)
    ·exact .inr (by omega)
   ·have : mid w x (k + 1) i = mid w x k i := by
     unfold mid
     by_cases hik2 : i < k
     ·rw [if_pos hik2, if_pos (by omega)]
     ·rw [if_neg hik2, if_neg (by omega)]
    exact ⟨this, by show ip g (mid w x (k + 1) i) = _; rw [this]⟩
   ·have e3 : mid w x (k + 1) k = w ++ x := by unfold mid; rw [if_pos (by omega)]
    rw [e3]; exact Pn
   ·have ew : work + ((nD (K.take k) * x.length : Nat) : Int) + (if jN K[k] = true then (x.length : Int) else 0) = work + ((nD (K.take (k + 1)) * x.length : Nat) : Int) := by
     rw [eT, It]
     by_cases hd : jN K[k] = true
     ·rw [if_pos hd, if_pos hd, Nat.succ_mul]; omega
     ·rw [if_neg hd, if_neg hd, Nat.add_zero]; omega
    rw [ew] at ow'
    rw [if_neg (show ¬ K.length < k by omega)] at R2
    rw [if_neg (show ¬ K.length < k by omega)] at ow'
    rw [if_neg (show ¬ K.length < k + 1 by omega)]
    refine ⟨by rw [ho _ ow.lt]; exact tg, pp1, pc1, bp, bc, op, oc, ow', R1.fr f' (fun y hy hh => by have := t1 y hy; omega), fun y hy => by rw [ho _ (R1.lt hy)]; exact t1 y hy,
     R2.fr f' (fun y hy hh => by have := t2 y hy; omega), fun y hy => by rw [ho _ (R2.lt hy)]; exact t2 y hy, R3.fr f' (fun y hy hh => by have := t3 y hy; omega), fun y hy => by rw [ho _ (R3.lt hy)]; exact t3 y hy⟩
  ·obtain ⟨a, rfl⟩ : ∃ a, kp = some a := by
    cases kp with
    | none => simp at hi; omega
    | some a => exact ⟨a, rfl⟩
   have hkg : pO K = true := by rw [← hkp]; rfl
   have hl1 : (pa ++ (some a : Option Addr).toList).length = pa.length + 1 := by simp
   have hk0 : k = K.length := by omega
   have e1 : (pa ++ (some a : Option Addr).toList)[k] = a := by
    rw [List.getElem_append_right (by omega)]; simp
   rw [e1]
   obtain ⟨t90, kk⟩ := KP a rfl
   refine Bs (kk.now.1.at (j := 2) rfl) ?_
   unfold FT
   rw [cF]
   apply tj
   unfold ni
   rw [if_pos hkg, if_neg (show ¬ K.length < k by omega)] at R2 ow
   have k9 := R.k9
   refine aV (k9.now.at0 rfl) (aV (k9.now.at0 rfl) (aS (aC (ow.cells.at (j := 12) rfl) ?_)))
   refine FV R2 x (by omega) fun bp' bc' h2 R2' f2 hn2 => ⟨_, _, _, rfl, ?_⟩
   have z2 := f2.size
   have k92 := k9.fr (B' := fun y => o y = 0) f2 (fun y hy h1 hh => by have := t2 y hh; omega) fun _ _ => id
   refine ⟨aV (k92.now.at0 rfl) rfl, aS ?_⟩
   have ow2 := ow.fr f2 fun hh => by have := t2 _ hh; omega
   have lc := ow.lt
   refine cK ow2 12 (by show 12 < 16; omega) rfl fun h3 f3 z3 ow3 => ⟨rfl, ?_⟩
   have z3' := f3.size
   have Ft : Fr (fun y => InA bp y ∨ y = c.block) h1 h3 := (f2.mono fun _ => .inl).trans (f3.mono fun _ => .inr)
   have up : ∀ y, y < h1.size → Au.upT o h1.size 2 y = o y := fun y hy => Au.dU hy
   have tS : ∀ y, (InA bp y ∨ y = c.block) → o y = 2 ∨ o y = 1 := fun y hh => by
    rcases hh with hh | hh
    ·exact .inl (t2 y hh)
    ·exact .inr (by rw [hh]; exact tg)
   rw [wr (by omega) (by omega)]
   have eT : K.take (k + 1) = K.take k := by rw [ul _ _ (by omega), ul _ _ (by omega)]
   refine ⟨⟨k + 1, Au.upT o h1.size 2, by omega, by omega, fF.tr Ft fun y hy hh => hFo y (by omega) (by have := tS y hh; omega) (by have := tS y hh; omega) hy, kI.ext (R.fr (F' := fun y => F y ∨ h.size ≤ y) Ft (Au.Old.up (Nat.le_refl _)) (fun y hy hh => by have := tS y hh; omega) (fun y hy hn hne => ?_) Ft.size) fun i hi => ?_, ?_, KP.fr Ft (Au.Old.up (Nat.le_refl _)) (fun y hy hh => by have := tS y hh; omega), Rp.fr Ft (fun y hy hh => by have := tp y hy; have := tS y hh; omega), fun y hy => by rw [up y (Rp.lt hy)]; exact tp y hy⟩, by omega⟩
   ·rcases Nat.lt_or_ge y h1.size with hl | hl
    ·exact R.fp y hl hn (by rw [← up y hl]; exact hne)
    ·exact .inr (by omega)
   ·have : mid w x (k + 1) i = mid w x k i := by unfold mid; rw [if_pos (by omega), if_pos (by omega)]
    exact ⟨this, by show ip _ (mid w x (k + 1) i) = _; rw [this]⟩
   ·rw [if_pos hkg, if_pos (show K.length < k + 1 by omega), eT]
    refine ⟨by rw [up _ lc]; exact tg, pp1, pc1, bp', bc', op, oc, ow3, R1.fr Ft (fun y hy hh => by have := t1 y hy; have := tS y hh; omega), fun y hy => by rw [up y (R1.lt hy)]; exact t1 y hy,
     R2'.fr f3 (fun y hy hh => ?_), fun y hy => ?_, R3.fr Ft (fun y hy hh => by have := t3 y hy; have := tS y hh; omega), fun y hy => by rw [up y (R3.lt hy)]; exact t3 y hy⟩
    ·rcases hn2 y hy with h5 | h5
     ·have := t2 y h5; rw [hh, tg] at this; omega
     ·omega
    ·rcases hn2 y hy with h5 | h5
     ·rw [up y (R2.lt h5)]; exact t2 y h5
     ·exact Au.jR h5
 ·have hke : k = (pa ++ kp.toList).length := by omega
  have eT : K.take k = K := ul _ _ (by omega)
  refine hk h1 fF ⟨o, t9, av, pa, kp, R.ext fun i hi => ?_, ?_, KP, hkp⟩
  ·have : mid w x k i = w ++ x := by unfold mid; rw [if_pos (by omega)]
   exact ⟨this.symm, by show ip _ _ = ip _ (mid w x k i); rw [this]⟩
  ·rw [eT] at C1
   cases hkg : pO K with
   | false => rw [hkg] at C1; exact C1
   | true =>
    rw [hkg] at C1 hkp
    have : K.length < k := by
     cases kp with
     | none => cases hkp
     | some a => simp at hke; omega
    rw [if_pos rfl, if_pos this] at C1
    exact C1
end Go.Proofs.YtjmfpeiidlpngaaGreatDoor
namespace Go.Proofs.YtjmfpeiidlpngaaGreatDoor
set_option linter.unusedSimpArgs false
set_option linter.unusedVariables false
set_option maxRecDepth 20000
open Go
open Go.IntKind (wrap)
def gS (g : Gr) (w : Au.Nm) : List Bool := tI (gP g) (Au.jH g.Transforms.xs w)
theorem rH (g : Gr) (w : Au.Nm) : (gS g w).length = (gP g).length := by unfold gS tI; rw [List.length_map]
theorem EU (w : Au.Nm) : Au.jH [] w = w := rfl
def trans (g : Gr) : Bool := decide (g.Patterns.xs ≠ []) && decide (g.Transforms.xs ≠ [])
theorem EQ (K : List Gr) : pO K = K.any trans := rfl
theorem Dw {g : Gr} {w : Au.Nm} (h : trans g = false) : gS g w = ip g w := by
 unfold trans at h
 unfold gS ip
 by_cases e : g.Transforms.xs = []
 ·rw [if_pos e, e, EU]
 ·rw [if_neg e]
  have : g.Patterns.xs = [] := by
   by_cases e2 : g.Patterns.xs = []
   ·exact e2
   ·simp [e, e2] at h
  have e0 : gP g = [] := by unfold gP ptS; rw [this]; rfl
  rw [e0]; rfl
theorem EA [Gh] {h : aA} {p : Option Addr} {c : Nat} {l : Au.Nm} (R : Row 1 Au.bV h p c l) {K : Value → aA → Prop} (hk : K (.string (bs l)) h) : oJ Tryz.prog aQ dO (.slice p l.length c) h K := by
 have o := R.own
 rw [Au.ut] at o
 exact r7 Tryz.underlying98 Tryz.underlying9 Tryz.underlying5 (l := l) rfl (fun ad hd => by subst hd; exact o.cells) (fun hd => by subst hd; have := o.1; simpa [dX] using this) hk
set_option maxHeartbeats 1000000 in
theorem mW.fin [Gh] {N i : Nat} {o : Tag} {h : aA} {t9 ga : Addr} {g : Gr} {pa : Addr} {w : Au.Nm} (P : mW N o i h t9 ga g pa w (ip g w)) (low : ∀ x, x < N → o x = 0)
  {c s : Addr} {f : bI} {dir : Int} {pp : Option Addr} {pn pc : Nat} {bp : Option Addr} {bc : Nat} {buf : Au.Nm} {work : Int} {done : Bool} {op : Option Addr} {on oc : Nat} (oc9 : Own h c (yn s f dir pp pn pc bp buf.length bc work done op on oc) iy) (tc : o c.block = 1) (k9 : Kp (fun x => o x = 0) h fun h' => aW h' t9 [.pointer (some c)])
  (Rb : Row 1 Au.bV h bp bc buf) (tb : ∀ x, InA bp x → o x = 2) (hb : trans g = true → buf = w) (hx : w.length ≤ 2 ^ 15) (hw : 0 ≤ work ∧ work ≤ 2 ^ 40) {Q : Value → aA → Prop} {K : aA → Prop} {en : Value} (hen : hcell h (pa.add 3) = some en) (hQ : ∀ h', K h' → Q (.tuple #[]) h')
  (hk : ∀ h', Fr (fun x => o x = 1 ∨ o x = 10 + 2 * i) h h' → Own h' c (yn s f dir pp pn pc bp buf.length bc (work + if trans g = true then ((Au.jH g.Transforms.xs w).length : Int) else 0) done op on oc) iy → mW N o i h' t9 ga g pa w (gS g w) → K h') :
  lQ Tryz.prog en #[] h Q := by
 have P0 := P
 obtain ⟨tg, ln, q, qc, fd, en', au, sg, ws, k, R, hq, G, M⟩ := P
 have e := hen.symm.trans (k.now.at (j := 3) rfl)
 simp only [Option.some.injEq] at e
 subst e
 have no : trans g = false → en = zz → lQ Tryz.prog en #[] h Q := fun ht e => by
  subst e
  unfold zz
  rw [cF]
  apply tA
  unfold nr
  refine hQ _ (hk h (Fr.refl _ _) ?_ ?_)
  ·rw [ht]; simpa using oc9
  ·rw [Dw ht]; exact P0
 rcases M with ⟨m1, m2, m3⟩ | ⟨m1, m2, m3, _⟩ | ⟨m1, m2, m3, t12, t13, m4, kc⟩
 ·exact no (by unfold trans; simp [m1]) m3
 ·exact no (by unfold trans; simp [m2]) m3
 ·have ht : trans g = true := by unfold trans; simp [m1, m2]
  have ebuf := hb ht
  subst ebuf
  subst m4
  unfold Id
  rw [cF]
  apply tv
  unfold nt
  have gc := rR G.1.now.1
  refine aV (kc.now.1.at0 rfl) (aS (aC (gc.at (j := 1) rfl) (aV (k9.now.at0 rfl) (aS (aC (oc9.cells.at (j := 12) rfl) ?_)))))
  refine EA Rb ⟨_, rfl, aV (kc.now.1.at0 rfl) rfl, aC (gc.at (j := 1) rfl) rfl, ?_⟩
  refine Au.JZ g.Transforms buf (by omega) G.1.now.2.k1 fun h1 f1 => ⟨_, rfl, ?_⟩
  have k91 := k9.fr0 f1
  have oc1 := oc9.fr0 f1
  have hl := Au.EP g.Transforms.xs buf
  refine aV (k91.now.at0 rfl) (aS (aB (oc1.cells.at (j := 13) rfl) (aS ?_)))
  rw [bR, wr (by omega) (by omega)]
  refine cK oc1 13 (by show 13 < 16; omega) rfl fun h2 f2 z2 oc2 => ?_
  have lc := oc9.lt
  have z1 := f1.size
  have z2' := f2.size
  have F2 : Fr (fun x => x = c.block) h h2 := (f1.mono fun _ => False.elim).trans f2
  have G2 := G.fr F2 fun x hx hh => by
   rcases Nat.lt_or_ge x N with hl | hl
   ·have := low x hl; rw [hh, tc] at this; omega
   ·exact hl
  have kc2 := kc.fr (B' := fun x => o x = 0) F2 (fun x hx h0 hh => by rw [hh] at h0; omega) fun _ _ => id
  refine aV (kc2.now.2.at0 rfl) (aV (kc2.now.1.at0 rfl) (aS (aV (G2.1.now.1.at (j := 5) rfl) ?_)))
  refine Au.J6 G2.2 (Au.jH g.Transforms.xs buf) (by omega) fun h3 r rc f3 Rr hr => ⟨_, _, _, rfl, ?_⟩
  have z3 := f3.size
  have kc3 := kc2.fr0 f3
  refine ⟨aV (kc3.now.2.at0 rfl) rfl, ?_⟩
  have lq : ∀ y, InA q y → y < h.size := fun y hy => R.lt hy
  have R3 := (R.fr F2 fun y hy hh => by have := hq y hy; rw [hh, tc] at this; omega).fr0 f3
  have k3 := (k.fr (B' := fun x => o x = 0) F2 (fun x hx h0 hh => by rw [hh] at h0; omega) fun _ _ => id).fr0 f3
  have eW : ip g buf = List.replicate (gP g).length false := by unfold ip; rw [if_neg m2]
  refine Hj k3.now R3 (fun hh => by have := hq _ hh; omega) Rr (fun y hy hh => by have := hr y hy; have := lq y hh; omega) (fun y hy => ?_) ?_ fun h4 f4 R4 => ⟨rfl, ?_⟩
  ·rw [mv]
   exact (vy.1 (show (y.1, y.2) ∈ _ from hy)).2.2.1
  ·have := Au.vB (gP g) (Au.jH g.Transforms.xs buf) 0 (Au.jH g.Transforms.xs buf).length
   have hm := G.2.m
   have : (Au.jH g.Transforms.xs buf).length * (gP g).length ≤ 2 ^ 16 * 512 := Nat.mul_le_mul (by omega) hm
   have : (Au.oS (gP g) (Au.jH g.Transforms.xs buf) 0 (Au.jH g.Transforms.xs buf).length).length ≤ 2 ^ 40 := by omega
   exact this
  ·have e4 : sH (ip g buf) (Au.oS (gP g) (Au.jH g.Transforms.xs buf) 0 (Au.jH g.Transforms.xs buf).length) = gS g buf := by rw [eW]; exact Fz _ _
   have R4' : Row 1 bbV h4 q qc (gS g buf) := by rw [← e4]; exact R4
   have Ft : Fr (fun x => x = c.block ∨ InA q x) h h4 := ((F2.mono fun _ => .inl).trans (f3.mono fun _ => False.elim)).trans (f4.mono fun _ => .inr)
   have tS : ∀ y, (y = c.block ∨ InA q y) → o y = 1 ∨ o y = 10 + 2 * i := fun y hh => by
    rcases hh with hh | hh
    ·exact .inl (by rw [hh]; exact tc)
    ·exact .inr (hq y hh)
   have kt : ∀ {P : aA → Prop}, Kp (fun x => o x = 0) h P → Kp (fun x => o x = 0) h4 P := fun kk => kk.fr Ft (fun y hy h0 hh => by have := tS y hh; omega) fun _ _ => id
   refine hQ _ (hk h4 (Ft.mono tS) ?_ ⟨tg, rH _ _, q, qc, fd, Id t12 t9 t13, au, sg, ws, ?_, R4', hq, ?_, .inr (.inr ⟨m1, m2, m3, t12, t13, rfl, kt kc⟩)⟩)
   ·rw [ht, if_pos rfl]
    exact (oc2.fr0 f3).fr f4 fun hh => by have := hq _ hh; omega
   ·have := kt k
    rw [mv] at this
    rw [rH]
    exact this
   ·exact G.fr Ft fun y hy hh => by
     rcases Nat.lt_or_ge y N with hl | hl
     ·have := low y hl; have := tS y hh; omega
     ·exact hl
end Go.Proofs.YtjmfpeiidlpngaaGreatDoor
namespace Go.Proofs.YtjmfpeiidlpngaaGreatDoor
set_option linter.unusedSimpArgs false
set_option linter.unusedVariables false
set_option maxRecDepth 20000
open Go
open Go.IntKind (wrap)
theorem qQ.front {h : aA} {p : Option Addr} {cap sz : Nat} {A B : List Value} (o : qQ h p cap sz (A ++ B)) : qQ h p cap sz A := by
 cases p with
 | none => exact ⟨(List.append_eq_nil_iff.1 o.1).1, o.2⟩
 | some ad =>
  obtain ⟨h1, h2, ds, t, fr, hfr, hg, hc1, hc2, hc3⟩ := o
  refine ⟨h1, h2, ds, t, fr, hfr, hg, hc1, by rw [List.length_append] at hc2; omega, fun i hi => ?_⟩
  rw [hc3 i (by rw [List.length_append]; omega), List.getElem_append_left hi]
theorem Row.front {α : Type} {sz : Nat} {vals : α → List Value} {h : aA} {p : Option Addr} {cap : Nat} {A B : List α} (R : Row sz vals h p cap (A ++ B)) : Row sz vals h p cap A :=
 ⟨by have := R.own; rw [List.flatMap_append] at this; exact this.front, by have := R.le; rw [List.length_append] at this; omega⟩
theorem AD (l : List Int) : l.flatMap Au.nf = l.map fun n => Value.int .i64 n := by induction l <;> simp_all [Au.nf]
theorem BU {h : aA} {p : Option Addr} {cap : Nat} {A B : List Int} (R : Row 1 Au.nf h p cap (A ++ B)) {ty : TypeId} {cs : Array Bool} {K : Value → aA → Prop}
  (hk : ∀ h', Fr (InA p) h h' → Row 1 Au.nf h' p cap A → K (.tuple #[]) h') :
  dN Tryz.prog .clear #[bK] ty cs #[.slice (if cap = A.length then p else p.map (·.add (A.length * 1))) B.length (cap - A.length)] h K := by
 have hle := R.le
 rw [List.length_append] at hle
 refine vh (s := Builtin.clear_ #[bK] ty #[.slice (if cap = A.length then p else p.map (·.add (A.length * 1))) B.length (cap - A.length)]) rfl ?_
 unfold Builtin.clear_
 simp only [List.getElem?_toArray, List.getElem?_cons_zero, bind]
 rw [aO]
 refine bP Tryz.underlying46 ?_
 cases hB : B with
 | nil =>
  rw [hB, List.append_nil] at R
  generalize (if cap = A.length then p else p.map (·.add (A.length * 1))) = q
  cases q <;> exact hk h (Fr.refl _ _) R
 | cons b B' =>
  rw [hB] at hle
  simp only [List.length_cons] at hle
  cases p with
  | none => have := R.own.2; omega
  | some ad =>
   have hf := R.front
   obtain ⟨⟨h1, h2, ds, t, fr, hfr, hg, hc1, hc2, hc3⟩, hle2⟩ := R
   obtain ⟨bk, o, sp⟩ := ad
   simp only at h1 h2 hg
   subst h1 h2
   rw [if_neg (by omega)]
   simp only [Option.map_some, List.length_cons]
   rw [aO]
   refine AJ (i := Tryz.t3) (z := .int .i64 0) (by kernel_rfl) (by kernel_rfl) ?_
   rw [aO]
   have hadd : ∀ j, (Addr.add (Addr.add ⟨bk, 0, none⟩ (A.length * 1)) j) = ⟨bk, A.length + j, none⟩ := fun j => by rw [gG, gG, Nat.zero_add, Nat.mul_one]
   rw [AD, List.length_map, List.length_append, hB] at hc2
   simp only [List.length_cons] at hc2
   have hz : (Builtin.zeroCells (Value.int .i64 0).cells (B'.length + 1)).toList.length = B'.length + 1 := by
    rw [Array.length_toList, pY]; show (B'.length + 1) * 1 = _; omega
   refine rh hadd _ 0 ds h hg hfr (fun v hv => ?_) (by rw [hz]; omega) ?_
   ·rw [Array.mem_toList_iff] at hv
    unfold Builtin.zeroCells at hv
    obtain ⟨i, _, e⟩ := Array.mem_map.1 hv
    have hm : i % (Value.int .i64 0).cells.size = 0 := Nat.mod_one i
    rw [hm] at e
    rw [← e]; rfl
   ·refine hk _ (Fr.set _ _ ⟨_, rfl, rfl⟩) ⟨⟨rfl, rfl, _, t, fr, by rw [io]; exact hfr, lk hg, by rw [io]; exact hc1, by rw [io, AD, List.length_map]; omega, fun i hi => ?_⟩, by omega⟩
    have hi' := hi
    rw [AD, List.length_map] at hi
    rw [pT _ _ _ (by rw [hz]; omega), if_neg (by omega)]
    obtain ⟨_, _, ds', t', fr', _, hg', _, _, hc3'⟩ := hf.own
    simp only at hg'
    rw [hg] at hg'
    simp only [Option.some.injEq, Obj.cells.injEq] at hg'
    obtain ⟨rfl, _⟩ := hg'
    exact hc3' i hi'
theorem Gt {p : Option Addr} {n c k : Nat} (hk : k ≤ n) (hc : n ≤ c) {K : Option Addr → Nat → Nat → Prop} (h : K (if c = k then p else p.map (·.add (k * 1))) (n - k) (c - k)) : fX 1 p n c (some (k : Int)) none none K := by
 refine ⟨by omega, by omega, ?_⟩
 rw [Int.toNat_natCast]; exact h
theorem FS {p : Option Addr} {n c k : Nat} (hc : k ≤ c) {K : Option Addr → Nat → Nat → Prop} (h : K p k c) : fX 1 p n c none (some (k : Int)) none K := by
 refine ⟨by omega, by omega, ?_⟩
 rw [Int.toNat_natCast]; exact h
def JY [Gh] (del : Value) (p : Option Addr) (h : aA) (xs : List Int) (q : Int → Bool) : Prop :=
 ∀ h', Fr (InA p) h h' → ∀ x ∈ xs, ∀ Q : Value → aA → Prop, (∀ h'', Fr (fun _ => False) h' h'' → Q (.bool (q x)) h'') → lQ Tryz.prog del #[.int .i64 x] h' Q
theorem Bx [Gh] {del : Value} {h : aA} {p : Option Addr} {cap : Nat} {xs : List Int} {q : Int → Bool} (R : Row 1 Au.nf h p cap xs) (D : JY del p h xs q) (hl : xs.length ≤ 2 ^ 40) {Q : Value → aA → Prop}
  (hno : ∀ h', Fr (fun _ => False) h h' → (∀ x ∈ xs, q x = false) → Q (.int .i64 (-1)) h')
  (hk : ∀ (i : Nat) (hi : i < xs.length) h', Fr (fun _ => False) h h' → (∀ x ∈ xs.take i, q x = false) → q xs[i] = true → Q (.int .i64 i) h') :
  aD Tryz.prog ij #[.slice p xs.length cap, del] h Q := by
 apply pU
 unfold kV
 refine aJ.mk (fun st h' => ∃ i : Nat, st = (i : Int) ∧ i ≤ xs.length ∧ Fr (fun _ => False) h h' ∧ ∀ x ∈ xs.take i, q x = false) (fun st _ => xs.length - st.toNat) ⟨0, rfl, by omega, Fr.refl _ _, fun x hx => by simp at hx⟩ ?_
 rintro st h1 ⟨i, rfl, hi, f1, hq⟩
 unfold ik
 refine ifD (fun hlt => ?_) (fun hge => ?_)
 ·have hi' : i < xs.length := by omega
  refine (R.fr0 f1).idx qh (by omega) i rfl hi' fun ad cc => ?_
  rw [Int.toNat_natCast]
  refine aB (cc.at0 rfl) ?_
  refine D h1 (f1.mono fun _ => False.elim) xs[i] (List.getElem_mem hi') _ fun h2 f2 => ⟨_, rfl, ?_⟩
  refine ifB (fun e => hk i hi' h2 (f1.trans f2) hq e) fun e => ?_
  rw [wr (by omega) (by omega)]
  refine ⟨⟨i + 1, by omega, by omega, f1.trans f2, fun x hx => ?_⟩, by omega⟩
  rw [show xs.take (i + 1) = xs.take i ++ [xs[i]] by rw [List.take_append_getElem], List.mem_append] at hx
  rcases hx with hx | hx
  ·exact hq x hx
  ·rw [List.mem_singleton.1 hx]; exact e
 ·have : i = xs.length := by omega
  subst this
  rw [List.take_length] at hq
  exact hno h1 f1 hq
def dJ (q : Int → Bool) (xs : List Int) : List Int := xs.filter fun x => !q x
theorem wO (q : Int → Bool) (a b : List Int) : dJ q (a ++ b) = dJ q a ++ dJ q b := List.filter_append ..
theorem zN (q : Int → Bool) (a : List Int) : (dJ q a).length ≤ a.length := List.length_filter_le _ _
theorem Ad {q : Int → Bool} {xs : List Int} (h : ∀ x ∈ xs, q x = false) : dJ q xs = xs := by
 unfold dJ; rw [List.filter_eq_self]; intro x hx; rw [h x hx]; rfl
theorem D1 (A B : List Int) (b x : Int) : (A ++ b :: B).set A.length x = (A ++ [x]) ++ B := by
 rw [List.set_append_right _ _ (Nat.le_refl _), Nat.sub_self, List.set_cons_zero, List.append_assoc]; rfl
theorem Ba [Gh] {del : Value} {h : aA} {p : Option Addr} {cap : Nat} {xs : List Int} {q : Int → Bool} (R : Row 1 Au.nf h p cap xs) (D : JY del p h xs q) (hl : xs.length ≤ 2 ^ 40) {Q : Value → aA → Prop}
  (hk : ∀ h', Fr (InA p) h h' → Row 1 Au.nf h' p cap (dJ q xs) → Q (.slice p (dJ q xs).length cap) h') :
  aD Tryz.prog gQ #[.slice p xs.length cap, del] h Q := by
 apply pu
 unfold kB
 refine Bx R D hl (fun h1 f1 hq => ⟨_, rfl, ?_⟩) fun i0 hi0 h1 f1 hq he => ⟨_, rfl, ?_⟩
 ·rw [if_pos (by decide)]
  have e := Ad hq
  have := hk h1 (f1.mono fun _ => False.elim) (by rw [e]; exact R.fr0 f1)
  rw [e] at this; exact this
 rw [if_neg (by simp only [beq_iff_eq]; omega)]
 have e0 : dJ q (xs.take (i0 + 1)) = xs.take i0 := by
  rw [show xs.take (i0 + 1) = xs.take i0 ++ [xs[i0]] by rw [List.take_append_getElem], wO, Ad hq]
  unfold dJ; rw [List.filter_cons_of_neg (by rw [he]; simp)]; simp
 refine aJ.mk (fun st h' => ∃ j : Nat, st = (((dJ q (xs.take j)).length : Int), (j : Int)) ∧ j ≤ xs.length ∧ (dJ q (xs.take j)).length < j ∧ Fr (InA p) h h' ∧ Row 1 Au.nf h' p cap (dJ q (xs.take j) ++ xs.drop (dJ q (xs.take j)).length))
  (fun st _ => xs.length - st.2.toNat) ⟨i0 + 1, ?_, by omega, ?_, f1.mono fun _ => False.elim, ?_⟩ ?_
 ·rw [e0, wr (by omega) (by omega), List.length_take, Nat.min_eq_left (by omega)]; rfl
 ·rw [e0, List.length_take]; omega
 ·rw [e0, List.length_take, Nat.min_eq_left (by omega), List.take_append_drop]; exact R.fr0 f1
 rintro st h2 ⟨j, rfl, hj, hlt, f2, R2⟩
 dsimp only
 unfold gO
 have hkl := zN q (xs.take j)
 rw [List.length_take] at hkl
 have L2 : (dJ q (xs.take j) ++ xs.drop (dJ q (xs.take j)).length).length = xs.length := by rw [List.length_append, List.length_drop]; omega
 have R2l := R2.le
 rw [L2] at R2l
 refine ifD (fun hlt2 => ?_) (fun hge => ?_)
 ·have hj' : j < xs.length := by omega
  have ej : (dJ q (xs.take j) ++ xs.drop (dJ q (xs.take j)).length)[j]'(by omega) = xs[j] := by
   rw [List.getElem_append_right (by omega), List.getElem_drop]
   congr 1; omega
  have et : xs.take (j + 1) = xs.take j ++ [xs[j]] := by rw [List.take_append_getElem]
  obtain ⟨ad, rfl, cc⟩ := R2.cellsAt qh (by omega) j (by omega)
  rw [ej] at cc
  refine bO j rfl hj' (aS ?_)
  rw [Int.toNat_natCast]
  refine aB (cc.at0 rfl) ?_
  refine D h2 f2 xs[j] (List.getElem_mem hj') _ fun h3 f3 => ⟨_, rfl, ?_⟩
  have R3 := R2.fr0 f3
  refine ifN (fun e => ?_) fun e => ?_
  ·have ek : dJ q (xs.take (j + 1)) = dJ q (xs.take j) ++ [xs[j]] := by
    rw [et, wO]; unfold dJ; rw [List.filter_cons_of_pos (by rw [e]; rfl)]; rfl
   refine bO (dJ q (xs.take j)).length rfl (by omega) (aS ?_)
   rw [Int.toNat_natCast, ← j9 (ad.add ((dJ q (xs.take j)).length * 1))]
   refine R3.set1 qh (dJ q (xs.take j)).length (by omega) rfl (j := 0) (by omega) (v := .int .i64 xs[j]) rfl (e' := xs[j]) rfl fun h4 f4 R4 => ?_
   rw [wr (by omega) (by omega), wr (by omega) (by omega)]
   have ed : xs.drop (dJ q (xs.take j)).length = xs[(dJ q (xs.take j)).length]'(by omega) :: xs.drop ((dJ q (xs.take j)).length + 1) := List.drop_eq_getElem_cons (by omega)
   refine ⟨⟨j + 1, by rw [ek, List.length_append]; rfl, by omega, by rw [ek, List.length_append, List.length_singleton]; omega, (f2.trans (f3.mono fun _ => False.elim)).trans f4, ?_⟩, by dsimp only; omega⟩
   rw [ed, D1] at R4
   rw [ek, List.length_append, List.length_singleton]; exact R4
  ·have ek : dJ q (xs.take (j + 1)) = dJ q (xs.take j) := by
    rw [et, wO]; unfold dJ; rw [List.filter_cons_of_neg (by rw [e]; decide)]; simp
   rw [wr (by omega) (by omega)]
   refine ⟨⟨j + 1, by rw [ek]; rfl, by omega, by rw [ek]; omega, f2.trans (f3.mono fun _ => False.elim), by rw [ek]; exact R3⟩, by dsimp only; omega⟩
 ·have : j = xs.length := by omega
  subst this
  rw [List.take_length] at *
  unfold gN
  refine Gt (by omega) (by omega) ?_
  have e : xs.length - (dJ q xs).length = (xs.drop (dJ q xs).length).length := by rw [List.length_drop]
  rw [e]
  refine BU R2 fun h3 f3 R3 => ⟨rfl, ?_⟩
  exact FS (by omega) (hk h3 (f2.trans f3) R3)
def hZ (xs : List Int) (i n : Nat) : List Int := (List.range n).filterMap fun k => if xs.getD (i + k) 0 = xs.getD (i + k - 1) 0 then none else some (xs.getD (i + k) 0)
theorem n7 (xs : List Int) (i n : Nat) : hZ xs i (n + 1) = hZ xs i n ++ if xs.getD (i + n) 0 = xs.getD (i + n - 1) 0 then [] else [xs.getD (i + n) 0] := by
 unfold hZ
 rw [List.range_succ, List.filterMap_append]
 by_cases h : xs.getD (i + n) 0 = xs.getD (i + n - 1) 0
 ·simp only [List.filterMap_cons, List.filterMap_nil, if_pos h]
 ·simp only [List.filterMap_cons, List.filterMap_nil, if_neg h]
theorem Ce (xs : List Int) (i n : Nat) : (hZ xs i n).length ≤ n := by
 unfold hZ
 exact Nat.le_trans (List.length_filterMap_le _ _) (by simp)
theorem uz (xs : List Int) (i : Nat) (h : i < xs.length) : xs.getD i 0 = xs[i] := by rw [List.getD_eq_getElem?_getD, List.getElem?_eq_getElem h]; rfl
def lP (xs : List Int) : List Int := xs.take 1 ++ hZ xs 1 (xs.length - 1)
theorem CE {xs : List Int} {n : Nat} (h : ∀ k, k < n → xs.getD (1 + k) 0 ≠ xs.getD (1 + k - 1) 0) (hn : n + 1 ≤ xs.length) : xs.take 1 ++ hZ xs 1 n = xs.take (n + 1) := by
 induction n with
 | zero => simp [hZ]
 | succ n ih =>
  rw [n7, if_neg (h n (by omega)), ← List.append_assoc, ih (fun k hk => h k (by omega)) (by omega), uz xs _ (by omega)]
  rw [show xs.take (n + 1 + 1) = xs.take (n + 1) ++ [xs[n + 1]] by rw [List.take_append_getElem]]
  have : 1 + n = n + 1 := by omega
  simp only [this]
theorem EH [Gh] {h : aA} {p : Option Addr} {cap : Nat} {xs : List Int} (R : Row 1 Au.nf h p cap xs) (hl : xs.length ≤ 2 ^ 40) {Q : Value → aA → Prop}
  (hk : ∀ h', Fr (InA p) h h' → Row 1 Au.nf h' p cap (lP xs) → Q (.slice p (lP xs).length cap) h') :
  aD Tryz.prog iM #[.slice p xs.length cap] h Q := by
 apply qY
 unfold lI
 have Rl := R.le
 have same : ∀ xs' : List Int, lP xs = xs' → xs' = xs → Q (.slice p xs.length cap) h := fun xs' e1 e2 => by
  have e := e1.trans e2
  have := hk h (Fr.refl _ _) (by rw [e]; exact R)
  rw [e] at this; exact this
 refine ifD (fun h2 => ?_) (fun h2 => ?_)
 ·refine same xs ?_ rfl
  unfold lP
  have : xs.length - 1 = 0 := by omega
  rw [this, List.take_of_length_le (by omega)]; simp [hZ]
 refine aJ.mk (fun st h' => ∃ k : Nat, st = ((k + 1 : Nat) : Int) ∧ k + 1 ≤ xs.length ∧ h = h' ∧ ∀ i, i < k → xs.getD (1 + i) 0 ≠ xs.getD (1 + i - 1) 0) (fun st _ => xs.length - st.toNat) ⟨0, rfl, by omega, rfl, fun i hi => absurd hi (Nat.not_lt_zero _)⟩ ?_
 rintro st h' ⟨k, rfl, hkl, eh, hn⟩
 subst eh
 unfold iN
 refine ifD (fun hlt => ?_) (fun hge => ?_)
 ·have hk1 : k + 1 < xs.length := by omega
  obtain ⟨ad, rfl, c1⟩ := R.cellsAt qh (by omega) (k + 1) hk1
  obtain ⟨ad', e', c0⟩ := R.cellsAt qh (by omega) k (by omega)
  cases e'
  have ew : wrap .i64 (((k + 1 : Nat) : Int) - 1) = (k : Int) := by rw [wr (by omega) (by omega)]; omega
  rw [ew]
  refine bO (k + 1) rfl hk1 (aS ?_)
  rw [Int.toNat_natCast]
  refine aB (c1.at0 rfl) ?_
  refine bO k rfl (by omega) (aS ?_)
  rw [Int.toNat_natCast]
  refine aB (c0.at0 rfl) ?_
  have hg : ∀ i (hi : i < xs.length), xs.getD i 0 = xs[i] := fun i hi => uz xs i hi
  refine ifE (fun e => ?_) fun e => ?_
  ·refine Gt (by omega) (by omega) ?_
   rw [if_neg (by omega)]
   refine aJ.mk (fun st h' => ∃ m : Nat, st = (((k + 1 + (hZ xs (k + 2) m).length : Nat) : Int), ((m + 1 : Nat) : Int)) ∧ k + 2 + m ≤ xs.length ∧ Fr (InA (some ad)) h h' ∧ Row 1 Au.nf h' (some ad) cap (xs.take (k + 1) ++ hZ xs (k + 2) m ++ xs.drop (k + 1 + (hZ xs (k + 2) m).length)))
    (fun st _ => xs.length - st.2.toNat) ⟨0, by simp [hZ], by omega, Fr.refl _ _, by simp [hZ]; exact R⟩ ?_
   rintro st h1 ⟨m, rfl, hm, f1, R1⟩
   dsimp only
   unfold iL
   have hnl := Ce xs (k + 2) m
   have tl : (xs.take (k + 1)).length = k + 1 := by rw [List.length_take]; omega
   have hA : (xs.take (k + 1) ++ hZ xs (k + 2) m).length = k + 1 + (hZ xs (k + 2) m).length := by rw [List.length_append, tl]
   have L1 : (xs.take (k + 1) ++ hZ xs (k + 2) m ++ xs.drop (k + 1 + (hZ xs (k + 2) m).length)).length = xs.length := by rw [List.length_append, hA, List.length_drop]; omega
   have atj : ∀ j (hj : j < xs.length), k + 1 + (hZ xs (k + 2) m).length ≤ j → aW h1 (ad.add (j * 1)) (Au.nf xs[j]) := fun j hj hge => by
    obtain ⟨ad2, e2, c⟩ := R1.cellsAt qh (by omega) j (by omega)
    cases e2
    have : (xs.take (k + 1) ++ hZ xs (k + 2) m ++ xs.drop (k + 1 + (hZ xs (k + 2) m).length))[j]'(by omega) = xs[j] := by
     rw [List.getElem_append_right (by omega), List.getElem_drop]
     congr 1; omega
    rw [this] at c; exact c
   refine ifD (fun hlt2 => ?_) (fun hge2 => ?_)
   ·have hj : k + 2 + m < xs.length := by omega
    have ew2 : wrap .i64 (((m + 1 : Nat) : Int) - 1) = (m : Int) := by rw [wr (by omega) (by omega)]; omega
    rw [ew2]
    have ea : ∀ n : Nat, Addr.add (Addr.add ad ((k + 1) * 1)) (n * 1) = ad.add ((k + 1 + n) * 1) := fun n => by rw [lg]; congr 1; omega
    have a1 := atj (k + 1 + (m + 1)) (by omega) (by omega)
    have a0 := atj (k + 1 + m) (by omega) (by omega)
    rw [← ea] at a1 a0
    refine bO (m + 1) rfl (by omega) (aS ?_)
    rw [Int.toNat_natCast]
    refine aB (a1.at0 rfl) ?_
    refine bO m rfl (by omega) (aS ?_)
    rw [Int.toNat_natCast]
    refine aB (a0.at0 rfl) ?_
    have g1 : xs.getD (k + 2 + m) 0 = xs[k + 1 + (m + 1)]'(by omega) := by rw [hg _ (by omega)]; congr 1; omega
    have g0 : xs.getD (k + 2 + m - 1) 0 = xs[k + 1 + m]'(by omega) := by rw [hg _ (by omega)]; congr 1; omega
    refine rM (fun ne => ?_) fun eq => ?_
    ·have en : hZ xs (k + 2) (m + 1) = hZ xs (k + 2) m ++ [xs[k + 1 + (m + 1)]'(by omega)] := by
      rw [n7, g1, g0, if_neg ne]
     refine bO (m + 1) rfl (by omega) (aS ?_)
     rw [Int.toNat_natCast]
     refine aB (a1.at0 rfl) ?_
     refine bO (k + 1 + (hZ xs (k + 2) m).length) rfl (by omega) (aS ?_)
     rw [← j9 (ad.add ((k + 1 + (hZ xs (k + 2) m).length) * 1))]
     refine R1.set1 qh (k + 1 + (hZ xs (k + 2) m).length) (by omega) rfl (j := 0) (by omega) (v := .int .i64 (xs[k + 1 + (m + 1)]'(by omega))) rfl (e' := xs[k + 1 + (m + 1)]'(by omega)) rfl fun h3 f3 R3 => ?_
     rw [wr (by omega) (by omega), wr (by omega) (by omega)]
     have ed : xs.drop (k + 1 + (hZ xs (k + 2) m).length) = xs[k + 1 + (hZ xs (k + 2) m).length]'(by omega) :: xs.drop (k + 1 + (hZ xs (k + 2) m).length + 1) := List.drop_eq_getElem_cons (by omega)
     refine ⟨⟨m + 1, by rw [en, List.length_append, List.length_singleton]; rfl, by omega, f1.trans f3, ?_⟩, by dsimp only; omega⟩
     rw [ed] at R3
     have es := D1 (xs.take (k + 1) ++ hZ xs (k + 2) m) (xs.drop (k + 1 + (hZ xs (k + 2) m).length + 1)) (xs[k + 1 + (hZ xs (k + 2) m).length]'(by omega)) (xs[k + 1 + (m + 1)]'(by omega))
     rw [hA] at es
     rw [es] at R3
     rw [en, List.length_append, List.length_singleton, ← List.append_assoc]; exact R3
    ·have en : hZ xs (k + 2) (m + 1) = hZ xs (k + 2) m := by
      rw [n7, g1, g0, if_pos eq, List.append_nil]
     rw [wr (by omega) (by omega)]
     refine ⟨⟨m + 1, by rw [en]; rfl, by omega, f1, by rw [en]; exact R1⟩, by dsimp only; omega⟩
   ·unfold iJ
    have hmm : m = xs.length - (k + 2) := by omega
    have R1l := R1.le
    rw [L1] at R1l
    refine Gt (by omega) (by omega) ?_
    have e3 : xs.length - (k + 1 + (hZ xs (k + 2) m).length) = (xs.drop (k + 1 + (hZ xs (k + 2) m).length)).length := by rw [List.length_drop]
    have hcl := fun K hK => BU (ty := T_t) (cs := #[false]) (K := K) R1 hK
    rw [hA, ← e3] at hcl
    refine hcl _ fun h3 f3 R3 => ⟨rfl, ?_⟩
    have ec : lP xs = xs.take (k + 1) ++ hZ xs (k + 2) m := by
     have h1 : xs.length - 1 = k + 1 + m := by omega
     unfold lP
     rw [h1]
     have h2 : hZ xs 1 (k + 1) = hZ xs 1 k := by
      rw [n7, hg _ (by omega), hg _ (by omega), if_pos, List.append_nil]
      have a : 1 + k = k + 1 := by omega
      have b : 1 + k - 1 = k := by omega
      simp only [a, b]
      exact e
     have h3 : ∀ m, hZ xs 1 (k + 1 + m) = hZ xs 1 k ++ hZ xs (k + 2) m := fun m => by
      induction m with
      | zero => rw [Nat.add_zero, h2]; simp [hZ]
      | succ m ih =>
       rw [← Nat.add_assoc, n7, ih, n7 xs (k + 2) m, List.append_assoc]
       have a : 1 + (k + 1 + m) = k + 2 + m := by omega
       rw [a]
     rw [h3, ← List.append_assoc, CE hn (by omega)]
    refine FS (by omega) ?_
    have := hk h3 (f1.trans f3) (by rw [ec]; exact R3)
    rw [ec, hA] at this; exact this
  ·rw [wr (by omega) (by omega)]
   refine ⟨⟨k + 1, by omega, by omega, rfl, fun i hi => ?_⟩, by omega⟩
   rcases Nat.lt_or_ge i k with h | h
   ·exact hn i h
   ·have : i = k := by omega
    subst this
    rw [hg _ (by omega), hg _ (by omega)]
    have a : 1 + i = i + 1 := by omega
    have b : 1 + i - 1 = i := by omega
    simp only [a, b]
    exact e
 ·have hkk : k + 1 = xs.length := by omega
  refine same (xs.take (k + 1)) ?_ (by rw [hkk, List.take_length])
  unfold lP
  rw [show xs.length - 1 = k by omega]
  exact CE hn (by omega)
end Go.Proofs.YtjmfpeiidlpngaaGreatDoor
namespace Go.Proofs.YtjmfpeiidlpngaaGreatDoor.Au
set_option linter.unusedSimpArgs false
set_option linter.unusedVariables false
set_option maxRecDepth 20000
open Go
theorem wZ (c : UInt8) (r : Nm) : lG (c :: r) = if c = 63 then 0 else lG r + 1 := by
 unfold lG AW
 rw [List.findIdx?_cons]
 by_cases h : c = 63
 ·subst h; simp
 ·rw [if_neg h]
  have : (c == 63) = false := by simpa using h
  rw [this]
  cases List.findIdx? (fun x => x == 63) r <;> simp
theorem Eb : ∀ (l : Nm) (b : UInt8), b ∈ l.take (lG l) → b ≠ 63
 | [], b, h => by simp at h
 | c :: r, b, h => by
  rw [wZ] at h
  by_cases e : c = 63
  ·rw [if_pos e] at h; simp at h
  ·rw [if_neg e, List.take_succ_cons] at h
   rcases List.mem_cons.1 h with rfl | h
   ·exact e
   ·exact Eb r b h
def emp : Nm → Nat
 | [] => 1
 | c :: _ => if c = 63 then 1 else 0
theorem mz (c : UInt8) (r : Nm) : emp (c :: r) = if c = 63 then 1 else 0 := rfl
theorem Ge (l : Nm) : emp l ≤ 1 := by unfold emp; repeat (first | split | omega)
theorem HU {l : Nm} (h : lG l ≠ 0) : emp l = 0 := by
 cases l with
 | nil => exact absurd rfl h
 | cons c r =>
  rw [wZ] at h
  rw [mz]
  by_cases e : c = 63
  ·rw [if_pos e] at h; exact absurd rfl h
  ·rw [if_neg e]
theorem GJ {l : Nm} (h : lG l = 0) : emp l = 1 := by
 cases l with
 | nil => rfl
 | cons c r =>
  rw [wZ] at h
  rw [mz]
  by_cases e : c = 63
  ·rw [if_pos e]
  ·rw [if_neg e] at h; omega
def phi (l : Nm) : Nat := l.length + emp l
theorem mq {l m : Nm} (h : m.length + 1 ≤ l.length) : phi m ≤ phi l := by have := Ge m; unfold phi; omega
theorem Eo (l : Nm) : phi (cX l) ≤ phi l := by
 cases l with
 | nil => exact Nat.le_refl _
 | cons c r =>
  unfold phi
  rw [j0]
  have : emp (cX (c :: r)) ≤ emp (c :: r) := by
   unfold cX
   rw [List.map_cons, mz, mz]
   by_cases h : c = 63
   ·subst h; rw [if_pos rfl]; split <;> omega
   ·rw [if_neg h]
    have : jJ c ≠ 63 := fun e => h (by
     unfold jJ at e
     split at e
     ·rename_i hc
      have h1 := congrArg UInt8.toNat e
      have h2 : 65 ≤ c.toNat := UInt8.le_iff_toNat_le.1 hc.1
      have h3 : c.toNat ≤ 90 := UInt8.le_iff_toNat_le.1 hc.2
      rw [UInt8.toNat_add] at h1
      have h4 : (c.toNat + (32 : UInt8).toNat) % 256 = c.toNat + 32 := by show (c.toNat + 32) % 256 = _; omega
      have h5 : (63 : UInt8).toNat = 63 := rfl
      omega
     ·exact e)
    rw [if_neg this]; omega
  omega
theorem Fa (l : Nm) : phi (nY l) ≤ phi l := by
 cases l with
 | nil => exact Nat.le_refl _
 | cons c r =>
  unfold nY
  rw [List.filter_cons]
  have := List.length_filter_le qO r
  split
  ·unfold phi; rw [mz, mz]; simp only [List.length_cons]; omega
  ·exact mq (by simp only [List.length_cons]; omega)
theorem Ir (l : Nm) : phi (rK l) ≤ phi l := by
 match l with
 | [] => exact Nat.le_refl _
 | [a] => exact Nat.le_refl _
 | [a, b] => exact Nat.le_refl _
 | c :: a :: b :: r =>
  rw [rK]
  split
  ·exact mq (by have := wv r; simp only [List.length_cons]; omega)
  ·have := wv (a :: b :: r)
   unfold phi
   rw [mz, mz]
   simp only [List.length_cons] at this ⊢
   omega
theorem Hz (l : Nm) : phi (rC (-1) l) ≤ phi l := by
 cases l with
 | nil => exact Nat.le_refl _
 | cons c r =>
  rw [rC]
  split
  ·exact mq (by have := um r (-1); simp only [List.length_cons]; omega)
  ·rw [if_pos (by omega)]
   exact mq (by have := um r (oV (bN c)); simp only [List.length_cons]; omega)
theorem Gg (l : Nm) : phi (rL 0 0 l) ≤ phi l := by
 cases l with
 | nil => exact Nat.le_refl _
 | cons c r =>
  rw [rL]
  split
  ·exact mq (by simp)
  ·split
   ·exact mq (by have := uw r 0 0; simp only [List.length_cons]; omega)
   ·rw [if_neg (by omega)]
    exact mq (by have := uw r (0 * 64 + (vK c).toNat) (0 + 6); simp only [List.length_cons]; omega)
theorem GU (k : List Nm) (s : Nm) (h : lW s = true) : cI (mV k s) ≤ cI k := by
 unfold lW at h
 unfold mV
 split
 ·exact Nat.le_refl _
 ·rename_i hn
  split
  ·exact xj k
  ·rename_i h2
   simp only [Bool.or_eq_true, decide_eq_true_eq] at h
   rcases h with (h | h) | h
   ·exact absurd (.inl h) hn
   ·exact absurd (.inr h) hn
   ·exact absurd h h2
theorem Ar (t : List Nm) (ht : t ≠ []) : cI (cL t) + (if lW (t.getLast ht) = true then 1 else 0) ≤ cI t := by
 rcases List.eq_nil_or_concat t with h | ⟨t', s, h⟩
 ·exact absurd h ht
 ·rw [List.concat_eq_append] at h
  subst h
  rw [List.getLast_concat]
  unfold cL
  rw [List.foldl_append, List.foldl_cons, List.foldl_nil, ub]
  have h1 := tT t' []
  have h0 : cI ([] : List Nm) = 0 := rfl
  split
  ·rename_i he
   have := GU (t'.foldl mV []) s he
   omega
  ·have := zG (t'.foldl mV []) s
   omega
theorem Ey {ts : List Nm} (h : ts ≠ []) : (Lib.join ts [47]).length + 1 ≤ cI ts := by
 cases ts with
 | nil => exact absurd rfl h
 | cons a r =>
  rw [Lib.join_cons]
  unfold Lib.joinTail cI
  rw [List.length_append, List.length_flatten, List.map_map, List.map_cons, List.sum_cons]
  have : (r.map (List.length ∘ fun x => [47] ++ x)).sum = (r.map fun t => t.length + 1).sum := by
   have hf : (List.length ∘ fun x : Nm => [47] ++ x) = fun t => t.length + 1 := by funext x; show ([47] ++ x : Nm).length = _; simp
   rw [hf]
  rw [this]; omega
theorem Dv (p : Nm) : (sU p).length ≤ p.length ∨ (sU p = [47]) := by
 unfold sU
 split
 ·exact .inr rfl
 rename_i hk
 refine .inl ?_
 have hj := Ey hk
 have hs := uC p
 rw [List.length_append, List.length_append]
 have a2 : (if lW ((aP p).getLast (iO p)) = true then ([47] : Nm) else []).length = if lW ((aP p).getLast (iO p)) = true then 1 else 0 := by split <;> rfl
 rw [a2]
 by_cases h1 : p.take 1 = [47]
 ·rw [if_pos h1]
  cases p with
  | nil => cases h1
  | cons c q =>
   simp only [List.take_succ_cons, List.take_zero, List.cons.injEq, and_true] at h1
   subst h1
   have e : aP (47 :: q) = [] :: aP q := by rw [aP, if_pos rfl]
   have ek : cL (aP (47 :: q)) = cL (aP q) := by rw [e]; rfl
   have el : (aP (47 :: q)).getLast (iO _) = (aP q).getLast (iO q) := by
    have : ∀ (t : List Nm) (h : t ≠ []) (hq : aP q ≠ []), t = [] :: aP q → t.getLast h = (aP q).getLast hq := fun t h hq ht => by
     subst ht; exact List.getLast_cons hq
    exact this _ _ _ e
   have h3 := Ar (aP q) (iO q)
   have h4 : cI (aP (47 :: q)) = 1 + cI (aP q) := by rw [e]; unfold cI; simp
   rw [ek] at hj ⊢
   rw [el]
   simp only [List.length_cons, List.length_nil] at *
   omega
 ·rw [if_neg h1]
  have h3 := Ar (aP p) (iO p)
  simp only [List.length_nil]
  omega
theorem Fy {ts : List Nm} {b : UInt8} (h : b ∈ Lib.join ts [47]) : b = 47 ∨ ∃ t ∈ ts, b ∈ t := by
 cases ts with
 | nil => rw [Lib.join_nil] at h; cases h
 | cons a r =>
  rw [Lib.join_cons] at h
  rcases List.mem_append.1 h with h | h
  ·exact .inr ⟨a, by simp, h⟩
  ·unfold Lib.joinTail at h
   obtain ⟨x, hx, hb⟩ := List.mem_flatten.1 h
   obtain ⟨t, ht, rfl⟩ := List.mem_map.1 hx
   rcases List.mem_append.1 hb with hb | hb
   ·exact .inl (by simpa using hb)
   ·exact .inr ⟨t, List.mem_cons_of_mem _ ht, hb⟩
theorem BC : ∀ (ss k : List Nm) (t : Nm), t ∈ ss.foldl mV k → t ∈ k ∨ t ∈ ss
 | [], k, t, h => .inl h
 | s :: ss, k, t, h => by
  rw [List.foldl_cons] at h
  rcases BC ss _ t h with h | h
  ·unfold mV at h
   split at h
   ·exact .inl h
   ·split at h
    ·exact .inl ((List.dropLast_sublist _).subset h)
    ·rcases List.mem_append.1 h with h | h
     ·exact .inl h
     ·exact .inr (by rw [List.mem_singleton.1 h]; simp)
  ·exact .inr (List.mem_cons_of_mem _ h)
theorem uA : ∀ (l : Nm) (t : Nm) (b : UInt8), t ∈ aP l → b ∈ t → b ∈ l
 | [], t, b, h, hb => by
  unfold aP at h
  rw [List.mem_singleton.1 h] at hb; cases hb
 | c :: l, t, b, h, hb => by
  unfold aP at h
  split at h
  ·rcases List.mem_cons.1 h with rfl | h
   ·cases hb
   ·exact List.mem_cons_of_mem _ (uA l t b h hb)
  ·cases hs : aP l with
   | nil => exact absurd hs (iO l)
   | cons x xs =>
    rw [hs] at h
    rcases List.mem_cons.1 h with rfl | h
    ·rcases List.mem_cons.1 hb with rfl | hb
     ·simp
     ·exact List.mem_cons_of_mem _ (uA l x b (by rw [hs]; simp) hb)
    ·exact List.mem_cons_of_mem _ (uA l t b (by rw [hs]; simp [h]) hb)
theorem EG {p : Nm} {b : UInt8} (h : b ∈ sU p) : b = 47 ∨ b ∈ p := by
 unfold sU at h
 split at h
 ·exact .inl (by simpa using h)
 ·rcases List.mem_append.1 h with h | h
  ·rcases List.mem_append.1 h with h | h
   ·split at h
    ·exact .inl (by simpa using h)
    ·cases h
   ·rcases Fy h with h | ⟨t, ht, hb⟩
    ·exact .inl h
    ·rcases BC _ _ t ht with h | h
     ·cases h
     ·exact .inr (uA p t b h hb)
  ·split at h
   ·exact .inl (by simpa using h)
   ·cases h
theorem Hv (l : Nm) : phi (As l) ≤ phi l := by
 unfold As
 have hc := CQ l
 have htl : (l.take (lG l)).length = lG l := by rw [List.length_take]; omega
 by_cases h0 : lG l = 0
 ·have e1 : sU (l.take (lG l)) = [47] := by rw [h0, List.take_zero]; rfl
  rw [e1, h0, List.drop_zero]
  have := GJ h0
  unfold phi
  rw [this]
  show (47 :: l : Nm).length + (if (47 : UInt8) = 63 then 1 else 0) ≤ _
  rw [if_neg (by decide)]
  simp
 ·have he := HU h0
  cases hp : sU (l.take (lG l)) with
  | nil => exact mq (by rw [List.nil_append, List.length_drop]; omega)
  | cons c q =>
   have hn : c ≠ 63 := by
    rcases EG (p := l.take (lG l)) (b := c) (by rw [hp]; simp) with h | h
    ·rw [h]; decide
    ·exact Eb l c h
   unfold phi
   rw [List.cons_append]
   have e0 : emp (c :: (q ++ l.drop (lG l))) = 0 := by rw [mz, if_neg hn]
   rw [e0, he, ← List.cons_append, ← hp, List.length_append, List.length_drop]
   rcases Dv (l.take (lG l)) with h | h
   ·omega
   ·rw [h]; simp only [List.length_cons, List.length_nil]; omega
theorem Jj (k : Int) (l : Nm) : phi (trL k l) ≤ phi l := by
 unfold trL
 split
 ·exact Eo l
 split
 ·exact Fa l
 split
 ·exact Ir l
 split
 ·exact Gg l
 split
 ·exact Hv l
 split
 ·exact Hz l
 ·exact Nat.le_refl _
theorem BN : ∀ (ks : List Int) (l : Nm), phi (ks.foldl (fun s k => trL k s) l) ≤ phi l
 | [], l => Nat.le_refl _
 | k :: ks, l => by rw [List.foldl_cons]; exact Nat.le_trans (BN ks _) (Jj k l)
theorem CM (ks : List Int) (l : Nm) : (jH ks l).length ≤ l.length + 1 := by
 have h1 : phi (jH ks l) ≤ phi l := BN _ l
 have h2 := Ge l
 unfold phi at h1
 omega
end Go.Proofs.YtjmfpeiidlpngaaGreatDoor.Au
namespace Go.Proofs.YtjmfpeiidlpngaaGreatDoor
set_option linter.unusedSimpArgs false
set_option linter.unusedVariables false
set_option maxRecDepth 20000
open Go
open Go.IntKind (wrap)
def pS (rs : List (List Int)) (sn : List Bool) (k : Nat) : List Int := (List.range k).flatMap fun i => if sn.getD i false = true then rs.getD i [] else []
theorem vl (rs : List (List Int)) (sn : List Bool) (k : Nat) : pS rs sn (k + 1) = pS rs sn k ++ if sn.getD k false = true then rs.getD k [] else [] := by
 unfold pS
 rw [List.range_succ, List.flatMap_append, List.flatMap_cons, List.flatMap_nil, List.append_nil]
theorem Fi {rs : List (List Int)} {sn : List Bool} {m : Nat} (h : ∀ r ∈ rs, r.length ≤ m) (k : Nat) : (pS rs sn k).length ≤ k * m := by
 induction k with
 | zero => simp [pS]
 | succ k ih =>
  rw [vl, List.length_append, Nat.succ_mul]
  have : (if sn.getD k false = true then rs.getD k [] else []).length ≤ m := by
   split
   ·rw [List.getD_eq_getElem?_getD]
    cases hk : rs[k]? with
    | none => simp
    | some r => exact h r (List.mem_of_getElem? hk)
   ·simp
  omega
def BB (g : Gr) (w : Au.Nm) : List Int := g.Always.xs ++ pS (g.Rules.xs.map (·.xs)) (gS g w) (gS g w).length
def oU (K : List Gr) (w : Au.Nm) : List Int := K.flatMap fun g => BB g w
structure GSz (g : Gr) : Prop where
 rl : g.Rules.xs.length = g.Patterns.xs.length
 pl : g.Patterns.xs.length ≤ 40
 al : g.Always.xs.length ≤ 40
 ru : ∀ r ∈ g.Rules.xs, r.xs.length ≤ 40
theorem GSz.pick {g : Gr} (z : GSz g) (sn : List Bool) {k : Nat} (hk : k ≤ 40) : (pS (g.Rules.xs.map (·.xs)) sn k).length ≤ 1600 := by
 have := Fi (rs := g.Rules.xs.map (·.xs)) (sn := sn) (m := 40) (fun r hr => by obtain ⟨s, hs, rfl⟩ := List.mem_map.1 hr; exact z.ru s hs) k
 omega
theorem GSz.sl {g : Gr} (z : GSz g) (w : Au.Nm) : (gS g w).length ≤ 40 := by rw [rH, pV]; exact z.pl
theorem FG {g : Gr} (z : GSz g) (w : Au.Nm) : (BB g w).length ≤ 2000 := by
 unfold BB
 rw [List.length_append]
 have := z.pick (gS g w) (z.sl w)
 have := z.al
 omega
theorem EF (K : List Gr) (g : Gr) (w : Au.Nm) : oU (K ++ [g]) w = oU K w ++ BB g w := by unfold oU; rw [List.flatMap_append]; simp
theorem BK {w : Au.Nm} : ∀ {K : List Gr}, (∀ g ∈ K, GSz g) → (oU K w).length ≤ K.length * 2000
 | [], _ => by simp [oU]
 | g :: K, h => by
  unfold oU
  rw [List.flatMap_cons, List.length_append, List.length_cons, Nat.succ_mul]
  have h1 := FG (h g (by simp)) w
  have h2 : (oU K w).length ≤ K.length * 2000 := BK fun x hx => h x (List.mem_cons_of_mem _ hx)
  unfold oU at h2
  omega
def trW (K : List Gr) (w : Au.Nm) : Nat := (K.map fun g => if trans g = true then (Au.jH g.Transforms.xs w).length else 0).sum
theorem Gx (K : List Gr) (g : Gr) (w : Au.Nm) : trW (K ++ [g]) w = trW K w + if trans g = true then (Au.jH g.Transforms.xs w).length else 0 := by
 unfold trW; rw [List.map_append, List.sum_append]; simp
theorem Jr (K : List Gr) (w : Au.Nm) : trW K w ≤ K.length * (w.length + 1) := by
 unfold trW
 induction K with
 | nil => simp
 | cons g K ih =>
  rw [List.map_cons, List.sum_cons, List.length_cons, Nat.succ_mul]
  have := Au.CM g.Transforms.xs w
  split <;> omega
structure vz (N : Nat) (F : Nat → Prop) (h0 : aA) (t1 s c t9 : Addr) (f : bI) (dir : Int) (bs : List Bd) (gs K : List Gr) (av pa : List Addr) (kp : Option Addr) (w : Au.Nm) (pp : Option Addr) (pc : Nat) (o : Tag) (h : aA) (sn : Nat → Gr → List Bool) (work : Int) (out : List Int) : Prop where
 fr : Fr F h0 h
 k1 : Kp (fun x => o x = 0) h fun h' => aW h' t1 [.pointer (some c)]
 R : kI N (fun y => F y ∨ h0.size ≤ y) o h s c t9 bs gs K av pa (fun _ => w) sn
 C : sL o h s c f dir (pa ++ kp.toList) (if pO K = true then w else []) work true out
 KP : zV o h t9 kp
 Rp : Row 1 adV h pp pc (pa ++ kp.toList)
 tp : ∀ y, InA pp y → o y = 4
section
variable {N : Nat} {F : Nat → Prop} {h0 : aA} {t1 s c t9 : Addr} {f : bI} {dir : Int} {bs : List Bd} {gs K : List Gr} {av pa : List Addr} {kp : Option Addr} {w : Au.Nm} {pp : Option Addr} {pc : Nat} {o : Tag} {h : aA} {sn : Nat → Gr → List Bool} {work : Int} {out : List Int}
theorem vz.own (I : vz N F h0 t1 s c t9 f dir bs gs K av pa kp w pp pc o h sn work out) : ∀ y, y < h.size → o y ≠ 0 → o y ≠ 9 → y < h0.size → F y := fun y hy h0' h9 hyh => by
 rcases I.R.fp y hy (by
  rcases Nat.lt_or_ge y N with hl | hl
  ·exact absurd (I.R.low y hl) h0'
  ·exact hl) h9 with hh | hh
 ·exact hh
 ·omega
theorem vz.outCell (I : vz N F h0 t1 s c t9 f dir bs gs K av pa kp w pp pc o h sn work out) : ∃ op oc, hcell h (c.add 15) = some (.slice op out.length oc) := by
 obtain ⟨tg, pp1, pc1, bp, bc, op, oc, ow, _⟩ := I.C
 exact ⟨op, oc, ow.cells.at (j := 15) rfl⟩
theorem vz.push [Gh] (I : vz N F h0 t1 s c t9 f dir bs gs K av pa kp w pp pc o h sn work out) {xs : List Int} {v : Value} (src : Src h 1 v xs.length (xs.flatMap Au.nf)) (hl : out.length + xs.length ≤ 2 ^ 30)
  {op : Option Addr} {oc : Nat} (hc : hcell h (c.add 15) = some (.slice op out.length oc)) {K' : aA → Prop}
  (hk : ∀ h' o', Au.Old h o o' → Fr (fun x => o x = 1 ∨ o x = 3) h h' → vz N F h0 t1 s c t9 f dir bs gs K av pa kp w pp pc o' h' sn work (out ++ xs) → K' h') :
  dN Tryz.prog .append #[bK, bK] bK #[false, false] #[.slice op out.length oc, v] h fun v h4 => ∃ t44a : Option Addr, ∃ t44n : Nat, ∃ t44c : Nat, v = .slice t44a t44n t44c ∧ (ldP h4 t1 fun t931 => (.pointer t931 : Value) = .pointer (some c)) ∧ nn (some c) fun t45 => st1 h4 (Addr.add t45 15) (.slice t44a t44n t44c) fun h5 => K' h5 := by
 have own := I.own
 obtain ⟨fr, k1, R, C, KP, Rp, tp⟩ := I
 obtain ⟨tg, pp1, pc1, bp, bc, op', oc', ow, R1, t1', R2, t2, R3, t3⟩ := C
 have e := hc.symm.trans (ow.cells.at (j := 15) rfl)
 simp only [Option.some.injEq, Value.slice.injEq, true_and] at e
 obtain ⟨rfl, rfl⟩ := e
 refine R3.appL Au.ua Tryz.underlying46 (by intro k e; cases e) (by kernel_rfl) (by decide +kernel) qh H9 src hl fun op2 oc2 h2 R3' f2 hn2 => ⟨_, _, _, rfl, ?_⟩
 have z2 := f2.size
 have k12 := k1.fr (B' := fun y => o y = 0) f2 (fun y hy h1 hh => by have := t3 y hh; omega) fun _ _ => id
 refine ⟨aV (k12.now.at0 rfl) rfl, aS ?_⟩
 have ow2 := ow.fr f2 fun hh => by have := t3 _ hh; omega
 have lc := ow.lt
 refine cK ow2 15 (by show 15 < 16; omega) rfl fun h3 f3 z3 ow3 => ?_
 have z3' := f3.size
 have Ft : Fr (fun y => InA op y ∨ y = c.block) h h3 := (f2.mono fun _ => .inl).trans (f3.mono fun _ => .inr)
 have up : ∀ y, y < h.size → Au.upT o h.size 3 y = o y := fun y hy => Au.dU hy
 have tS : ∀ y, (InA op y ∨ y = c.block) → o y = 3 ∨ o y = 1 := fun y hh => by
  rcases hh with hh | hh
  ·exact .inl (t3 y hh)
  ·exact .inr (by rw [hh]; exact tg)
 refine hk h3 (Au.upT o h.size 3) (Au.Old.up (Nat.le_refl _)) (Ft.mono fun y hy => by have := tS y hy; omega) ⟨fr.tr Ft fun y hy hh => own y (by have := fr.size; omega) (by have := tS y hh; omega) (by have := tS y hh; omega) hy, k1.tag Ft (Au.Old.up (Nat.le_refl _)) fun y hy hh => by have := tS y hh; omega,
  R.fr Ft (Au.Old.up (Nat.le_refl _)) (fun y hy hh => by have := tS y hh; omega) (fun y hy hn hne => ?_) Ft.size, ?_, KP.fr Ft (Au.Old.up (Nat.le_refl _)) (fun y hy hh => by have := tS y hh; omega), Rp.fr Ft (fun y hy hh => by have := tp y hy; have := tS y hh; omega), fun y hy => by rw [up y (Rp.lt hy)]; exact tp y hy⟩
 ·rcases Nat.lt_or_ge y h.size with hl | hl
  ·exact R.fp y hl hn (by rw [← up y hl]; exact hne)
  ·exact .inr (by have := fr.size; omega)
 ·refine ⟨by rw [up _ lc]; exact tg, pp1, pc1, bp, bc, op2, oc2, ow3, R1.fr Ft (fun y hy hh => by have := t1' y hy; have := tS y hh; omega), fun y hy => by rw [up y (R1.lt hy)]; exact t1' y hy,
   R2.fr Ft (fun y hy hh => by have := t2 y hy; have := tS y hh; omega), fun y hy => by rw [up y (R2.lt hy)]; exact t2 y hy, R3'.fr f3 (fun y hy hh => ?_), fun y hy => ?_⟩
  ·rcases hn2 y hy with h5 | h5
   ·have := t3 y h5; rw [hh, tg] at this; omega
   ·omega
  ·rcases hn2 y hy with h5 | h5
   ·rw [up y (R3.lt h5)]; exact t3 y h5
   ·exact Au.jR h5
end
def vW (F : Nat → Prop) (h : aA) (c : Addr) (work : Int) (out : List Int) : Prop :=
 ∃ s f dir pp pn pc bp bn bc op oc, Own h c (yn s f dir pp pn pc bp bn bc work true op out.length oc) iy ∧ Row 1 Au.nf h op oc out ∧ ¬ InA op c.block ∧ F c.block ∧ ∀ x, InA op x → F x
theorem vW.fr {F S : Nat → Prop} {h h' : aA} {c : Addr} {work : Int} {out : List Int} (D : vW F h c work out) (f : Fr S h h') (hs : ∀ x, S x → ¬ F x) : vW F h' c work out := by
 obtain ⟨s, fl, dir, pp, pn, pc, bp, bn, bc, op, oc, ow, R, h1, h2, h3⟩ := D
 exact ⟨s, fl, dir, pp, pn, pc, bp, bn, bc, op, oc, ow.fr f fun hh => hs _ hh h2, R.fr f fun x hx hh => hs _ hh (h3 x hx), h1, h2, h3⟩
def tW (bs : List Bd) (f : bI) (dir : Int) (x : Int) : Bool := !(atB (fun b => Au.p7 b f dir) bs x.toNat)
def u5 (bs : List Bd) (f : bI) (dir : Int) (l : List Int) : List Int := lP (Au.nv (dJ (tW bs f dir) l))
set_option maxHeartbeats 1000000 in
theorem Iw [Gh] {N : Nat} {F : Nat → Prop} {h0 : aA} {t1 s c t9 : Addr} {f : bI} {dir : Int} {bs : List Bd} {gs K : List Gr} {av pa : List Addr} {kp : Option Addr} {w : Au.Nm} {pp : Option Addr} {pc : Nat} {o : Tag} {h : aA} {sn : Nat → Gr → List Bool} {work : Int} {out : List Int}
  (I : vz N F h0 t1 s c t9 f dir bs gs K av pa kp w pp pc o h sn work out) (hb : bs.length ≤ 40) (hr : ∀ x ∈ out, 0 ≤ x ∧ x < bs.length) (hl : out.length ≤ 2 ^ 19) {Q : Value → aA → Prop}
  (hk : ∀ p pc h', Fr F h0 h' → vW (fun y => F y ∨ h0.size ≤ y) h' c work (u5 bs f dir out) → Row 1 Au.nf h' p pc (u5 bs f dir out) → (∀ x, InA p x → h.size ≤ x) → Q (.slice p (u5 bs f dir out).length pc) h') :
  eX t1 Q h := by
 have own := I.own
 obtain ⟨fr, k1, R, C, KP, Rp, tp⟩ := I
 obtain ⟨tg, pp1, pc1, bp, bc, op, oc, ow, R1, t1', R2, t2, R3, t3⟩ := C
 have lc := ow.lt
 have zf := fr.size
 have nc : ¬ InA op c.block := fun hh => by have := t3 _ hh; omega
 have k1f : ∀ {h'}, Fr (fun y => InA op y ∨ y = c.block) h h' → aW h' t1 [.pointer (some c)] := fun f => (k1.fr (B' := fun y => o y = 0) f (fun y hy h1 hh => by
  rcases hh with hh | hh
  ·have := t3 y hh; omega
  ·rw [hh, tg] at h1; omega) fun _ _ => id).now
 unfold eX
 refine aV (k1.now.at0 rfl) (aV (k1.now.at0 rfl) (aS (aC (ow.cells.at (j := 15) rfl) ?_)))
 have D : JY (.func (.func 46) #[] #[.pointer (some t1)]) op h out (tW bs f dir) := by
  intro h' f' x hx Q hQ
  have c1 := k1f (f'.mono fun _ => .inl)
  have ow' := ow.fr f' nc
  obtain ⟨h1, h2⟩ := hr x hx
  obtain ⟨n, rfl⟩ : ∃ n : Nat, x = n := ⟨x.toNat, by omega⟩
  have hn : n < bs.length := by omega
  have T := R.set.fr f' fun y hy hh => by
   rcases Nat.lt_or_ge y N with hl | hl
   ·have := R.low y hl; have := t3 y hh; omega
   ·exact hl
  obtain ⟨p1, cc1, v, cs, ok⟩ := T.rd hb
  rw [cF]
  apply px
  unfold kv
  refine aV (c1.at0 rfl) (aS (aV (ow'.cells.at0 rfl) (aS (aC (cs.at0 rfl) ?_))))
  refine dH ok n rfl hn fun ad cc okr => ?_
  rw [Int.toNat_natCast]
  refine (aB (cc.at0 rfl) (aB (cc.at rfl) (aC (cc.at rfl) (aC (cc.at rfl) (aC (cc.at rfl) (aC (cc.at rfl) (aN (cc.at rfl) (aB (cc.at rfl) (aB (cc.at rfl) (aB (cc.at rfl) (bH (cc.at rfl) (aB (cc.at rfl) (aB (cc.at rfl) (aC (cc.at rfl) (aC (cc.at rfl) (aC (cc.at rfl) (aC (cc.at rfl) (aB (cc.at rfl) (aB (cc.at rfl) (aB (cc.at rfl) (aB (cc.at rfl) (aC (cc.at rfl) (aC (cc.at rfl) (aC (cc.at rfl) (aC (cc.at rfl) ?_)))))))))))))))))))))))))
  refine aV (c1.at0 rfl) (aS ?_)
  refine (aB (ow'.cells.at rfl) (aN (ow'.cells.at rfl) (aB (ow'.cells.at rfl) (aB (ow'.cells.at rfl) (aN (ow'.cells.at rfl) (aB (ow'.cells.at rfl) (aB (ow'.cells.at rfl) (aB (ow'.cells.at rfl) (aB (ow'.cells.at rfl) ?_)))))))))
  refine aV (c1.at0 rfl) (aS (aB (ow'.cells.at (j := 10) rfl) ?_))
  refine Au.EC bs[n] f dir okr fun h3 f3 => ⟨_, rfl, ?_⟩
  have := hQ h3 f3
  unfold tW at this
  rw [Int.toNat_natCast, yr _ _ _ hn] at this
  exact this
 refine Ba R3 D (by omega) fun h8 f8 R8 => ⟨_, _, _, rfl, ?_⟩
 have kl := zN (tW bs f dir) out
 have F8 : Fr (fun y => InA op y ∨ y = c.block) h h8 := f8.mono fun _ => .inl
 refine ⟨aV ((k1f F8).at0 rfl) rfl, aS ?_⟩
 have ow8 := ow.fr f8 nc
 refine cK ow8 15 (by show 15 < 16; omega) rfl fun h9 f9 z9 ow9 => ?_
 have F9 := F8.trans (f9.mono fun y hy => .inr hy)
 refine aV ((k1f F9).at0 rfl) (aS (aC (ow9.cells.at (j := 15) rfl) ?_))
 have R9 := R8.fr f9 fun y hy hh => nc (by rw [← hh]; exact hy)
 refine Au.DF R9 (by omega) fun h10 f10 R10 => ⟨rfl, ?_⟩
 have F10 := F9.trans (f10.mono fun y hy => .inl hy)
 have ow10 := ow9.fr f10 nc
 have hsl : (Au.nv (dJ (tW bs f dir) out)).length = (dJ (tW bs f dir) out).length := List.length_mergeSort _
 refine aV ((k1f F10).at0 rfl) (aV ((k1f F10).at0 rfl) (aS (aC (ow10.cells.at (j := 15) rfl) ?_)))
 have cmp := fun (Q : Value → aA → Prop) => EH (Q := Q) R10 (by omega)
 rw [hsl] at cmp
 refine cmp _ fun h11 f11 R11 => ⟨_, _, _, rfl, ?_⟩
 have F11 := F10.trans (f11.mono fun y hy => .inl hy)
 have ow11 := ow10.fr f11 nc
 refine ⟨aV ((k1f F11).at0 rfl) rfl, aS ?_⟩
 refine cK ow11 15 (by show 15 < 16; omega) rfl fun h12 f12 z12 ow12 => ?_
 have F12 := F11.trans (f12.mono fun y hy => .inr hy)
 have R12 := R11.fr f12 fun y hy hh => nc (by rw [← hh]; exact hy)
 unfold fA
 refine aV ((k1f F12).at0 rfl) (aS (aC (ow12.cells.at (j := 15) rfl) ?_))
 have hcl : (lP (Au.nv (dJ (tW bs f dir) out))).length ≤ out.length + 1 := by
  unfold lP
  rw [List.length_append, List.length_take]
  have := Ce (Au.nv (dJ (tW bs f dir) out)) 1 ((Au.nv (dJ (tW bs f dir) out)).length - 1)
  omega
 have hin : ∀ x ∈ lP (Au.nv (dJ (tW bs f dir) out)), kOk .i64 h12 x := fun x hx => by
  have h1 : x ∈ Au.nv (dJ (tW bs f dir) out) := by
   unfold lP at hx
   rcases List.mem_append.1 hx with hx | hx
   ·exact List.mem_of_mem_take hx
   ·unfold hZ at hx
    obtain ⟨k, hk, e⟩ := List.mem_filterMap.1 hx
    split at e
    ·cases e
    ·simp only [Option.some.injEq] at e
     rw [List.mem_range] at hk
     rw [uz _ _ (by omega)] at e
     rw [← e]; exact List.getElem_mem _
  have h2 : x ∈ dJ (tW bs f dir) out := (List.mergeSort_perm _ _).mem_iff.1 h1
  have h3 := hr x ((List.mem_filter.1 h2).1)
  exact Fp.CI (by omega) (by omega)
 have os : bF 1 (fun n : Int => [Value.int .i64 n]) (kOk .i64) h12 ⟨op, oc, lP (Au.nv (dJ (tW bs f dir) out))⟩ := Row.sl (vals := fun n : Int => [Value.int .i64 n]) R12 (fun _ => rfl) (by omega) (by omega) hin
 refine x9 ⟨op, oc, lP (Au.nv (dJ (tW bs f dir) out))⟩ os (by show (lP _).length ≤ 2 ^ 20; omega) fun p' c' h13 f13 R13 hn13 => ⟨_, _, _, rfl, ?_⟩
 have z12' := F12.size
 refine hk p' c' h13 ((fr.tr F12 fun y hy hh => ?_).trans (f13.mono fun _ => False.elim)) ⟨s, f, dir, pp1, _, pc1, bp, _, bc, op, oc, ow12.fr0 f13, R12.fr0 f13, nc, ?_, fun x hx => ?_⟩ R13 fun x hx => by have := hn13 x hx; omega
 ·rcases hh with hh | hh
  ·have h3 := t3 y hh; exact own y (by omega) (by omega) (by omega) hy
  ·rw [hh] at hy ⊢; exact own _ lc (by omega) (by omega) hy
 ·rcases Nat.lt_or_ge c.block h0.size with hl | hl
  ·exact .inl (own _ lc (by omega) (by omega) hl)
  ·exact .inr hl
 ·rcases Nat.lt_or_ge x h0.size with hl | hl
  ·have h3 := t3 x hx; exact .inl (own _ (R3.lt hx) (by omega) (by omega) hl)
  ·exact .inr hl
end Go.Proofs.YtjmfpeiidlpngaaGreatDoor
namespace Go.Proofs.YtjmfpeiidlpngaaGreatDoor
set_option linter.unusedSimpArgs false
set_option linter.unusedVariables false
set_option maxRecDepth 20000
open Go
open Go.IntKind (wrap)
def snK (w : Au.Nm) (k i : Nat) (g : Gr) : List Bool := if i < k then gS g w else ip g w
section
variable {N : Nat} {F : Nat → Prop} {h0 : aA} {t1 s c t9 : Addr} {f : bI} {dir : Int} {bs : List Bd} {gs K : List Gr} {av pa : List Addr} {kp : Option Addr} {w : Au.Nm} {pp : Option Addr} {pc : Nat} {o : Tag} {h : aA} {work : Int} {out : List Int}
set_option maxHeartbeats 1000000 in
theorem II [Gh] {k : Nat} (hkK : k < K.length) (hka : k < av.length) (hkp : k < pa.length) (I : vz N F h0 t1 s c t9 f dir bs gs K av pa kp w pp pc o h (snK w (k + 1)) work (out ++ K[k].Always.xs)) (z : GSz K[k]) (hl : out.length ≤ 2 ^ 18)
  {q : Option Addr} {qc : Nat} (hq : hcell h (pa[k].add 1) = some (.slice q (gS K[k] w).length qc)) {pga : Option Addr} {pgn pgc : Nat} {t21 t22 : Int} {Q : Value → aA → Prop} {Kn1 : Int → aA → Prop}
  (hk : ∀ h' o', vz N F h0 t1 s c t9 f dir bs gs K av pa kp w pp pc o' h' (snK w (k + 1)) work (out ++ BB K[k] w) → Kn1 (wrap .i64 (t22 + 1)) h') :
  aJ (fun (s : Int) h Kn => cV t1 (some pa[k]) pga pgn pgc t21 t22 q (gS K[k] w).length qc (((gS K[k] w).length : Nat) : Int) Q Kn1 s h Kn) 0 h := by
 have P := I.R.part k hkK hka hkp
 have esn : snK w (k + 1) k K[k] = gS K[k] w := if_pos (by omega)
 rw [esn] at P
 obtain ⟨tg, ln, q', qc', fd, en, au, sg, ws, kk, Rq, tq, G, _⟩ := P
 have e := hq.symm.trans (kk.now.at (j := 1) rfl)
 simp only [Option.some.injEq, Value.slice.injEq, true_and] at e
 obtain ⟨rfl, rfl⟩ := e
 have zl := z.sl w
 refine aJ.mk (fun st h' => ∃ (m : Nat) (o' : Tag), st = (m : Int) ∧ m ≤ (gS K[k] w).length ∧ vz N F h0 t1 s c t9 f dir bs gs K av pa kp w pp pc o' h' (snK w (k + 1)) work (out ++ K[k].Always.xs ++ pS (K[k].Rules.xs.map (·.xs)) (gS K[k] w) m) ∧
   Kp (fun x => o' x = 0) h' (fun h'' => aW h'' pa[k] [.pointer (some av[k]), .slice q (gS K[k] w).length qc, fd, en]) ∧ Row 1 bbV h' q qc (gS K[k] w) ∧ (∀ x, InA q x → o' x = 10 + 2 * k) ∧ GpX N h' av[k] K[k] au sg ws)
  (fun st _ => (gS K[k] w).length - st.toNat) ⟨0, o, rfl, by omega, by simpa [pS] using I, kk, Rq, tq, G⟩ ?_
 rintro st h1 ⟨m, o', rfl, hm, I1, k1, R1, tq1, G1⟩
 unfold cV
 refine ifD (fun hlt => ?_) (fun hge => ?_)
 ·have hm' : m < (gS K[k] w).length := by omega
  refine R1.idx xM (by omega) m rfl hm' fun ad cc => ?_
  try rw [Int.toNat_natCast]
  refine aN (cc.at0 rfl) ?_
  have eg : (gS K[k] w).getD m false = (gS K[k] w)[m] := by rw [List.getD_eq_getElem?_getD, List.getElem?_eq_getElem hm']; rfl
  refine ifB (fun es => ?_) fun es => ?_
  ·obtain ⟨op, oc, hc⟩ := I1.outCell
   refine aV (I1.k1.now.at0 rfl) (aV (I1.k1.now.at0 rfl) (aS (aC hc (aS (aV (k1.now.at0 rfl) (aS ?_))))))
   have gc := rR G1.1.now.1
   refine aC (gc.at (j := 3) rfl) ?_
   have hmr : m < K[k].Rules.xs.length := by
    rw [z.rl, ← pV, ← rH K[k] w]; exact hm'
   refine dH G1.1.now.2.k3 m rfl hmr fun ad2 cc2 ok2 => ?_
   try rw [Int.toNat_natCast]
   refine aC (cc2.at0 rfl) ?_
   have hmx : K[k].Rules.xs[m].xs.length ≤ 40 := z.ru _ (List.getElem_mem hmr)
   have ep : pS (K[k].Rules.xs.map (·.xs)) (gS K[k] w) (m + 1) = pS (K[k].Rules.xs.map (·.xs)) (gS K[k] w) m ++ K[k].Rules.xs[m].xs := by
    rw [vl, eg, es, if_pos rfl, List.getD_eq_getElem?_getD, List.getElem?_map, List.getElem?_eq_getElem hmr]; rfl
   have hp := z.pick (gS K[k] w) (k := m) (by omega)
   have hal := z.al
   refine I1.push (xs := K[k].Rules.xs[m].xs) (ok2.src fun _ => rfl) (by rw [List.length_append, List.length_append]; omega) hc fun h2 o2 ho f2 I2 => ?_
   have z2 := f2.size
   rw [wr (by omega) (by omega)]
   refine ⟨⟨m + 1, o2, by omega, by omega, by rw [ep, ← List.append_assoc]; exact I2, k1.tag f2 ho fun y hy hh => by omega, R1.fr f2 fun y hy hh => by have := tq1 y hy; omega, fun y hy => by rw [ho y (R1.lt hy)]; exact tq1 y hy, G1.fr f2 fun y hy hh => ?_⟩, by omega⟩
   rcases Nat.lt_or_ge y N with hl | hl
   ·have := I1.R.low y hl; omega
   ·exact hl
  ·have ep : pS (K[k].Rules.xs.map (·.xs)) (gS K[k] w) (m + 1) = pS (K[k].Rules.xs.map (·.xs)) (gS K[k] w) m := by
    rw [vl, eg, es, if_neg (by decide), List.append_nil]
   rw [wr (by omega) (by omega)]
   exact ⟨⟨m + 1, o', by omega, by omega, by rw [ep]; exact I1, k1, R1, tq1, G1⟩, by omega⟩
 ·have : m = (gS K[k] w).length := by omega
  subst this
  refine hk h1 o' ?_
  unfold BB
  rw [← List.append_assoc]; exact I1
end
set_option maxHeartbeats 2000000 in
theorem yq [Gh] {N : Nat} {F : Nat → Prop} {h : aA} {s c : Addr} {f : bI} {dir : Int} {bs : List Bd} {gs K : List Gr} {w : Au.Nm} {work : Int} (S : tV N F h s c f dir bs gs K w work false []) (hb : bs.length ≤ 40) (hK : K.length ≤ 40) (hx : w.length ≤ 2 ^ 15) (hw : 0 ≤ work ∧ work ≤ 2 ^ 30)
  (hz : ∀ g ∈ K, GSz g) (hr : ∀ x ∈ oU K w, 0 ≤ x ∧ x < bs.length) {Q : Value → aA → Prop}
  (hk : ∀ p pc h', Fr F h h' → vW (fun y => F y ∨ h.size ≤ y) h' c (work + (trW K w : Nat)) (u5 bs f dir (oU K w)) → Row 1 Au.nf h' p pc (u5 bs f dir (oU K w)) → (∀ x, InA p x → h.size ≤ x) → Q (.slice p (u5 bs f dir (oU K w)).length pc) h') :
  aD Tryz.prog eO #[.pointer (some c)] h Q := by
 apply qs
 unfold lz
 obtain ⟨o, t9, av, pa, kp, R, C, KP, hkp⟩ := S
 obtain ⟨tg, pp, pc, bp, bc, op, oc, ow, R1, t1', R2, t2, R3, t3⟩ := C
 refine aZ (vs := [.pointer (some c)]) fun t1 h1 f1 e1 o1 => ?_
 have z1 := f1.size
 have ow1 := ow.fr0 f1
 have lc := ow.lt
 have l1 := o1.lt
 refine aV (o1.cells.at0 rfl) (zk (aV (o1.cells.at0 rfl) (aS (aN (ow1.cells.at (j := 14) rfl) ?_))))
 rw [if_pos (by rfl)]
 refine aV (o1.cells.at0 rfl) (aS ?_)
 refine cK ow1 14 (by show 14 < 16; omega) rfl fun h2 f2 z2 ow2 => ?_
 have z2' := f2.size
 have o12 := o1.fr f2 (by omega)
 refine aV (o12.cells.at0 rfl) (aS (aC (ow2.cells.at (j := 11) rfl) ?_))
 have lp := R.lp
 have la := R.la
 have hkl : kp.toList.length ≤ 1 := by cases kp <;> simp
 have hLl : (pa ++ kp.toList).length ≤ 41 := by rw [List.length_append]; omega
 have hLk : (pa ++ kp.toList).length = K.length + kp.toList.length := by rw [List.length_append]; omega
 have lpp : ∀ y, InA pp y → y < h.size := fun y hy => R1.lt hy
 have up : ∀ y, y < h.size → Au.upT o h.size 0 y = o y := fun y hy => Au.dU hy
 have Ft : Fr (fun y => y = c.block) h h2 := (f1.mono fun _ => False.elim).trans f2
 have own0 : ∀ y, y < h.size → o y ≠ 0 → o y ≠ 9 → F y := fun y hy h0' h9 => R.fp y hy (by
  rcases Nat.lt_or_ge y N with hl | hl
  ·exact absurd (R.low y hl) h0'
  ·exact hl) h9
 have I0 : vz N F h t1 s c t9 f dir bs gs K av pa kp w pp pc (Au.upT o h.size 0) h2 (snK w 0) work [] := by
  refine ⟨Ft.mono fun y hy => ?_, ?_, (R.fr (F' := fun y => F y ∨ h.size ≤ y) Ft (Au.Old.up (Nat.le_refl _)) (fun y hy hh => by rw [hh, tg]; omega) (fun y hy hn hne => ?_) Ft.size).ext fun i hi => ⟨rfl, ?_⟩, ?_, KP.fr Ft (Au.Old.up (Nat.le_refl _)) (fun y hy hh => by rw [hh, tg]; omega), R1.fr Ft (fun y hy hh => by have := t1' y hy; rw [hh, tg] at this; omega), fun y hy => by rw [up y (lpp y hy)]; exact t1' y hy⟩
  ·rw [hy]; exact own0 _ lc (by omega) (by omega)
  ·exact sq o12 (Au.jR (by omega))
  ·rcases Nat.lt_or_ge y h.size with hl | hl
   ·exact .inl (R.fp y hl hn (by rw [← up y hl]; exact hne))
   ·exact .inr hl
  ·show snK w 0 i K[i] = ip K[i] w
   exact if_neg (by omega)
  ·refine ⟨by rw [up _ lc]; exact tg, pp, pc, bp, bc, op, oc, ow2, R1.fr Ft (fun y hy hh => by have := t1' y hy; rw [hh, tg] at this; omega), fun y hy => by rw [up y (R1.lt hy)]; exact t1' y hy,
    R2.fr Ft (fun y hy hh => by have := t2 y hy; rw [hh, tg] at this; omega), fun y hy => by rw [up y (R2.lt hy)]; exact t2 y hy, R3.fr Ft (fun y hy hh => by have := t3 y hy; rw [hh, tg] at this; omega), fun y hy => by rw [up y (R3.lt hy)]; exact t3 y hy⟩
 have trb : ∀ m, trW (K.take m) w ≤ 40 * (2 ^ 15 + 1) := fun m => Nat.le_trans (Jr _ _) (Nat.mul_le_mul (by rw [List.length_take]; omega) (by omega))
 have outb : ∀ m, (oU (K.take m) w).length ≤ 40 * 2000 := fun m => Nat.le_trans (BK fun g hg => hz g (List.mem_of_mem_take hg)) (Nat.mul_le_mul_right _ (by rw [List.length_take]; omega))
 refine aJ.mk (fun st h' => ∃ (k : Nat) (o : Tag), st = (k : Int) ∧ k ≤ (pa ++ kp.toList).length ∧ vz N F h t1 s c t9 f dir bs gs K av pa kp w pp pc o h' (snK w k) (work + (trW (K.take k) w : Nat)) (oU (K.take k) w))
  (fun st _ => (pa ++ kp.toList).length - st.toNat) ⟨0, Au.upT o h.size 0, rfl, by omega, ?_⟩ ?_
 ·have e : work + ((trW (K.take 0) w : Nat) : Int) = work := by simp [trW]
  rw [e]; exact I0
 rintro st h3 ⟨k, o3, rfl, hkl', I⟩
 unfold ix
 have zI := I.fr.size
 refine ifD (fun hlt => ?_) (fun hge => ?_)
 ·have hi : k < (pa ++ kp.toList).length := by omega
  refine I.Rp.idx uo (by omega) k rfl hi fun ad cc => ?_
  try rw [Int.toNat_natCast]
  refine aV (cc.at0 rfl) (aS ?_)
  by_cases hkK : k < K.length
  ·have hka : k < av.length := by omega
   have hkp' : k < pa.length := by omega
   have e1 : (pa ++ kp.toList)[k] = pa[k] := List.getElem_append_left (by omega)
   rw [e1]
   have P := I.R.part k hkK hka hkp'
   have esn : snK w k k K[k] = ip K[k] w := if_neg (by omega)
   rw [esn] at P
   obtain ⟨en, hen⟩ := P.en
   refine Bs hen ?_
   have own := I.own
   have I' := I
   obtain ⟨fr, k1, R, C, KP, Rp, tp⟩ := I
   obtain ⟨tg, pp1, pc1, bp, bc, op, oc, ow, R1, t1', R2, t2, R3, t3⟩ := C
   have hbuf : trans K[k] = true → (if pO K = true then w else []) = w := fun ht => by
    rw [EQ, if_pos (List.any_eq_true.2 ⟨K[k], List.getElem_mem hkK, ht⟩)]
   refine P.fin R.low ow tg R.k9 R2 t2 hbuf hx (by have := trb k; omega) (K := fun h' => _) hen (fun h' hh => ⟨rfl, hh⟩) fun h4 f4 ow4 P4 => ?_
   have z4 := f4.size
   have eT : K.take (k + 1) = K.take k ++ [K[k]] := by rw [List.take_append_getElem]
   have ew : work + ((trW (K.take k) w : Nat) : Int) + (if trans K[k] = true then ((Au.jH K[k].Transforms.xs w).length : Int) else 0) = work + ((trW (K.take (k + 1)) w : Nat) : Int) := by
    rw [eT, Gx]
    split <;> omega
   rw [ew] at ow4
   have I4 : vz N F h t1 s c t9 f dir bs gs K av pa kp w pp pc o3 h4 (snK w (k + 1)) (work + (trW (K.take (k + 1)) w : Nat)) (oU (K.take k) w) := by
    refine ⟨fr.tr f4 fun y hy hh => own y (by omega) (by omega) (by omega) hy, k1.tag f4 (Au.Old.refl _ _) fun y hy hh => by omega, R.upd f4 (Au.Old.refl _ _) k (fun y hy hh => by omega) (fun y hy hn hne => ?_) (fun i g hik => ⟨rfl, ?_⟩) (fun h1 h2 h3 => ?_), ?_, KP.fr f4 (Au.Old.refl _ _) fun y hy hh => by omega, Rp.fr f4 fun y hy hh => by have := tp y hy; omega, tp⟩
    ·rcases Nat.lt_or_ge y h3.size with hl | hl
     ·exact R.fp y hl hn hne
     ·exact .inr (by omega)
    ·unfold snK
     by_cases hik2 : i < k
     ·rw [if_pos hik2, if_pos (by omega)]
     ·rw [if_neg hik2, if_neg (by omega)]
    ·have : snK w (k + 1) k K[k] = gS K[k] w := if_pos (by omega)
     rw [this]; exact P4
    ·exact ⟨tg, pp1, pc1, bp, bc, op, oc, ow4, R1.fr f4 (fun y hy hh => by have := t1' y hy; omega), t1', R2.fr f4 (fun y hy hh => by have := t2 y hy; omega), t2, R3.fr f4 (fun y hy hh => by have := t3 y hy; omega), t3⟩
   obtain ⟨op4, oc4, hc4⟩ := I4.outCell
   obtain ⟨tgp, lnp, q, qc, fd', en', au, sg, ws, kk, Rq, tq, G, _⟩ := P4
   refine aV (I4.k1.now.at0 rfl) (aV (I4.k1.now.at0 rfl) (aS (aC hc4 (aS (aV (kk.now.at0 rfl) (aS ?_))))))
   have gc := rR G.1.now.1
   refine aC (gc.at (j := 4) rfl) ?_
   have z := hz _ (List.getElem_mem hkK)
   have hal := z.al
   have hob := outb k
   refine I4.push (xs := K[k].Always.xs) (G.1.now.2.k4.src fun _ => rfl) (by omega) hc4 fun h5 o5 ho f5 I5 => aS ?_
   have kk5 := kk.tag f5 ho fun y hy hh => by omega
   refine aC (kk5.now.at (j := 1) rfl) ?_
   refine II hkK hka hkp' I5 z (by omega) (kk5.now.at (j := 1) rfl) fun h6 o6 I6 => ?_
   rw [wr (by omega) (by omega)]
   refine ⟨⟨k + 1, o6, by omega, by omega, ?_⟩, by omega⟩
   rw [eT, EF, ← eT]; exact I6
  ·obtain ⟨a, rfl⟩ : ∃ a, kp = some a := by
    cases kp with
    | none => simp at hi; omega
    | some a => exact ⟨a, rfl⟩
   have hl1 : (pa ++ (some a : Option Addr).toList).length = pa.length + 1 := by simp
   have hk0 : k = K.length := by omega
   have e1 : (pa ++ (some a : Option Addr).toList)[k] = a := by
    rw [List.getElem_append_right (by omega)]; simp
   rw [e1]
   obtain ⟨t90, kk⟩ := I.KP a rfl
   refine Bs (kk.now.1.at (j := 3) rfl) ?_
   unfold I3
   rw [cF]
   apply tw
   unfold ny
   refine ⟨rfl, ?_⟩
   obtain ⟨op4, oc4, hc4⟩ := I.outCell
   refine aV (I.k1.now.at0 rfl) (aV (I.k1.now.at0 rfl) (aS (aC hc4 (aS (aV (kk.now.1.at0 rfl) (aS (aC (kk.now.2.at (j := 4) rfl) ?_)))))))
   have hob := outb k
   refine I.push (xs := []) (Src.nil 0) (by show _ + 0 ≤ _; omega) hc4 fun h5 o5 ho f5 I5 => aS ?_
   have kk5 := kk.tag f5 ho fun y hy hh => by omega
   refine aC (kk5.now.1.at (j := 1) rfl) ?_
   have eT : K.take (k + 1) = K.take k := by rw [ul _ _ (by omega), ul _ _ (by omega)]
   refine aJ.mk (fun st h' => st = 0 ∧ h' = h5) (fun _ _ => 0) ⟨rfl, rfl⟩ ?_
   rintro st h' ⟨rfl, e⟩
   subst e
   unfold cV
   rw [if_neg (by decide), wr (by omega) (by omega)]
   refine ⟨⟨k + 1, o5, by omega, by omega, ?_⟩, by omega⟩
   rw [List.append_nil] at I5
   rw [eT]
   refine ⟨I5.fr, I5.k1, I5.R.ext fun i hi => ⟨rfl, ?_⟩, I5.C, I5.KP, I5.Rp, I5.tp⟩
   unfold snK
   rw [if_pos (by omega), if_pos (by omega)]
 ·have hke : k = (pa ++ kp.toList).length := by omega
  have eT : K.take k = K := ul _ _ (by omega)
  rw [eT] at I
  have hob := outb k
  rw [eT] at hob
  exact Iw I hb hr (by omega) fun p pc h' f' D Rr hn => hk p pc h' f' D Rr fun x hx => by have := hn x hx; omega
theorem C6 [Gh] {F : Nat → Prop} {h : aA} {c : Addr} {work : Int} {out : List Int} (D : vW F h c work out) {Q : Value → aA → Prop} (hk : Q (.int .i64 work) h) : aD Tryz.prog kS #[.pointer (some c)] h Q := by
 apply uN
 unfold pe
 obtain ⟨s, f, dir, pp, pn, pc, bp, bn, bc, op, oc, ow, _⟩ := D
 exact zk (aS (aB (ow.cells.at (j := 13) rfl) hk))
theorem EB [Gh] {N : Nat} {h0 : aA} {s : Addr} {bs : List Bd} {gs : List Gr} (T0 : vt N h0 s bs gs) (hb : bs.length ≤ 40) (hg : gs.length ≤ 40) (hz : ∀ g ∈ gs, GSz g) (f : bI) (b : jb) (hx : b.Data.length ≤ 2 ^ 15)
  (hr : ∀ x ∈ oU (gs.filter fun g => g.Kind = b.Kind) b.Data, 0 ≤ x ∧ x < bs.length) {Q : Value → aA → Prop}
  (hk : ∀ p pc h', Fr (fun _ => False) h0 h' → Row 1 Au.nf h' p pc (u5 bs f b.Dir (oU (gs.filter fun g => g.Kind = b.Kind) b.Data)) → (∀ x, InA p x → h0.size ≤ x) → Q (.slice p (u5 bs f b.Dir (oU (gs.filter fun g => g.Kind = b.Kind) b.Data)).length pc) h') :
  aD Tryz.prog iK #[.pointer (some s), .agg f.vals.toArray, .agg b.vals.toArray] h0 Q := by
 apply qU
 unfold lK
 refine aZ (vs := f.vals) fun t4 h1 f1 e1 o4 => aZ (vs := b.vals) fun t5 h2 f2 e2 o5 => ?_
 have o42 := o4.fr0 f2
 refine (aB (o42.cells.at0 rfl) (aN (o42.cells.at rfl) (aB (o42.cells.at rfl) (aB (o42.cells.at rfl) (aN (o42.cells.at rfl) (aB (o42.cells.at rfl) (aB (o42.cells.at rfl) (aB (o42.cells.at rfl) (aB (o42.cells.at rfl) ?_)))))))))
 refine aB (o5.cells.at0 rfl) (aB (o5.cells.at (j := 1) rfl) ?_)
 have F2 := f1.trans f2
 have z1 := f1.size; have z2 := f2.size
 have Klen : (gs.filter fun g => g.Kind = b.Kind).length ≤ 40 := Nat.le_trans (List.length_filter_le _ _) hg
 refine wm (T0.fr0 F2) hg (fun g hgg => by have := (hz g hgg).pl; omega) f b.Kind b.Dir fun c h3 f3 S3 hc3 => ⟨_, rfl, ?_⟩
 have z3 := f3.size
 have o53 := o5.fr0 f3
 refine bH (o53.cells.at (j := 3) rfl) ?_
 refine CX S3 b.Data (by simp; omega) Klen (by omega) fun h4 f4 S4 => ⟨rfl, ?_⟩
 have z4 := f4.size
 rw [List.nil_append] at S4
 have hnd := Hb (gs.filter fun g => g.Kind = b.Kind)
 have hw : nD (gs.filter fun g => g.Kind = b.Kind) * b.Data.length ≤ 40 * 2 ^ 15 := Nat.mul_le_mul (by omega) hx
 refine yq S4 hb Klen hx (by omega) (fun g hgg => hz g (List.mem_filter.1 hgg).1) hr fun p pc h5 f5 D5 R5 hn5 => ⟨_, _, _, rfl, ?_⟩
 refine hk p pc h5 (((F2.trans f3).tr f4 fun y hy hh => by omega).tr f5 fun y hy hh => ?_) R5 fun x hx => by have := hn5 x hx; omega
 rcases hh with hh | hh <;> omega
end Go.Proofs.YtjmfpeiidlpngaaGreatDoor
namespace Go.Proofs.YtjmfpeiidlpngaaGreatDoor
set_option linter.unusedSimpArgs false
set_option linter.unusedVariables false
set_option maxRecDepth 20000
open Go
open Go.IntKind (wrap)
def Ky (h : aA) (s : Addr) (l : Sl Bd) : Prop := aW h s [.slice l.p l.xs.length l.cap] ∧ bF 25 aE.vals aE.ok h l
section
variable {h : aA} {Q : Value → aA → Prop}
theorem yR [Gh] (l : Sl Bd) (ok : bF 25 aE.vals aE.ok h l) (hl : l.xs.length ≤ 40)
  (hbad : ¬ (l.xs.map nj).Nodup → Q (.tuple #[.pointer none, .int .i64 7]) h)
  (hk : ∀ s h', Fr (fun _ => False) h h' → Ky h' s l → s.block = h.size → (l.xs.map nj).Nodup → Q (.tuple #[.pointer (some s), .int .i64 0]) h') :
  aD Tryz.prog nL #[.slice l.p l.xs.length l.cap] h Q := by
 apply xo
 unfold sY
 refine ifD (fun e => by omega) fun _ => ?_
 have bad : ∀ (i k : Nat) (hi : i < l.xs.length) (hk : k < i), nj l.xs[i] = nj (l.xs[k]'(by omega)) → Q (.tuple #[.pointer none, .int .i64 7]) h := fun i k hi hk e => hbad fun nd => by
  have := (List.getElem_inj (h₀ := by simpa using hi) (h₁ := by rw [List.length_map]; omega) nd (i := i) (j := k)).1 (by rw [List.getElem_map, List.getElem_map]; exact e)
  omega
 refine aJ.go (fun n st h' => ∃ i : Nat, st = (i : Int) ∧ i ≤ l.xs.length ∧ n = l.xs.length - i ∧ h' = h ∧ ((l.xs.take i).map nj).Nodup) l.xs.length ⟨0, rfl, by omega, rfl, rfl, List.nodup_nil⟩ ?_
 rintro n - h2 ⟨i, rfl, hi, rfl, rfl, nd⟩ Kn hK
 unfold nQ
 refine ifD (fun hlt => ?_) (fun hge => ?_)
 ·have hi' : i < l.xs.length := by omega
  refine aJ.go (fun n st h' => ∃ k : Nat, st = (k : Int) ∧ k ≤ i ∧ n = i - k ∧ h' = h2 ∧ ∀ j (hj : j < k) (hjl : j < l.xs.length), nj l.xs[i] ≠ nj l.xs[j]) i ⟨0, rfl, by omega, rfl, rfl, fun j hj => absurd hj (Nat.not_lt_zero _)⟩ ?_
  rintro n - h3 ⟨k, rfl, hki, rfl, rfl, hn⟩ Kn2 hK2
  unfold nT
  refine ifD (fun hlt2 => ?_) (fun hge2 => ?_)
  ·have hk' : k < l.xs.length := by omega
   refine dH ok i rfl hi' fun ad cc _ => ?_
   try rw [Int.toNat_natCast]
   refine aB (cc.at (j := 7) rfl) ?_
   refine dH ok k rfl hk' fun ad2 cc2 _ => ?_
   try rw [Int.toNat_natCast]
   refine aB (cc2.at (j := 7) rfl) ?_
   refine ifE (fun e => bad i k hi' (by omega) e) fun e => ?_
   rw [wr (by omega) (by omega)]
   refine hK2 (i - (k + 1)) _ _ (by omega) ⟨k + 1, rfl, by omega, rfl, rfl, fun j hj hjl => ?_⟩
   rcases Nat.lt_or_ge j k with h | h
   ·exact hn j h hjl
   ·have : j = k := by omega
    subst this; exact e
  ·rw [wr (by omega) (by omega)]
   refine hK (l.xs.length - (i + 1)) _ _ (by omega) ⟨i + 1, rfl, by omega, rfl, rfl, ?_⟩
   rw [show l.xs.take (i + 1) = l.xs.take i ++ [l.xs[i]] by rw [List.take_append_getElem], List.map_append, List.nodup_append]
   refine ⟨nd, by simp, fun a ha b hb => ?_⟩
   rw [List.map_singleton, List.mem_singleton] at hb
   subst hb
   obtain ⟨x, hx, rfl⟩ := List.mem_map.1 ha
   obtain ⟨j, hj, rfl⟩ := List.getElem_of_mem hx
   rw [List.length_take] at hj
   rw [List.getElem_take]
   exact fun e => hn j (by omega) (by omega) e.symm
 ·have : i = l.xs.length := by omega
  subst this
  rw [List.take_length] at nd
  unfold nM
  refine aZ (vs := [.slice l.p l.xs.length l.cap]) fun s h3 f3 e3 o3 => ?_
  exact hk s h3 f3 ⟨o3.cells, bF.fr0 aE.ok_fr f3 ok⟩ e3 nd
variable {s : Addr} {l : Sl Bd}
def cOf (p : List UInt8 × Bool) : Au.Cn := ⟨p.1, p.2, false, false, 0, 0, false⟩
def DT (c : Au.Cn) (d : Au.Nm) : Bool := (List.range (d.length + 1)).any fun p : Nat => Au.atB c d p
def FO (b : Bd) (f : bI) (bf : jb) : Bool :=
 decide (b.Rule.Kind = bf.Kind) && (Au.p7 b f bf.Dir && match Fp.vq b.Rule.Contents.xs with | none => true | some p => DT (cOf p) (Au.jH b.Rule.Transforms.xs bf.Data))
theorem EI (b : Bd) (f : bI) (bf : jb) : FO (wipe b) f bf = FO b f bf := rfl
theorem BD {cs : List Fp.Cn} {m : Nat} (sh : ∀ c ∈ cs, c.Pattern.length ≤ m) {p : List UInt8 × Bool} (hp : Fp.vq cs = some p) : p.1.length ≤ m := by
 unfold Fp.vq at hp
 split at hp
 ·cases hp
 ·rename_i hneg
  have hlt := Fp.sv cs
  simp only [Option.some.injEq] at hp
  subst hp
  have hk : (Fp.gJ cs).toNat < cs.length := by omega
  have e : cs.getD (Fp.gJ cs).toNat Fp.noC = cs[(Fp.gJ cs).toNat] := by rw [List.getD_eq_getElem?_getD, List.getElem?_eq_getElem hk]; rfl
  have := sh _ (List.getElem_mem hk)
  simp only [e]
  split
  ·simpa using this
  ·exact this
def wI (l : List Bd) (f : bI) (b : jb) : List Int := Hy (atB (fun x => FO x f b) l) l.length
end
end Go.Proofs.YtjmfpeiidlpngaaGreatDoor
namespace Go.Proofs.YtjmfpeiidlpngaaGreatDoor.Fp
set_option linter.unusedSimpArgs false
set_option linter.unusedVariables false
set_option maxRecDepth 20000
open Go
theorem xS {α : Type} {l : List α} {j : Nat} {v : α} (h : l[j]? = some v) : l.set j v = l := by
 apply List.ext_getElem?
 intro i
 rw [List.getElem?_set]
 split
 ·rename_i e; subst e
  split
  ·exact h.symm
  ·rename_i hn; rw [List.getElem?_eq_none (by omega)]
 ·rfl
end Go.Proofs.YtjmfpeiidlpngaaGreatDoor.Fp
namespace Go.Proofs.YtjmfpeiidlpngaaGreatDoor.Fp
set_option linter.unusedSimpArgs false
set_option linter.unusedVariables false
set_option maxRecDepth 20000
open Go
structure Pre (cs : List Cn) (k : Nat) (best : Int) : Prop where
 lo : -1 ≤ best
 hi : 0 ≤ best → ∃ b : Nat, ∃ hb : b < cs.length, best = b ∧ b < k ∧ Da cs[b] = false
 all : ∀ j (hj : j < cs.length), j < k → Da cs[j] = false → cs[j].Fast = false ∧ ∃ b : Nat, ∃ hb : b < cs.length, best = b ∧ sj cs[j].Pattern ≤ sj cs[b].Pattern
end Go.Proofs.YtjmfpeiidlpngaaGreatDoor.Fp
namespace Go.Proofs.YtjmfpeiidlpngaaGreatDoor
set_option linter.unusedSimpArgs false
set_option linter.unusedVariables false
set_option maxRecDepth 20000
open Go
open Go.IntKind (wrap)
def wkG (kind : Int) (d : Au.Nm) (over : Bool) (g : Fp.Grp) : Nat :=
 if g.kind ≠ kind ∨ g.pats = [] then 0 else if g.tr = [] then d.length else if over = true then (Au.jH g.tr d).length else 0
def wkL (kind : Int) (d : Au.Nm) (over : Bool) (gs : List Fp.Grp) : Nat := (gs.map (wkG kind d over)).sum
theorem vI (g : bD) : (Fp.fD g).pats = [] ↔ g.Patterns.xs.length = 0 := by
 unfold Fp.fD
 rw [← List.length_eq_zero_iff, List.length_map]
section
variable {h : aA} {Q : Value → aA → Prop} {s c : Addr} {l : Sl Bd}
theorem GG [Gh] {p q : Option Addr} {pc qc : Nat} {xs ys : List Int} (Rp : Row 1 Au.nf h p pc xs) (Rq : Row 1 Au.nf h q qc ys) (hl : xs.length ≤ 2 ^ 40) (hk : Q (.bool (decide (xs = ys))) h) :
  aD Tryz.prog om #[.slice p xs.length pc, .slice q ys.length qc] h Q := by
 apply Bc
 unfold vV
 refine rM (fun ne => ?_) fun eq => ?_
 ·rw [decide_eq_false (fun e => ne (by rw [e]))] at hk; exact hk
 have el : xs.length = ys.length := by omega
 refine aJ.go (fun n st h' => ∃ i : Nat, st = (i : Int) ∧ i ≤ xs.length ∧ n = xs.length - i ∧ h' = h ∧ xs.take i = ys.take i) xs.length ⟨0, rfl, by omega, rfl, rfl, rfl⟩ ?_
 rintro n - h2 ⟨i, rfl, hi, rfl, rfl, he⟩ Kn hK
 unfold qS
 refine ifD (fun hlt => ?_) (fun hge => ?_)
 ·have hi' : i < xs.length := by omega
  refine Rp.idx qh (by omega) i rfl hi' fun ad cc => ?_
  try rw [Int.toNat_natCast]
  refine aB (cc.at0 rfl) ?_
  refine Rq.idx qh (by omega) i rfl (by omega) fun ad2 cc2 => ?_
  try rw [Int.toNat_natCast]
  refine aB (cc2.at0 rfl) ?_
  refine rM (fun ne => ?_) fun eq2 => ?_
  ·rw [decide_eq_false (fun e => ne (by subst e; rfl))] at hk; exact hk
  ·rw [wr (by omega) (by omega)]
   refine hK (xs.length - (i + 1)) _ _ (by omega) ⟨i + 1, rfl, hi', rfl, rfl, ?_⟩
   rw [show xs.take (i + 1) = xs.take i ++ [xs[i]] by rw [List.take_append_getElem], show ys.take (i + 1) = ys.take i ++ [ys[i]'(by omega)] by rw [List.take_append_getElem], he, eq2]
 ·have e : xs = ys := by
   rw [List.take_of_length_le (by omega), List.take_of_length_le (by omega)] at he; exact he
  rw [decide_eq_true e] at hk; exact hk
end
end Go.Proofs.YtjmfpeiidlpngaaGreatDoor
namespace Go.Proofs.YtjmfpeiidlpngaaGreatDoor
set_option linter.unusedSimpArgs false
set_option linter.unusedVariables false
set_option maxRecDepth 20000
open Go
open Go.IntKind (wrap)
theorem DB : ∀ {xs ys : List Int}, xs.Pairwise (· < ·) → ys.Pairwise (· < ·) → (∀ x, x ∈ xs ↔ x ∈ ys) → xs = ys
 | [], [], _, _, _ => rfl
 | [], y :: ys, _, _, h => absurd ((h y).2 (by simp)) (by simp)
 | x :: xs, [], _, _, h => absurd ((h x).1 (by simp)) (by simp)
 | x :: xs, y :: ys, h1, h2, h => by
  rw [List.pairwise_cons] at h1 h2
  have e : x = y := by
   rcases List.mem_cons.1 ((h x).1 (by simp)) with e | hx
   ·exact e
   ·rcases List.mem_cons.1 ((h y).2 (by simp)) with e | hy
    ·exact e.symm
    ·have := h1.1 y hy; have := h2.1 x hx; omega
  subst e
  rw [DB h1.2 h2.2 fun z => ?_]
  constructor
  ·intro hz
   rcases List.mem_cons.1 ((h z).1 (List.mem_cons_of_mem _ hz)) with e | h3
   ·have := h1.1 z hz; omega
   ·exact h3
  ·intro hz
   rcases List.mem_cons.1 ((h z).2 (List.mem_cons_of_mem _ hz)) with e | h3
   ·have := h2.1 z hz; omega
   ·exact h3
theorem Ai {ys : List Int} (s : ys.Pairwise (· ≤ ·)) : ∀ n, n + 1 ≤ ys.length → (ys.take 1 ++ hZ ys 1 n).Pairwise (· < ·) ∧ ∀ x, x ∈ ys.take 1 ++ hZ ys 1 n ↔ x ∈ ys.take (n + 1)
 | 0, h => by
  have : hZ ys 1 0 = [] := rfl
  rw [this, List.append_nil]
  refine ⟨?_, fun x => Iff.rfl⟩
  cases ys with
  | nil => simp
  | cons y ys => simp
 | n + 1, h => by
  obtain ⟨i1, i2⟩ := Ai s n (by omega)
  have hle : ∀ x, x ∈ ys.take (n + 1) → x ≤ ys[n]'(by omega) := fun x hx => by
   obtain ⟨i, hi, e⟩ := List.getElem_of_mem hx
   rw [List.length_take] at hi
   rw [List.getElem_take] at e
   rw [← e]
   rcases Nat.lt_or_ge i n with hl | hl
   ·exact List.pairwise_iff_getElem.1 s i n (by omega) (by omega) hl
   ·have : i = n := by omega
    subst this; exact Int.le_refl _
  have hn : ys[n]'(by omega) ∈ ys.take (n + 1) := by
   rw [List.mem_take_iff_getElem]
   exact ⟨n, by omega, rfl⟩
  have et : ys.take (n + 1 + 1) = ys.take (n + 1) ++ [ys[n + 1]'(by omega)] := by rw [List.take_append_getElem]
  have g1 : ys.getD (1 + n) 0 = ys[n + 1]'(by omega) := by
   rw [show 1 + n = n + 1 by omega]; exact uz _ _ (by omega)
  have g0 : ys.getD (1 + n - 1) 0 = ys[n]'(by omega) := by
   rw [show 1 + n - 1 = n by omega]; exact uz _ _ (by omega)
  have hs : ys[n]'(by omega) ≤ ys[n + 1]'(by omega) := List.pairwise_iff_getElem.1 s n (n + 1) (by omega) (by omega) (by omega)
  rw [n7, g1, g0, et]
  by_cases e : ys[n + 1]'(by omega) = ys[n]'(by omega)
  ·rw [if_pos e, List.append_nil]
   refine ⟨i1, fun x => ?_⟩
   rw [i2 x, List.mem_append, List.mem_singleton]
   constructor
   ·exact .inl
   ·rintro (hx | hx)
    ·exact hx
    ·rw [hx, e]; exact hn
  ·rw [if_neg e, ← List.append_assoc]
   refine ⟨List.pairwise_append.2 ⟨i1, List.pairwise_singleton _ _, fun a ha b hb => ?_⟩, fun x => ?_⟩
   ·rw [List.mem_singleton] at hb
    subst hb
    have := hle a ((i2 a).1 ha)
    omega
   ·rw [List.mem_append, i2 x, List.mem_append]
theorem Bo {ys : List Int} (s : ys.Pairwise (· ≤ ·)) : (lP ys).Pairwise (· < ·) ∧ ∀ x, x ∈ lP ys ↔ x ∈ ys := by
 by_cases h : ys = []
 ·subst h; exact ⟨by simp [lP, hZ], fun x => by simp [lP, hZ]⟩
 ·have hl : 0 < ys.length := List.length_pos_iff.2 h
  have := Ai s (ys.length - 1) (by omega)
  rw [show ys.length - 1 + 1 = ys.length by omega, List.take_length] at this
  exact this
theorem AU (xs : List Int) : (Au.nv xs).Pairwise (· ≤ ·) := by
 have := List.pairwise_mergeSort (le := fun (x y : Int) => decide (x ≤ y)) (fun a b c h1 h2 => by simp only [decide_eq_true_eq] at *; omega) (fun a b => by simp only [Bool.or_eq_true, decide_eq_true_eq]; omega) xs
 exact this.imp fun h => of_decide_eq_true h
theorem Em (xs : List Int) (x : Int) : x ∈ Au.nv xs ↔ x ∈ xs := (List.mergeSort_perm _ _).mem_iff
theorem J9 (xs : List Int) : (lP (Au.nv xs)).Pairwise (· < ·) ∧ ∀ x, x ∈ lP (Au.nv xs) ↔ x ∈ xs := by
 obtain ⟨h1, h2⟩ := Bo (AU xs)
 exact ⟨h1, fun x => (h2 x).trans (Em xs x)⟩
theorem Gu (p : Nat → Bool) (n : Nat) : (Hy p n).Pairwise (· < ·) := by
 unfold Hy
 rw [List.pairwise_map]
 refine List.Pairwise.filter _ (List.pairwise_lt_range.imp fun h => by omega)
theorem Gw {p : Nat → Bool} {n : Nat} {x : Int} : x ∈ Hy p n ↔ ∃ i : Nat, i < n ∧ p i = true ∧ x = i := by
 unfold Hy
 rw [List.mem_map]
 constructor
 ·rintro ⟨i, h, e⟩
  rw [List.mem_filter, List.mem_range] at h
  exact ⟨i, h.1, h.2, e.symm⟩
 ·rintro ⟨i, h1, h2, e⟩
  exact ⟨i, by rw [List.mem_filter, List.mem_range]; exact ⟨h1, h2⟩, e.symm⟩
abbrev Pa := List UInt8 × Bool
def Cj (g : Fp.Grp) (sn : Pa → Bool) (x : Int) : Prop := x ∈ g.always ∨ ∃ (j : Nat) (p : Pa) (r : List Int), g.pats[j]? = some p ∧ g.rules[j]? = some r ∧ sn p = true ∧ x ∈ r
def w5 (r : Fp.Ru) (sn : Pa → Bool) : Prop := match Fp.vq r.Contents.xs with | none => True | some p => sn p = true
theorem wF {α : Type} (f : α → α) (l : List α) (i : Nat) : (l.modify i f)[i]? = (l[i]?).map f := by
 rw [List.getElem?_modify]; cases l[i]? <;> simp
theorem AM {α : Type} (f : α → α) (l : List α) {i j : Nat} (h : i ≠ j) : (l.modify i f)[j]? = l[j]? := by
 rw [List.getElem?_modify]; cases l[j]? <;> simp [h]
theorem xY (k : Nat) (r : Fp.Ru) (g : Fp.Grp) (sn : Pa → Bool) (hl : g.rules.length = g.pats.length) (x : Int) : Cj (Fp.qZ k r g) sn x ↔ Cj g sn x ∨ (x = k ∧ w5 r sn) := by
 unfold Fp.qZ w5
 cases hp : Fp.vq r.Contents.xs with
 | none =>
  simp only
  unfold Cj
  simp only [List.mem_append, List.mem_singleton, and_true]
  constructor
  ·rintro ((h | h) | h)
   ·exact .inl (.inl h)
   ·exact .inr h
   ·exact .inl (.inr h)
  ·rintro ((h | h) | h)
   ·exact .inl (.inl h)
   ·exact .inr h
   ·exact .inl (.inr h)
 | some p =>
  simp only
  by_cases hf : g.pats.findIdx (· == p) = g.pats.length
  ·rw [if_pos hf]
   unfold Cj
   constructor
   ·rintro (h | ⟨j, q, l, h1, h2, h3, h4⟩)
    ·exact .inl (.inl h)
    ·rcases Nat.lt_or_ge j g.pats.length with hj | hj
     ·rw [List.getElem?_append_left hj] at h1
      rw [List.getElem?_append_left (by omega)] at h2
      exact .inl (.inr ⟨j, q, l, h1, h2, h3, h4⟩)
     ·rw [List.getElem?_append_right hj] at h1
      rw [List.getElem?_append_right (by omega)] at h2
      have hj0 : j - g.pats.length = 0 := by
       have := (List.getElem?_eq_some_iff.1 h1).1
       simp at this; omega
      have hj1 : j - g.rules.length = 0 := by omega
      rw [hj0] at h1
      rw [hj1] at h2
      simp only [List.getElem?_cons_zero, Option.some.injEq] at h1 h2
      subst h1 h2
      rw [List.mem_singleton] at h4
      exact .inr ⟨h4, h3⟩
   ·rintro ((h | ⟨j, q, l, h1, h2, h3, h4⟩) | ⟨h1, h2⟩)
    ·exact .inl h
    ·have hj := (List.getElem?_eq_some_iff.1 h1).1
     exact .inr ⟨j, q, l, by rw [List.getElem?_append_left hj]; exact h1, by rw [List.getElem?_append_left (by omega)]; exact h2, h3, h4⟩
    ·exact .inr ⟨g.pats.length, p, [(k : Int)], by simp, by rw [← hl]; simp, h2, by rw [h1]; simp⟩
  ·rw [if_neg hf]
   have hlt : g.pats.findIdx (· == p) < g.pats.length := by
    have := List.findIdx_le_length (p := (· == p)) (xs := g.pats)
    omega
   have hat : g.pats[g.pats.findIdx (· == p)]? = some p := by
    rw [List.getElem?_eq_getElem hlt]
    have := List.findIdx_getElem (w := hlt)
    simp only [beq_iff_eq] at this
    rw [this]
   generalize g.pats.findIdx (· == p) = m at *
   unfold Cj
   simp only
   constructor
   ·rintro (h | ⟨j, q, l, h1, h2, h3, h4⟩)
    ·exact .inl (.inl h)
    ·by_cases hj : m = j
     ·subst hj
      rw [wF] at h2
      cases hr : g.rules[m]? with
      | none => rw [hr] at h2; cases h2
      | some l0 =>
       rw [hr] at h2
       simp only [Option.map_some, Option.some.injEq] at h2
       subst h2
       rw [hat] at h1
       simp only [Option.some.injEq] at h1
       subst h1
       rcases List.mem_append.1 h4 with h5 | h5
       ·exact .inl (.inr ⟨m, p, l0, hat, hr, h3, h5⟩)
       ·rw [List.mem_singleton] at h5; exact .inr ⟨h5, h3⟩
     ·rw [AM _ _ hj] at h2
      exact .inl (.inr ⟨j, q, l, h1, h2, h3, h4⟩)
   ·rintro ((h | ⟨j, q, l, h1, h2, h3, h4⟩) | ⟨h1, h2⟩)
    ·exact .inl h
    ·by_cases hj : m = j
     ·subst hj
      exact .inr ⟨m, q, l ++ [(k : Int)], h1, by rw [wF, h2]; rfl, h3, List.mem_append_left _ h4⟩
     ·exact .inr ⟨j, q, l, h1, by rw [AM _ _ hj]; exact h2, h3, h4⟩
    ·have hr : g.rules[m]? = some (g.rules[m]'(by omega)) := List.getElem?_eq_getElem _
     exact .inr ⟨m, p, g.rules[m]'(by omega) ++ [(k : Int)], hat, by rw [wF, hr]; rfl, h2, by rw [h1]; simp⟩
def sV (kind : Int) (sn : List Int → Pa → Bool) (gs : List Fp.Grp) (x : Int) : Prop := ∃ (j : Nat) (g : Fp.Grp), gs[j]? = some g ∧ g.kind = kind ∧ Cj g (sn g.tr) x
theorem AE (k : Nat) (r : Fp.Ru) (g : Fp.Grp) : (Fp.qZ k r g).kind = g.kind ∧ (Fp.qZ k r g).tr = g.tr := by
 unfold Fp.qZ
 split
 ·exact ⟨rfl, rfl⟩
 ·split <;> exact ⟨rfl, rfl⟩
theorem E9 {n : Nat} (kind : Int) (sn : List Int → Pa → Bool) (k : Nat) (r : Fp.Ru) (gs : List Fp.Grp) (sm : Fp.rD n gs) (x : Int) :
  sV kind sn (Fp.xB k r gs) x ↔ sV kind sn gs x ∨ (x = k ∧ r.Kind = kind ∧ w5 r (sn r.Transforms.xs)) := by
 have core : ∀ (gs' : List Fp.Grp) (m : Nat) (g : Fp.Grp), gs'[m]? = some g → g.kind = r.Kind → g.tr = r.Transforms.xs → g.rules.length = g.pats.length →
   (sV kind sn (gs'.modify m (Fp.qZ k r)) x ↔ sV kind sn gs' x ∨ (x = k ∧ r.Kind = kind ∧ w5 r (sn r.Transforms.xs))) := by
  intro gs' m g hm hk ht hl
  unfold sV
  constructor
  ·rintro ⟨j, g', h1, h2, h3⟩
   by_cases hj : m = j
   ·subst hj
    rw [wF, hm] at h1
    simp only [Option.map_some, Option.some.injEq] at h1
    subst h1
    obtain ⟨e1, e2⟩ := AE k r g
    rw [e1] at h2
    rw [e2] at h3
    rcases (xY k r g (sn g.tr) hl x).1 h3 with h4 | h4
    ·exact .inl ⟨m, g, hm, h2, h4⟩
    ·exact .inr ⟨h4.1, by rw [← hk]; exact h2, by rw [← ht]; exact h4.2⟩
   ·rw [AM _ _ hj] at h1
    exact .inl ⟨j, g', h1, h2, h3⟩
  ·rintro (⟨j, g', h1, h2, h3⟩ | ⟨h1, h2, h3⟩)
   ·by_cases hj : m = j
    ·subst hj
     rw [hm] at h1
     simp only [Option.some.injEq] at h1
     subst h1
     obtain ⟨e1, e2⟩ := AE k r g
     exact ⟨m, Fp.qZ k r g, by rw [wF, hm]; rfl, by rw [e1]; exact h2, by rw [e2]; exact (xY k r g (sn g.tr) hl x).2 (.inl h3)⟩
    ·exact ⟨j, g', by rw [AM _ _ hj]; exact h1, h2, h3⟩
   ·obtain ⟨e1, e2⟩ := AE k r g
    exact ⟨m, Fp.qZ k r g, by rw [wF, hm]; rfl, by rw [e1, hk]; exact h2, by rw [e2]; exact (xY k r g (sn g.tr) hl x).2 (.inr ⟨h1, by rw [ht]; exact h3⟩)⟩
 unfold Fp.xB Fp.sN
 by_cases hf : gs.findIdx (Fp.rt r) = gs.length
 ·rw [if_pos hf, hf]
  have := core (gs ++ [⟨r.Kind, r.Transforms.xs, [], [], []⟩]) gs.length ⟨r.Kind, r.Transforms.xs, [], [], []⟩ (by simp) rfl rfl rfl
  rw [this]
  have e : sV kind sn (gs ++ [⟨r.Kind, r.Transforms.xs, [], [], []⟩]) x ↔ sV kind sn gs x := by
   unfold sV
   constructor
   ·rintro ⟨j, g, h1, h2, h3⟩
    rcases Nat.lt_or_ge j gs.length with hj | hj
    ·rw [List.getElem?_append_left hj] at h1; exact ⟨j, g, h1, h2, h3⟩
    ·rw [List.getElem?_append_right hj] at h1
     have hj0 : j - gs.length = 0 := by
      have := (List.getElem?_eq_some_iff.1 h1).1
      simp at this; omega
     rw [hj0] at h1
     simp only [List.getElem?_cons_zero, Option.some.injEq] at h1
     subst h1
     rcases h3 with h3 | ⟨i, p, l, a, _⟩
     ·cases h3
     ·simp at a
   ·rintro ⟨j, g, h1, h2, h3⟩
    exact ⟨j, g, by rw [List.getElem?_append_left (List.getElem?_eq_some_iff.1 h1).1]; exact h1, h2, h3⟩
  rw [e]
 ·rw [if_neg hf]
  have hlt : gs.findIdx (Fp.rt r) < gs.length := by
   have := List.findIdx_le_length (p := Fp.rt r) (xs := gs)
   omega
  have hat := List.findIdx_getElem (w := hlt)
  unfold Fp.rt at hat
  rw [Bool.and_eq_true, beq_iff_eq, beq_iff_eq] at hat
  exact core gs _ _ (List.getElem?_eq_getElem hlt) hat.1 hat.2 (sm.g _ (List.getElem_mem hlt)).2.1
theorem BM (kind : Int) (sn : List Int → Pa → Bool) (x : Int) : ∀ (l : List Fp.Ru) (k : Nat) (gs : List Fp.Grp), Fp.rD k gs →
  (sV kind sn (Fp.fG l k gs) x ↔ sV kind sn gs x ∨ ∃ (i : Nat) (r : Fp.Ru), l[i]? = some r ∧ x = ((k + i : Nat) : Int) ∧ r.Kind = kind ∧ w5 r (sn r.Transforms.xs))
 | [], k, gs, sm => by
  rw [Fp.fG]
  constructor
  ·exact .inl
  ·rintro (h | ⟨i, r, h, _⟩)
   ·exact h
   ·simp at h
 | r :: l, k, gs, sm => by
  rw [Fp.fG, BM kind sn x l (k + 1) _ (sm.add r), E9 kind sn k r gs sm x]
  constructor
  ·rintro ((h | ⟨h1, h2, h3⟩) | ⟨i, r', h1, h2, h3⟩)
   ·exact .inl h
   ·exact .inr ⟨0, r, rfl, h1, h2, h3⟩
   ·exact .inr ⟨i + 1, r', h1, by rw [h2]; omega, h3⟩
  ·rintro (h | ⟨i, r', h1, h2, h3⟩)
   ·exact .inl (.inl h)
   ·cases i with
    | zero =>
     simp only [List.getElem?_cons_zero, Option.some.injEq] at h1
     subst h1
     exact .inl (.inr ⟨h2, h3⟩)
    | succ i => exact .inr ⟨i, r', h1, by rw [h2]; omega, h3⟩
theorem EE (p : Pa) (hp : p.1 ≠ []) (d : Au.Nm) : vj ⟨p.1, p.2⟩ d = DT (cOf p) d := by
 apply Ct
 rw [sx]
 unfold DT
 rw [List.any_eq_true]
 have key : ∀ q : Nat, q + p.1.length ≤ d.length → (Au.tk ⟨p.1, p.2⟩ d (q + p.1.length) = true ↔ Au.atB (cOf p) d (q : Nat) = true) := by
  intro q hq
  have e : Au.yH d p.1.length (q + p.1.length) = Au.Av d q p.1.length := by
   unfold Au.yH Au.Av
   rw [Nat.add_sub_cancel]
  have hX : ∀ X : Bool, ((decide (p.1 ≠ []) && (decide (p.1.length ≤ q + p.1.length) && X)) = true ↔ (decide (0 ≤ (q : Int) ∧ (q : Int) + p.1.length ≤ d.length) && X) = true) := fun X => by
   rw [decide_eq_true hp, decide_eq_true (show p.1.length ≤ q + p.1.length by omega), decide_eq_true (show 0 ≤ (q : Int) ∧ (q : Int) + p.1.length ≤ d.length by omega), Bool.true_and, Bool.true_and]
  unfold Au.tk Au.atB
  show (decide (p.1 ≠ []) && (decide (p.1.length ≤ q + p.1.length) && (if p.2 = true then decide (Au.cX (Au.yH d p.1.length (q + p.1.length)) = Au.cX p.1) else decide (Au.yH d p.1.length (q + p.1.length) = p.1)))) = true ↔ (decide (0 ≤ (q : Int) ∧ (q : Int) + p.1.length ≤ d.length) && (if p.2 = true then decide (Au.cX (Au.Av d (q : Int).toNat p.1.length) = Au.cX p.1) else decide (Au.Av d (q : Int).toNat p.1.length = p.1))) = true
  rw [e, Int.toNat_natCast]
  exact hX _
 have hpos : 0 < p.1.length := List.length_pos_iff.2 hp
 constructor
 ·rintro ⟨e, h1, h2⟩
  have h3 : p.1.length ≤ e := by
   unfold Au.tk at h2
   simp only [Bool.and_eq_true, decide_eq_true_eq] at h2
   exact h2.2.1
  refine ⟨e - p.1.length, by rw [List.mem_range]; omega, ?_⟩
  rw [← key _ (by omega), show e - p.1.length + p.1.length = e by omega]; exact h2
 ·rintro ⟨q, h1, h2⟩
  have h3 : q + p.1.length ≤ d.length := by
   have h4 := h2
   unfold Au.atB at h4
   rw [Bool.and_eq_true, decide_eq_true_iff] at h4
   have h5 : (q : Int) + p.1.length ≤ d.length := h4.1.2
   omega
  exact ⟨q + p.1.length, h3, (key q h3).2 h2⟩
theorem EN {rs : List (List Int)} {sn : List Bool} {k : Nat} {x : Int} : x ∈ pS rs sn k ↔ ∃ (j : Nat) (r : List Int), j < k ∧ sn[j]? = some true ∧ rs[j]? = some r ∧ x ∈ r := by
 unfold pS
 rw [List.mem_flatMap]
 constructor
 ·rintro ⟨j, h1, h2⟩
  rw [List.mem_range] at h1
  split at h2
  ·rename_i h3
   rw [List.getD_eq_getElem?_getD] at h2 h3
   cases hr : rs[j]? with
   | none => rw [hr] at h2; cases h2
   | some r =>
    cases hs : sn[j]? with
    | none => rw [hs] at h3; cases h3
    | some b =>
     rw [hs] at h3
     rw [hr] at h2
     simp only [Option.getD_some] at h2 h3
     subst h3
     exact ⟨j, r, h1, hs, hr, h2⟩
  ·cases h2
 ·rintro ⟨j, r, h1, h2, h3, h4⟩
  refine ⟨j, by rw [List.mem_range]; exact h1, ?_⟩
  rw [List.getD_eq_getElem?_getD, List.getD_eq_getElem?_getD, h2, h3]
  exact h4
def snT (w : Au.Nm) (tr : List Int) (p : Pa) : Bool := vj ⟨p.1, p.2⟩ (Au.jH tr w)
theorem Az (g : Gr) (w : Au.Nm) (x : Int) : x ∈ BB g w ↔ Cj (Fp.fD g) (snT w (Fp.fD g).tr) x := by
 unfold BB Cj
 rw [List.mem_append, EN]
 have es : ∀ j : Nat, (gS g w)[j]? = ((Fp.fD g).pats[j]?).map (snT w (Fp.fD g).tr) := fun j => by
  show (((g.Patterns.xs.map Bl).map fun p => vj p (Au.jH g.Transforms.xs w)))[j]? = ((g.Patterns.xs.map fun p : bG => (p.Text, p.Nocase))[j]?).map (snT w g.Transforms.xs)
  rw [List.getElem?_map, List.getElem?_map, List.getElem?_map]
  cases g.Patterns.xs[j]? <;> rfl
 have el : (gS g w).length = (Fp.fD g).pats.length := by
  rw [rH, pV]
  unfold Fp.fD; simp
 constructor
 ·rintro (h | ⟨j, r, h1, h2, h3, h4⟩)
  ·exact .inl h
  ·rw [es j] at h2
   obtain ⟨p, hp, e⟩ := Option.map_eq_some_iff.1 h2
   exact .inr ⟨j, p, r, hp, h3, e, h4⟩
 ·rintro (h | ⟨j, p, r, h1, h2, h3, h4⟩)
  ·exact .inl h
  ·exact .inr ⟨j, r, by rw [el]; exact (List.getElem?_eq_some_iff.1 h1).1, by rw [es j, h1]; show some _ = some true; rw [h3], h2, h4⟩
theorem CP {gs : List Gr} {kind : Int} {w : Au.Nm} {x : Int} : x ∈ oU (gs.filter fun g => g.Kind = kind) w ↔ sV kind (snT w) (gs.map Fp.fD) x := by
 unfold oU sV
 rw [List.mem_flatMap]
 constructor
 ·rintro ⟨g, h1, h2⟩
  rw [List.mem_filter, decide_eq_true_iff] at h1
  obtain ⟨j, hj, e⟩ := List.getElem_of_mem h1.1
  refine ⟨j, Fp.fD g, by rw [List.getElem?_map, List.getElem?_eq_getElem hj, e]; rfl, h1.2, (Az g w x).1 h2⟩
 ·rintro ⟨j, g', h1, h2, h3⟩
  rw [List.getElem?_map] at h1
  obtain ⟨g, hg, rfl⟩ := Option.map_eq_some_iff.1 h1
  refine ⟨g, ?_, (Az g w x).2 h3⟩
  rw [List.mem_filter, decide_eq_true_iff]
  exact ⟨List.mem_of_getElem? hg, h2⟩
theorem Bv {bs : List Bd} {gs : List Gr} (eg : gs.map Fp.fD = iF bs) {kind : Int} {w : Au.Nm} {x : Int} :
  x ∈ oU (gs.filter fun g => g.Kind = kind) w ↔ ∃ (i : Nat) (hi : i < bs.length), x = (i : Int) ∧ bs[i].Rule.Kind = kind ∧ w5 bs[i].Rule (snT w bs[i].Rule.Transforms.xs) := by
 rw [CP, eg]
 unfold iF Fp.oj
 rw [BM kind (snT w) x _ 0 [] ⟨Nat.le_refl _, fun g hg => by cases hg⟩]
 constructor
 ·rintro (⟨j, g, h1, _⟩ | ⟨i, r, h1, h2, h3, h4⟩)
  ·simp at h1
  ·rw [List.getElem?_map] at h1
   obtain ⟨b, hb, rfl⟩ := Option.map_eq_some_iff.1 h1
   obtain ⟨hi, rfl⟩ := List.getElem?_eq_some_iff.1 hb
   exact ⟨i, hi, by rw [h2, Nat.zero_add], h3, h4⟩
 ·rintro ⟨i, hi, h2, h3, h4⟩
  exact .inr ⟨i, bs[i].Rule, by rw [List.getElem?_map, List.getElem?_eq_getElem hi]; rfl, by rw [h2, Nat.zero_add], h3, h4⟩
theorem El {bs : List Bd} {gs : List Gr} (eg : gs.map Fp.fD = iF bs) {kind : Int} {w : Au.Nm} : ∀ x ∈ oU (gs.filter fun g => g.Kind = kind) w, 0 ≤ x ∧ x < bs.length := fun x hx => by
 obtain ⟨i, hi, rfl, _⟩ := (Bv eg).1 hx
 omega
theorem Ap {b : Bd} (sd : Snd b) (w : Au.Nm) : w5 b.Rule (snT w b.Rule.Transforms.xs) ↔ (match Fp.vq b.Rule.Contents.xs with | none => true | some p => DT (cOf p) (Au.jH b.Rule.Transforms.xs w)) = true := by
 unfold w5
 cases hp : Fp.vq b.Rule.Contents.xs with
 | none => simp
 | some p =>
  have := B0 (fun c hc => by have := sd.ck.con c hc; omega) hp
  simp only
  unfold snT
  rw [EE p (fun e => by rw [e] at this; simp at this)]
theorem FY {bs : List Bd} {gs : List Gr} (eg : gs.map Fp.fD = iF bs) (sd : ∀ b ∈ bs, Snd b) (f : bI) (b : jb) : u5 bs f b.Dir (oU (gs.filter fun g => g.Kind = b.Kind) b.Data) = wI bs f b := by
 obtain ⟨h1, h2⟩ := J9 (dJ (tW bs f b.Dir) (oU (gs.filter fun g => g.Kind = b.Kind) b.Data))
 refine DB h1 (Gu _ _) fun x => (h2 x).trans ?_
 unfold wI dJ
 rw [List.mem_filter, Bv eg, Gw]
 constructor
 ·rintro ⟨⟨i, hi, rfl, h3, h4⟩, h5⟩
  unfold tW at h5
  rw [Int.toNat_natCast, yr _ _ _ hi, Bool.not_not] at h5
  refine ⟨i, hi, ?_, rfl⟩
  rw [yr _ _ _ hi]
  unfold FO
  rw [decide_eq_true h3, h5, Bool.true_and, Bool.true_and]
  exact (Ap (sd _ (List.getElem_mem hi)) b.Data).1 h4
 ·rintro ⟨i, hi, h3, rfl⟩
  rw [yr _ _ _ hi] at h3
  unfold FO at h3
  rw [Bool.and_eq_true, Bool.and_eq_true, decide_eq_true_iff] at h3
  obtain ⟨h3, h4, h5⟩ := h3
  refine ⟨⟨i, hi, rfl, h3, (Ap (sd _ (List.getElem_mem hi)) b.Data).2 h5⟩, ?_⟩
  unfold tW
  rw [Int.toNat_natCast, yr _ _ _ hi, h4]; rfl
theorem Ch {l l' : List Bd} (e : l.map wipe = l'.map wipe) (f : bI) (b : jb) : wI l f b = wI l' f b := by
 unfold wI
 rw [FM (fun x => EI x f b) e, show l.length = l'.length by have := congrArg List.length e; simpa using this]
theorem E4 (kind : Int) (w : Au.Nm) : ∀ gs : List Gr, wkL kind w false (gs.map Fp.fD) = nD (gs.filter fun g => g.Kind = kind) * w.length
 | [] => by simp [wkL, nD]
 | g :: gs => by
  have ih := E4 kind w gs
  unfold wkL at ih ⊢
  rw [List.map_cons, List.map_cons, List.sum_cons, ih]
  by_cases hk : g.Kind = kind
  ·rw [List.filter_cons_of_pos (by simp [hk])]
   unfold nD
   by_cases hd : jN g = true
   ·rw [List.filter_cons_of_pos hd, List.length_cons, Nat.succ_mul]
    unfold jN at hd
    rw [Bool.and_eq_true, decide_eq_true_iff, decide_eq_true_iff] at hd
    have : wkG kind w false (Fp.fD g) = w.length := by
     unfold wkG
     rw [if_neg (fun hh => ?_), if_pos (show (Fp.fD g).tr = [] from hd.2)]
     rcases hh with hh | hh
     ·exact hh hk
     ·exact hd.1 (List.length_eq_zero_iff.1 ((vI g).1 hh))
    omega
   ·rw [List.filter_cons_of_neg hd]
    have : wkG kind w false (Fp.fD g) = 0 := by
     unfold wkG
     by_cases h1 : (Fp.fD g).kind ≠ kind ∨ (Fp.fD g).pats = []
     ·rw [if_pos h1]
     ·rw [if_neg h1, if_neg, if_neg (by decide)]
      intro h2
      refine hd ?_
      unfold jN
      rw [Bool.and_eq_true, decide_eq_true_iff, decide_eq_true_iff]
      exact ⟨fun h3 => h1 (.inr ((vI g).2 (by rw [h3]; rfl))), h2⟩
    omega
  ·rw [List.filter_cons_of_neg (by simp [hk])]
   have : wkG kind w false (Fp.fD g) = 0 := by unfold wkG; rw [if_pos (.inl hk)]
   omega
theorem Cz (kind : Int) (w : Au.Nm) : ∀ gs : List Gr, wkL kind w true (gs.map Fp.fD) = nD (gs.filter fun g => g.Kind = kind) * w.length + trW (gs.filter fun g => g.Kind = kind) w
 | [] => by simp [wkL, nD, trW]
 | g :: gs => by
  have ih := Cz kind w gs
  unfold wkL at ih ⊢
  rw [List.map_cons, List.map_cons, List.sum_cons, ih]
  by_cases hk : g.Kind = kind
  ·rw [List.filter_cons_of_pos (by simp [hk])]
   have et : trW (g :: gs.filter fun g => decide (g.Kind = kind)) w = (if trans g = true then (Au.jH g.Transforms.xs w).length else 0) + trW (gs.filter fun g => decide (g.Kind = kind)) w := by
    unfold trW; rw [List.map_cons, List.sum_cons]
   rw [et]
   have en : nD (g :: gs.filter fun g => decide (g.Kind = kind)) = nD (gs.filter fun g => decide (g.Kind = kind)) + if jN g = true then 1 else 0 := by
    unfold nD
    by_cases hd : jN g = true
    ·rw [List.filter_cons_of_pos hd, if_pos hd]; rfl
    ·rw [List.filter_cons_of_neg hd, if_neg hd]; rfl
   rw [en, Nat.add_mul]
   have : wkG kind w true (Fp.fD g) = (if jN g = true then 1 else 0) * w.length + (if trans g = true then (Au.jH g.Transforms.xs w).length else 0) := by
    unfold wkG jN trans
    by_cases h1 : g.Patterns.xs = []
    ·rw [if_pos (.inr ((vI g).2 (by rw [h1]; rfl)))]
     simp [h1]
    ·rw [if_neg (fun hh => by
      rcases hh with hh | hh
      ·exact hh hk
      ·exact h1 (List.length_eq_zero_iff.1 ((vI g).1 hh)))]
     by_cases h2 : g.Transforms.xs = []
     ·rw [if_pos (show (Fp.fD g).tr = [] from h2)]; simp [h1, h2]
     ·rw [if_neg (show ¬ (Fp.fD g).tr = [] from h2)]; simp [h1, h2]; rfl
   omega
  ·rw [List.filter_cons_of_neg (by simp [hk])]
   have : wkG kind w true (Fp.fD g) = 0 := by unfold wkG; rw [if_pos (.inl hk)]
   omega
theorem JT {bs : List Bd} {gs : List Gr} (eg : gs.map Fp.fD = iF bs) (hb : bs.length ≤ 40) : gs.length ≤ bs.length ∧ ∀ g ∈ gs, GSz g := by
 have sm : Fp.rD bs.length (iF bs) := by have := Gc (bs.map (·.Rule)); rwa [List.length_map] at this
 have hl := congrArg List.length eg
 rw [List.length_map] at hl
 refine ⟨by have := sm.len; omega, fun g hg => ?_⟩
 have hm : Fp.fD g ∈ iF bs := by rw [← eg]; exact List.mem_map_of_mem hg
 obtain ⟨h1, h2, h3, h4⟩ := sm.g _ hm
 unfold Fp.fD at h1 h2 h3 h4
 simp only [List.length_map] at h1 h2 h3
 exact ⟨h2, by omega, by omega, fun r hr => by have := h4 _ (List.mem_map_of_mem hr); omega⟩
end Go.Proofs.YtjmfpeiidlpngaaGreatDoor
namespace Go.Proofs.YtjmfpeiidlpngaaGreatDoor
set_option linter.unusedSimpArgs false
set_option linter.unusedVariables false
set_option maxRecDepth 20000
open Go
open Go.IntKind (wrap)
section
variable {h : aA} {Q : Value → aA → Prop}
theorem HR [Gh] (l : Sl Bd) (ok : bF 25 aE.vals aE.ok h l) (hk : ∀ (e : Bool) h', Fr (fun _ => False) h h' → (e = true → l.xs.length ≤ 12 ∧ ∀ b ∈ l.xs, Snd b) → Q (.bool e) h') :
  aD Tryz.prog qe #[.slice l.p l.xs.length l.cap] h Q := by
 apply zw
 unfold vb
 have no : ∀ h', Fr (fun _ => False) h h' → Q (.bool false) h' := fun h' f => hk false h' f fun e => by cases e
 refine ifD (fun e => no h (Fr.refl _ _)) fun hl => ?_
 refine aJ.go (fun n st h' => ∃ i : Nat, st = (i : Int) ∧ i ≤ l.xs.length ∧ n = l.xs.length - i ∧ Fr (fun _ => False) h h' ∧ ∀ b ∈ l.xs.take i, Snd b) l.xs.length ⟨0, rfl, by omega, rfl, Fr.refl _ _, fun b hb => by simp at hb⟩ ?_
 rintro n - h1 ⟨i, rfl, hi, rfl, f1, hs⟩ Kn hK
 unfold p8
 refine ifD (fun hlt => ?_) (fun hge => ?_)
 ·have hi' : i < l.xs.length := by omega
  refine dH (bF.fr0 aE.ok_fr f1 ok) i rfl hi' fun ad cc okr => ?_
  try rw [Int.toNat_natCast]
  refine (aB (cc.at0 rfl) (aB (cc.at rfl) (aC (cc.at rfl) (aC (cc.at rfl) (aC (cc.at rfl) (aC (cc.at rfl) (aN (cc.at rfl) (aB (cc.at rfl) (aB (cc.at rfl) (aB (cc.at rfl) (bH (cc.at rfl) (aB (cc.at rfl) (aB (cc.at rfl) (aC (cc.at rfl) (aC (cc.at rfl) (aC (cc.at rfl) (aC (cc.at rfl) (aB (cc.at rfl) (aB (cc.at rfl) (aB (cc.at rfl) (aB (cc.at rfl) (aC (cc.at rfl) (aC (cc.at rfl) (aC (cc.at rfl) (aC (cc.at rfl) ?_)))))))))))))))))))))))))
  refine qf rfl rfl fun t4 h2 f2 ht4 o4 => ?_
  have F2 := f1.trans f2
  refine aC (o4.cells.at (j := 21) rfl) (ifD (fun _ => no h2 F2) fun g1 => ?_)
  refine aC (o4.cells.at (j := 22) rfl) (ifD (fun _ => no h2 F2) fun g2 => ?_)
  refine aC (o4.cells.at (j := 23) rfl) (ifD (fun _ => no h2 F2) fun g3 => ?_)
  refine aC (o4.cells.at (j := 24) rfl) (ifD (fun _ => no h2 F2) fun g4 => ?_)
  refine (aB (o4.cells.at0 rfl) (aB (o4.cells.at rfl) (aC (o4.cells.at rfl) (aC (o4.cells.at rfl) (aC (o4.cells.at rfl) (aC (o4.cells.at rfl) (aN (o4.cells.at rfl) (aB (o4.cells.at rfl) (aB (o4.cells.at rfl) (aB (o4.cells.at rfl) (bH (o4.cells.at rfl) (aB (o4.cells.at rfl) (aB (o4.cells.at rfl) (aC (o4.cells.at rfl) (aC (o4.cells.at rfl) (aC (o4.cells.at rfl) (aC (o4.cells.at rfl) (aB (o4.cells.at rfl) (aB (o4.cells.at rfl) (aB (o4.cells.at rfl) (aB (o4.cells.at rfl) ?_)))))))))))))))))))))
  refine Au.HC l.xs[i].Rule (aE.ok_fr _ _ _ f2 okr).k0 fun e h3 f3 hck => ⟨e, rfl, ?_⟩
  refine rM (fun _ => no h3 (F2.trans f3)) fun he => ?_
  rw [wr (by omega) (by omega)]
  refine hK (l.xs.length - (i + 1)) _ _ (by omega) ⟨i + 1, rfl, by omega, rfl, F2.trans f3, fun b hb => ?_⟩
  rw [show l.xs.take (i + 1) = l.xs.take i ++ [l.xs[i]] by rw [List.take_append_getElem], List.mem_append, List.mem_singleton] at hb
  rcases hb with hb | hb
  ·exact hs b hb
  ·subst hb
   exact ⟨hck he, by omega, by omega, by omega, by omega⟩
 ·have : i = l.xs.length := by omega
  subst this
  rw [List.take_length] at hs
  exact hk true h1 f1 fun _ => ⟨by omega, hs⟩
def lr : List aH := [⟨⟨false, 0, 0⟩, ⟨false, 0, 4294967295⟩⟩, ⟨⟨true, 0, 0⟩, ⟨true, 18446744073709551615, 18446744073709551615⟩⟩]
def ld : List aM := [⟨0, 65535⟩]
def Fb (s : List UInt8) : List aF := [⟨s, false, false, false, 0, 0, false⟩]
def JB (sid : Int) (C : Sl aF) : aK := ⟨1, 6, rB, rB, rB, rB, false, sid, 1, 2, [], 0, 4, rB, C, rB, rB, ⟨0, 0, 0, 0⟩⟩
def IE (sid : Int) (s : List UInt8) : Bd := ⟨JB sid ⟨none, 0, Fb s⟩, ⟨none, 0, lr⟩, ⟨none, 0, lr⟩, ⟨none, 0, ld⟩, ⟨none, 0, ld⟩⟩
theorem HH {C : Sl aF} {sid : Int} (hs : kOk .i64 h sid) (hC : bF 7 aF.vals aF.ok h C) : aK.ok h (JB sid C) :=
 ⟨rfl, rfl, r5, r5, r5, r5, trivial, hs, rfl, rfl, Nat.zero_le _, rfl, rfl, r5, hC, r5, r5, ⟨rfl, rfl, rfl, rfl⟩⟩
theorem HO : ∀ x ∈ lr, aH.ok h x := fun x hx => by
 simp only [lr, List.mem_cons, List.not_mem_nil, or_false] at hx
 rcases hx with rfl | rfl <;> exact ⟨⟨trivial, rfl, rfl⟩, ⟨trivial, rfl, rfl⟩⟩
theorem H2 : ∀ x ∈ ld, aM.ok h x := fun x hx => by
 simp only [ld, List.mem_cons, List.not_mem_nil, or_false] at hx
 subst hx; exact ⟨rfl, rfl⟩
theorem IW [Gh] (r : aK) (hk : ∀ (b : Bd) h', Fr (fun _ => False) h h' → b.Rule = r → b.Src.xs = lr → b.Dst.xs = lr → b.SrcPorts.xs = ld → b.DstPorts.xs = ld →
   Kp (fun x => h.size ≤ x) h' (fun h'' => bF 6 aH.vals aH.ok h'' b.Src ∧ bF 6 aH.vals aH.ok h'' b.Dst ∧ bF 2 aM.vals aM.ok h'' b.SrcPorts ∧ bF 2 aM.vals aM.ok h'' b.DstPorts) → Q (.agg b.vals.toArray) h') :
  aD Tryz.prog qX #[.agg r.vals.toArray] h Q := by
 apply AY
 unfold vX
 refine aZ (vs := r.vals) fun t1 h1 f1 e1 o1 => ?_
 refine aZ (vs := uy.vals) fun t2 h2 f2 e2 o2 => ?_
 refine aZ (vs := lr.flatMap aH.vals) fun t13 h3 f3 e3 o3 => ?_
 refine aZ (vs := ld.flatMap aM.vals) fun t15 h4 f4 e4 o4 => ?_
 have z1 := f1.size; have z2 := f2.size; have z3 := f3.size
 have F24 := f3.trans f4
 have F14 := f2.trans F24
 have o14 := o1.fr0 F14
 refine (aB (o14.cells.at0 rfl) (aB (o14.cells.at rfl) (aC (o14.cells.at rfl) (aC (o14.cells.at rfl) (aC (o14.cells.at rfl) (aC (o14.cells.at rfl) (aN (o14.cells.at rfl) (aB (o14.cells.at rfl) (aB (o14.cells.at rfl) (aB (o14.cells.at rfl) (bH (o14.cells.at rfl) (aB (o14.cells.at rfl) (aB (o14.cells.at rfl) (aC (o14.cells.at rfl) (aC (o14.cells.at rfl) (aC (o14.cells.at rfl) (aC (o14.cells.at rfl) (aB (o14.cells.at rfl) (aB (o14.cells.at rfl) (aB (o14.cells.at rfl) (aB (o14.cells.at rfl) ?_)))))))))))))))))))))
 refine jr (o2.fr0 F24) (ws := (⟨r, ⟨some t13, 2, lr⟩, ⟨some t13, 2, lr⟩, ⟨some t15, 1, ld⟩, ⟨some t15, 1, ld⟩⟩ : Bd).vals) (by rfl) (by rfl) fun h5 f5 z5 o5 => ?_
 refine (aB (o5.cells.at0 rfl) (aB (o5.cells.at rfl) (aC (o5.cells.at rfl) (aC (o5.cells.at rfl) (aC (o5.cells.at rfl) (aC (o5.cells.at rfl) (aN (o5.cells.at rfl) (aB (o5.cells.at rfl) (aB (o5.cells.at rfl) (aB (o5.cells.at rfl) (bH (o5.cells.at rfl) (aB (o5.cells.at rfl) (aB (o5.cells.at rfl) (aC (o5.cells.at rfl) (aC (o5.cells.at rfl) (aC (o5.cells.at rfl) (aC (o5.cells.at rfl) (aB (o5.cells.at rfl) (aB (o5.cells.at rfl) (aB (o5.cells.at rfl) (aB (o5.cells.at rfl) (aC (o5.cells.at rfl) (aC (o5.cells.at rfl) (aC (o5.cells.at rfl) (aC (o5.cells.at rfl) ?_)))))))))))))))))))))))))
 have l2 := o2.lt
 have F5 : Fr (fun _ => False) h h5 := (f1.trans (f2.trans F24)).tr f5 fun x hx hh => by omega
 refine hk ⟨r, ⟨some t13, 2, lr⟩, ⟨some t13, 2, lr⟩, ⟨some t15, 1, ld⟩, ⟨some t15, 1, ld⟩⟩ h5 F5 rfl rfl rfl rfl rfl fun h6 f6 => ?_
 have k13 : bF 6 aH.vals aH.ok h6 ⟨some t13, 2, lr⟩ := bF.of_own (sz := 6) (vals := aH.vals) (xs := lr) (fun _ => rfl) (((o3.fr0 f4).fr f5 (by omega)).fr f6 (by omega)) (by decide) HO
 have k15 : bF 2 aM.vals aM.ok h6 ⟨some t15, 1, ld⟩ := bF.of_own (sz := 2) (vals := aM.vals) (xs := ld) (fun _ => rfl) ((o4.fr f5 (by omega)).fr f6 (by omega)) (by decide) H2
 exact ⟨k13, k13, k15, k15⟩
theorem FP [Gh] (sid : Int) (hs : ∀ h, kOk .i64 h sid) (s : List UInt8) (hl : s.length ≤ 1000) (hk : ∀ (b : Bd) h', Fr (fun _ => False) h h' → aE.ok h' b → wipe b = IE sid s → Q (.agg b.vals.toArray) h') :
  aD Tryz.prog mR #[.int .i64 sid, .string (bs s)] h Q := by
 apply Co
 unfold xc
 refine aZ (vs := uy.vals) fun t4 h1 f1 e1 o1 => ?_
 refine aZ (vs := (Fb s).flatMap aF.vals) fun t8 h2 f2 e2 o2 => ?_
 have z1 := f1.size; have z2 := f2.size
 have l4 := o1.lt
 have l8 := o2.lt
 refine IW (JB sid ⟨some t8, 1, Fb s⟩) fun b h3 f3 e1 e2 e3 e4 e5 k => ⟨_, _, _, _, _, _, _, _, _, _, _, _, _, _, _, _, _, _, _, _, _, _, _, _, _, _, _, _, _, _, _, _, _, _, _, _, _, _, _, _, _, _, _, _, _, _, _, _, _, rfl, ?_⟩
 have F3 := f2.trans f3
 refine jr (o1.fr0 F3) (ws := b.vals) (by rfl) (by rfl) fun h5 f5 z5 o5 => ?_
 refine (aB (o5.cells.at0 rfl) (aB (o5.cells.at rfl) (aC (o5.cells.at rfl) (aC (o5.cells.at rfl) (aC (o5.cells.at rfl) (aC (o5.cells.at rfl) (aN (o5.cells.at rfl) (aB (o5.cells.at rfl) (aB (o5.cells.at rfl) (aB (o5.cells.at rfl) (bH (o5.cells.at rfl) (aB (o5.cells.at rfl) (aB (o5.cells.at rfl) (aC (o5.cells.at rfl) (aC (o5.cells.at rfl) (aC (o5.cells.at rfl) (aC (o5.cells.at rfl) (aB (o5.cells.at rfl) (aB (o5.cells.at rfl) (aB (o5.cells.at rfl) (aB (o5.cells.at rfl) (aC (o5.cells.at rfl) (aC (o5.cells.at rfl) (aC (o5.cells.at rfl) (aC (o5.cells.at rfl) ?_)))))))))))))))))))))))))
 have k5 := k h5 (f5.mono fun x hx hh => by omega)
 have okC : bF 7 aF.vals aF.ok h5 ⟨some t8, 1, Fb s⟩ := bF.of_own (sz := 7) (vals := aF.vals) (xs := Fb s) (fun _ => rfl) ((o2.fr0 f3).fr f5 (by omega)) (by show 1 ≤ _; decide) fun x hx => by
  simp only [Fb, List.mem_cons, List.not_mem_nil, or_false] at hx
  subst hx
  exact ⟨by show s.length ≤ _; omega, trivial, trivial, trivial, rfl, rfl, trivial⟩
 refine hk b h5 ((f1.trans F3).tr f5 fun x hx hh => by omega) ⟨by rw [e1]; exact HH (hs _) okC, k5.1, k5.2.1, k5.2.2.1, k5.2.2.2⟩ ?_
 unfold wipe rG
 rw [e1, e2, e3, e4, e5]; rfl
end
section
variable {N : Nat} {F F' S : Nat → Prop} {h h' : aA} {s c : Addr} {f : bI} {dir : Int} {bs : List Bd} {gs K : List Gr} {w : Au.Nm} {work : Int} {done : Bool} {out : List Int}
theorem tV.fr (T : tV N F h s c f dir bs gs K w work done out) (fr : Fr S h h') (hs : ∀ x, x < h.size → S x → N ≤ x ∧ ¬ F x) : tV N F h' s c f dir bs gs K w work done out := by
 obtain ⟨o, t9, av, pa, kp, R, C, KP, hkp⟩ := T
 have ho : Au.Old h o (Au.upT o h.size 9) := Au.Old.up (Nat.le_refl _)
 have h9 : ∀ x, x < h.size → S x → o x = 9 := fun x hx hh => Classical.byContradiction fun hn => (hs x hx hh).2 (R.fp x hx (hs x hx hh).1 hn)
 refine ⟨Au.upT o h.size 9, t9, av, pa, kp, R.fr fr ho (fun x hx hh => by have := h9 x hx hh; omega) (fun x hx hn hne => ?_) fr.size, C.fr fr ho fun x hx hh => .inr (.inl (h9 x hx hh)), KP.fr fr ho fun x hx hh => by have := h9 x hx hh; omega, hkp⟩
 rcases Nat.lt_or_ge x h.size with hl | hl
 ·exact R.fp x hl hn (by rw [Au.dU hl] at hne; exact hne)
 ·exact absurd (Au.jR hl) hne
theorem tV.fr0 (fr : Fr (fun _ => False) h h') (T : tV N F h s c f dir bs gs K w work done out) : tV N F h' s c f dir bs gs K w work done out := T.fr fr fun _ _ hh => hh.elim
theorem vW.fr0 (fr : Fr (fun _ => False) h h') (D : vW F h c work out) : vW F h' c work out := D.fr fr fun _ hh => hh.elim
end
def exL : List Bd := [IE 1 [101, 118, 105, 108], IE 2 [98, 97, 100], IE 3 [103, 111, 111, 100]]
def exF : bI := ⟨6, ⟨false, 0, 0⟩, ⟨false, 0, 0⟩, 5, 80⟩
theorem IP : ∀ b ∈ exL, Snd b := by
 intro b hb
 simp only [exL, List.mem_cons, List.not_mem_nil, or_false] at hb
 rcases hb with rfl | rfl | rfl <;> exact ⟨⟨by decide, by decide, by decide, by decide, by decide, by decide, by decide, by decide, by decide, by decide, by decide, by decide, by decide, by decide, by decide, by decide, by decide, by decide, by decide⟩, by decide, by decide, by decide, by decide⟩
theorem IQ : wI exL exF ⟨4, 1, 0, [47, 101, 118, 105, 108]⟩ = [0] := by decide +kernel
theorem Jx : wkL 4 [47, 101, 118, 105, 108] true (iF exL) = 5 := by decide +kernel
set_option maxHeartbeats 1000000 in
theorem H4 [Gh] {h : aA} {Q : Value → aA → Prop} (hk : ∀ h', Fr (fun _ => False) h h' → Q (.bool true) h') : aD Tryz.prog gF #[] h Q := by
 apply zc
 unfold u4
 refine FP 1 (fun _ => rfl) [101, 118, 105, 108] (by decide) fun b1 h1 f1 ok1 w1 => ⟨_, _, _, _, _, _, _, _, _, _, _, _, _, _, _, _, _, _, _, _, _, _, _, _, _, _, _, _, _, _, _, _, _, _, _, _, _, _, _, _, _, _, _, _, _, _, _, _, _, rfl, ?_⟩
 refine FP 2 (fun _ => rfl) [98, 97, 100] (by decide) fun b2 h2 f2 ok2 w2 => ⟨_, _, _, _, _, _, _, _, _, _, _, _, _, _, _, _, _, _, _, _, _, _, _, _, _, _, _, _, _, _, _, _, _, _, _, _, _, _, _, _, _, _, _, _, _, _, _, _, _, rfl, ?_⟩
 refine FP 3 (fun _ => rfl) [103, 111, 111, 100] (by decide) fun b3 h3 f3 ok3 w3 => ⟨_, _, _, _, _, _, _, _, _, _, _, _, _, _, _, _, _, _, _, _, _, _, _, _, _, _, _, _, _, _, _, _, _, _, _, _, _, _, _, _, _, _, _, _, _, _, _, _, _, rfl, ?_⟩
 refine aZ (vs := [b1, b2, b3].flatMap aE.vals) fun t9 h4 f4 _ o9 => ?_
 have ok : bF 25 aE.vals aE.ok h4 ⟨some t9, 3, [b1, b2, b3]⟩ := bF.of_own (sz := 25) (vals := aE.vals) (xs := [b1, b2, b3]) (fun _ => rfl) o9 (by show 3 ≤ _; decide) fun x hx => by
  simp only [List.mem_cons, List.not_mem_nil, or_false] at hx
  rcases hx with rfl | rfl | rfl
  ·exact aE.ok_fr _ _ _ ((f2.trans f3).trans f4) ok1
  ·exact aE.ok_fr _ _ _ (f3.trans f4) ok2
  ·exact aE.ok_fr _ _ _ f4 ok3
 have F4 := ((f1.trans f2).trans f3).trans f4
 have wl : [b1, b2, b3].map wipe = exL.map wipe := by
  simp only [List.map_cons, List.map_nil, w1, w2, w3]; rfl
 have sd : ∀ b ∈ [b1, b2, b3], Snd b := fun b hb => by
  obtain ⟨b', hb', e⟩ := vC wl hb
  exact (IP b' hb').wipe e
 clear w1 w2 w3 ok1 ok2 ok3
 generalize hL : [b1, b2, b3] = L at *
 have eL3 : L.length = 3 := by rw [← hL]; rfl
 have sids : (L.map nj) = [1, 2, 3] := by
  have := congrArg (List.map fun b : Bd => b.Rule.Sid) wl
  rw [List.map_map, List.map_map] at this
  exact this
 have call := fun (K : Value → aA → Prop) => zU ⟨some t9, 3, L⟩ ok (by show L.length ≤ 40; omega) sd (Q := K)
 rw [show (⟨some t9, 3, L⟩ : Sl Bd).xs.length = 3 from eL3] at call
 refine call _ (fun h5 f5 nn => absurd (by rw [sids]; decide) nn) fun s h5 bs gs f5 T eb eg nd => ⟨_, _, rfl, ?_⟩
 have blen : bs.length = 3 := by have := congrArg List.length eb; rw [List.length_map, List.length_map] at this; exact this.trans eL3
 have eg' : gs.map Fp.fD = iF bs := eg.trans (sA eb.symm)
 have ex : bs.map wipe = exL.map wipe := eb.trans wl
 have sdb : ∀ b ∈ bs, Snd b := fun b hb => by
  obtain ⟨b', hb', e⟩ := vC ex hb
  exact (IP b' hb').wipe e
 obtain ⟨glen, gsz⟩ := JT eg' (by omega)
 rw [if_neg (by decide)]
 refine zk ?_
 have F5 := F4.trans f5
 refine qf (vs := exF.vals) (by rfl) (by rfl) fun t3 h7 f7 e7 o3 => ?_
 refine (aB (o3.cells.at0 rfl) (aN (o3.cells.at rfl) (aB (o3.cells.at rfl) (aB (o3.cells.at rfl) (aN (o3.cells.at rfl) (aB (o3.cells.at rfl) (aB (o3.cells.at rfl) (aB (o3.cells.at rfl) (aB (o3.cells.at rfl) ?_)))))))))
 have T7 := T.fr0 f7
 have hN := T.1
 have z7 := f7.size
 refine wm T7 (by omega) (fun g hg => by have := (gsz g hg).pl; omega) exF 4 1 fun c h8 f8 S8 hc => ⟨_, rfl, zk ?_⟩
 have z8 := f8.size
 have l3 := o3.lt
 have Klen : (gs.filter fun g => g.Kind = 4).length ≤ 40 := Nat.le_trans (List.length_filter_le _ _) (by omega)
 have kn := Hb (gs.filter fun g => g.Kind = 4)
 refine CX S8 [47, 101, 118] (by decide) Klen (by omega) fun h9 f9 S9 => ⟨rfl, ?_⟩
 have z9 := f9.size
 refine CX S9 [105, 108] (by decide) Klen (by simp only [List.length_cons, List.length_nil]; omega) fun h10 f10 S10 => ⟨rfl, ?_⟩
 have z10 := f10.size
 have F810 : Fr (fun x => h7.size ≤ x) h8 h10 := (f9.mono fun x hx => hx).trans (f10.mono fun x hx => by rcases hx with hx | hx <;> omega)
 have o310 := (o3.fr0 f8).fr F810 (by omega)
 refine (aB (o310.cells.at0 rfl) (aN (o310.cells.at rfl) (aB (o310.cells.at rfl) (aB (o310.cells.at rfl) (aN (o310.cells.at rfl) (aB (o310.cells.at rfl) (aB (o310.cells.at rfl) (aB (o310.cells.at rfl) (aB (o310.cells.at rfl) ?_)))))))))
 have T10 := (T7.fr0 f8).fr F810 fun x _ hx => by omega
 have ec := FY eg' sdb exF ⟨4, 1, 0, [47, 101, 118, 105, 108]⟩
 rw [Ch ex, IQ] at ec
 refine EB T10 (by omega) (by omega) gsz exF ⟨4, 1, 0, [47, 101, 118, 105, 108]⟩ (by decide) (El eg') fun p pc h11 f11 R11 hp => ?_
 rw [ec] at R11 ⊢
 refine ⟨_, _, _, rfl, ?_⟩
 have oneI : ∀ {h : aA} {a : Addr}, Own h a [.int .i64 0] qd → Row 1 Au.nf h (some a) 1 [0] := fun o => Row.of_own (L := [(0 : Int)]) qh o
 refine aZ (vs := [.int .i64 0]) fun t33 h12 f12 e12 o33 => ?_
 refine GG (R11.fr0 f12) (oneI o33) (by decide) ⟨_, rfl, ?_⟩
 rw [decide_eq_true rfl, if_pos rfl]
 have S12 := S10.fr0 (f11.trans f12)
 simp only [List.nil_append, List.cons_append] at S12
 have hr := El eg' (kind := 4) (w := [47, 101, 118, 105, 108])
 refine yq S12 (by omega) Klen (by decide) (by simp only [List.length_cons, List.length_nil]; omega) (fun g hg => gsz g (List.mem_filter.1 hg).1) hr fun p2 pc2 h14 f14 D14 R14 hp2 => ?_
 have ec2 : u5 bs exF 1 (oU (gs.filter fun g => g.Kind = 4) [47, 101, 118, 105, 108]) = [0] := ec
 rw [ec2] at R14 D14 ⊢
 refine ⟨_, _, _, rfl, ?_⟩
 refine aZ (vs := [.int .i64 0]) fun t38 h15 f15 e15 o38 => ?_
 refine GG (R14.fr0 f15) (oneI o38) (by decide) ⟨_, rfl, ?_⟩
 rw [decide_eq_true rfl, if_pos rfl]
 refine C6 (D14.fr0 f15) ⟨_, rfl, ?_⟩
 have ew : nD (gs.filter fun g => g.Kind = 4) * 5 + trW (gs.filter fun g => g.Kind = 4) [47, 101, 118, 105, 108] = 5 := by
  have h1 := Cz 4 [47, 101, 118, 105, 108] gs
  rw [eg', sA ex, Jx] at h1
  exact h1.symm
 rw [if_pos (by
  simp only [List.length_cons, List.length_nil, beq_iff_eq]
  omega)]
 have f1015 : Fr (fun x => h7.size ≤ x) h10 h15 := (((f11.trans f12).mono fun _ => False.elim).trans (f14.mono fun x hx => by rcases hx with (hx | hx) | hx <;> omega)).trans (f15.mono fun _ => False.elim)
 have T15 := T10.fr f1015 fun x _ hx => by omega
 refine D9 T15 (by omega) ⟨_, rfl, ?_⟩
 have e3 : ((bs.length : Nat) : Int) == 3 := by rw [blen]; rfl
 rw [e3]
 exact hk h15 ((((F5.trans f7).trans f8).tr F810 fun x hx hh => by have := F5.size; omega).tr f1015 fun x hx hh => by have := F5.size; omega)
end Go.Proofs.YtjmfpeiidlpngaaGreatDoor
namespace Go.Proofs.YtjmfpeiidlpngaaGreatDoor
set_option linter.unusedSimpArgs false
set_option linter.unusedVariables false
set_option maxRecDepth 20000
open Go
open Go.IntKind (wrap)
section
variable {h : aA} {Q : Value → aA → Prop}
theorem wg [Gh] (l : Sl Bd) (i : Int) {h : aA} (ol : bF 25 aE.vals aE.ok h l) (oi : kOk .i64 h i) {Q : Value → aA → Prop} (hk : ∀ h', Fr (fun _ => False) h h' → Q (.bool true) h') :
  aD Tryz.prog lO #[.slice l.p l.xs.length l.cap, .int .i64 i] h Q := by
 apply rk
 unfold mj
 have aw : ∀ h', Fr (fun _ => False) h h' → aD Tryz.prog gF #[] h' fun v h2 => ∃ t14 : Bool, v = .bool t14 ∧ Q (.bool t14) h2 := fun h' f => H4 fun h2 f2 => ⟨_, rfl, hk h2 (f.trans f2)⟩
 refine HR l ol fun e h1 f1 hs => ⟨_, rfl, ?_⟩
 refine ifN (fun _ => aw h1 f1) fun he => ?_
 obtain ⟨hl, sd⟩ := hs he
 have ol1 := bF.fr0 aE.ok_fr f1 ol
 refine zU l ol1 (by omega) sd (fun h3 f3 nn => ⟨_, _, rfl, ?_⟩) fun s h3 bs gs f3 T eb eg nd => ⟨_, _, rfl, ?_⟩
 ·have ol3 := bF.fr0 aE.ok_fr f3 ol1
  refine yR l ol3 (by omega) (fun _ => ⟨_, _, rfl, ?_⟩) fun s h4 f4 _ _ nd => absurd nd nn
  rw [if_neg (by decide), if_neg (by decide), if_pos (by rfl)]
  exact aw h3 (f1.trans f3)
 ·have ol3 := bF.fr0 aE.ok_fr f3 ol1
  refine yR l ol3 (by omega) (fun nn => absurd nd nn) fun rs h4 f4 RT _ _ => ⟨_, _, rfl, ?_⟩
  rw [if_neg (by decide), if_neg (by simp)]
  refine zk ?_
  have blen : bs.length = l.xs.length := by have := congrArg List.length eb; simpa using this
  have T4 := T.fr0 f4
  have F4 := (f1.trans f3).trans f4
  have sdb : ∀ b ∈ bs, Snd b := fun b hb => by
   obtain ⟨b', hb', e⟩ := vC eb hb
   exact (sd b' hb').wipe e
  refine JR T4 (by omega) sdb i (fun h6 f6 hn => ⟨_, _, _, _, _, _, _, _, _, _, _, _, _, _, _, _, _, _, _, _, _, _, _, _, _, _, _, _, _, _, _, _, _, _, _, _, _, _, _, _, _, _, _, _, _, _, _, _, _, _, rfl, ?_⟩) fun n hn b' h6 f6 en okb wb => ⟨_, _, _, _, _, _, _, _, _, _, _, _, _, _, _, _, _, _, _, _, _, _, _, _, _, _, _, _, _, _, _, _, _, _, _, _, _, _, _, _, _, _, _, _, _, _, _, _, _, _, rfl, ?_⟩
  ·refine qf (vs := uy.vals) (by rfl) (by rfl) fun t9 h8 f8 e8 o9 => ?_
   refine D9 ((T4.fr0 f6).fr0 f8) (by omega) ⟨_, rfl, ?_⟩
   have F8 := (F4.trans f6).trans f8
   rw [if_neg (by rw [blen]; simp)]
   have fin : cC l.p l.xs.length l.cap i t9 false Q h8 := by
    unfold cC
    rw [if_pos (by rfl)]
    refine aB (o9.cells.at (j := 7) rfl) ?_
    rw [if_pos (by rfl)]
    exact aw h8 F8
   refine ifD (fun h0 => ?_) fun h0 => ?_
   ·rw [if_neg (by rw [decide_eq_false (by omega)]; decide)]; exact fin
   ·rw [if_neg (by decide)]; exact fin
  ·have hn' : n < l.xs.length := by omega
   have hw : wipe b' = wipe l.xs[n] := by
    rw [wb]
    have h1 : (bs.map wipe)[n]'(by simpa using hn) = (l.xs.map wipe)[n]'(by simpa using hn') := by simp only [eb]
    simpa using h1
   refine qf (vs := b'.vals) (by rfl) (by rfl) fun t9 h8 f8 e8 o9 => ?_
   refine D9 ((T4.fr0 f6).fr0 f8) (by omega) ⟨_, rfl, ?_⟩
   have F8 := (F4.trans f6).trans f8
   have ol8 := bF.fr0 aE.ok_fr F8 ol
   rw [if_neg (by rw [blen]; simp)]
   have e7 := congrArg (fun b : Bd => b.Rule.Sid) hw
   have e7 : b'.Rule.Sid = l.xs[n].Rule.Sid := e7
   have e10 := congrArg (fun b : Bd => b.Rule.Msg) hw
   have e10 : b'.Rule.Msg = l.xs[n].Rule.Msg := e10
   have e21 := congrArg (fun b : Bd => b.Src.xs) hw
   have e21 : b'.Src.xs = l.xs[n].Src.xs := e21
   have fin : cC l.p l.xs.length l.cap i t9 true Q h8 := by
    unfold cC
    rw [if_neg (by decide), if_pos (by rfl)]
    refine aB (o9.cells.at (j := 7) rfl) ?_
    refine dH ol8 n en hn' fun ad cc _ => ?_
    rw [en]
    try rw [Int.toNat_natCast]
    refine aB (cc.at (j := 7) rfl) ?_
    rw [e7, if_pos (by simp)]
    refine bH (o9.cells.at (j := 10) rfl) ?_
    refine dH ol8 n rfl hn' fun ad cc _ => ?_
    try rw [Int.toNat_natCast]
    refine bH (cc.at (j := 10) rfl) ?_
    rw [e10, if_pos (by simp)]
    refine aC (o9.cells.at (j := 21) rfl) ?_
    refine dH ol8 n rfl hn' fun ad cc _ => ?_
    try rw [Int.toNat_natCast]
    refine aC (cc.at (j := 21) rfl) ?_
    rw [e21, if_pos (by simp)]
    exact aw h8 F8
   refine ifD (fun h0 => ?_) fun h0 => by omega
   rw [if_neg (by rw [decide_eq_true (by omega)]; decide)]; exact fin
end
end Go.Proofs.YtjmfpeiidlpngaaGreatDoor
namespace Go.Proofs.YtjmfpeiidlpngaaGreatDoor.rulesetCompiles
set_option linter.unusedSimpArgs false
set_option linter.unusedVariables false
set_option maxRecDepth 20000
open Go Go.ChangeShapes Go.WideShapes Go.ChangeAt Go.RowKit
open Go.ChangeMaps (open_string shut_string)
theorem own : ownKnob Tryz.prog.godebug = none := by kernel_rfl
theorem DM : laidOutB Tryz.prog = true := by kernel_rfl
set_option maxRecDepth 100000 in
theorem JP (os : Os) (started : os.Started) (H : Type) (enc : TypeId × Value → H) :
  ReturnsInHanded {} Tryz.checked os 4 .any (fun w args => (Rows.rulesetCompilesSpec.pre enc Tryz.prog Tryz.f4 Rows.rulesetCompilesRow.domain false w args ∧ laidMet Tryz.prog Rows.rulesetCompilesRow.laid w) ∧ sizedMet enc Tryz.prog Tryz.f4 (OpenSpec.ofChange Rows.rulesetCompilesSpec) false w args) (Rows.rulesetCompilesSpec.post enc Tryz.prog Tryz.f4 false true false false) := by
 refine returnsInHanded_of_change_and (C := Tryz.checked) (X := fun w _ => laidMet Tryz.prog Rows.rulesetCompilesRow.laid w) (fun _ _ _ hh h => h.of_heap hh) own started (by kernel_rfl) Tryz.func4
  (ChangeSpec.witness_shaped (enc := enc) (C := Tryz.checked) (os := os) (X := fun w _ => laidMet Tryz.prog Rows.rulesetCompilesRow.laid w) false (World.laidAll Tryz.prog os Rows.rulesetCompilesRow.laid) #[.slice none 0 0, .int .i64 0] 8 (World.laidAll_os ..) (World.shaped_of_ZipB (by kernel_rfl) (by kernel_rfl)) (by kernel_rfl) (by kernel_rfl) (by kernel_rfl)
   (laidMet_laidAll _ (by kernel_rfl) (by kernel_rfl))) ?_
 intro W base args ds gs before hval0 hW hcnd hsz0 hL _
 have hval : ∀ (j : Nat) t v, Tryz.f4.params[j]? = some t → args[j]? = some v → Value.okWide Tryz.prog W .any base t v := hval0
 have hW' := hW
 obtain ⟨p, q, hA0, hV, rfl, hfz, hnd⟩ := hW
 have hA : DataW.TrodAll enc Tryz.prog W 0 (fun _ => true) true Tryz.f4.params.toList args.toList ds p := hA0
 rw [Tryz.params4] at hA hval
 obtain ⟨v0, vs0, d0, ds0, p0, q0, hargs, rfl, rfl, h0, r0⟩ := trodAll_cons hA
 obtain ⟨v1, vs1, d1, ds1, p1, q1, rfl, rfl, rfl, h1, r1⟩ := trodAll_cons r0
 obtain ⟨rfl, rfl, rfl⟩ := trodAll_nil r1
 obtain rfl : args = #[v0, v1] := by cases args; simp_all
 obtain ⟨rfl, rfl⟩ := trodVars_none hV
 have k0 := h0
 have lt0 : ∀ x ∈ p0, x.block < W.heap.size := by obtain ⟨m, hm⟩ := k0; exact DataW.trod_lt m _ _ _ hm
 obtain ⟨a0, len0, cap0, rfl⟩ := okWide_slice Tryz.underlying22 (hval 0 22 v0 rfl rfl)
 obtain ⟨x0, e0, o0⟩ : ∃ y : Sl aE, Value.slice a0 len0 cap0 = y.v ∧ (bF 25 aE.vals aE.ok) W.heap y := by
  obtain ⟨fuel, hf⟩ := h0
  obtain ⟨y, e, o⟩ := ((rF Tryz.underlying22 (by kernel_rfl) (fun _ => rfl) aE.op) : bM enc Tryz.prog W 22 (fun s : Sl aE => [s.v]) (bF 25 aE.vals aE.ok)) _ _ _ hf
  exact ⟨y, List.head_eq_of_cons_eq e, o⟩
 obtain ⟨rfl, rfl, rfl⟩ : a0 = x0.p ∧ len0 = x0.xs.length ∧ cap0 = x0.cap := by simpa [Sl.v] using e0
 have k1 := h1
 have lt1 : ∀ x ∈ p1, x.block < W.heap.size := by obtain ⟨m, hm⟩ := k1; exact DataW.trod_lt m _ _ _ hm
 obtain ⟨x1, rfl, rfl, rfl, w1⟩ := open_int Tryz.underlying3 (hval 1 3 v1 rfl rfl) h1
 have o1 : kOk .i64 W.heap x1 := w1
 clear hA0 hval0 hsz0
 refine (EW (Tryz.call4 _) (fun Q hk => wg x0 x1 o0 o1 hk)).mono fun e W' ⟨he, bel⟩ => ?_
 subst he
 exact ⟨_, rfl, _, _, _, [], _, [], hW', trodAll_mk1 (shut_bool Tryz.underlying4 _), (trodAll_cons_mk (Below.trod DM (by kernel_rfl) (of_decide_eq_true (by kernel_rfl)) k0 bel lt0) (trodAll_cons_mk (Below.trod DM (by kernel_rfl) (of_decide_eq_true (by kernel_rfl)) k1 bel lt1) trodAll_mk0)), rfl, bel.frame _, fun h => by cases h⟩
theorem over : Rows.rulesetCompilesRow.holds Tryz.pinned (OpenSpec.ofChange Rows.rulesetCompilesSpec) :=
 OpenClaim.holds_of_wide 4 Tryz.f4 rfl rfl rfl rfl rfl rfl rfl ⟨rfl, rfl, rfl, rfl, rfl⟩ rfl rfl rfl rfl rfl (by kernel_rfl) Tryz.func4 (by kernel_rfl)
  (of_decide_eq_true (by kernel_rfl)) (by unfold Func.isWrapper; first | (rw [if_pos (by decide +kernel)]; kernel_rfl) | (rw [if_neg (by decide +kernel)]; exact ⟨rfl, rfl⟩))
  (fun os started H enc _ => JP os started H enc)
theorem card_holds : Rows.RulesetCompilesCardSaid :=
 Claim7.holds_tied_plain_at .later [] [.data, .pinned] true (true, "5e104a27cbbb9a9f702d2c67a6526b429eab3fb5f9ff9b91391d8179eab60239") false
  over (fun _ h => by cases h) (by kernel_rfl) (fun _ h => by cases h) rulesetCompiles_row_tie rfl ⟨rfl, rfl⟩ (by kernel_rfl) rfl
  (fun f fn hf hfn => by
   obtain rfl : f = 4 := Option.some.inj ((show Tryz.prog.funcNamed "intrusion/intrusionlaw47.RulesetCompiles" = some 4 by kernel_rfl).symm.trans hf) |>.symm
   obtain rfl : fn = Tryz.f4 := (Option.some.inj (Tryz.func4.symm.trans hfn)).symm
   exact ⟨by kernel_rfl, fun j t ht => by
    rw [Tryz.params4] at ht
    match j, ht with
    | 0, ht => obtain rfl : t = 22 := (Option.some.inj ht).symm; exact (show Tryz.prog.wantsStandIn 22 = false by kernel_rfl)
    | 1, ht => obtain rfl : t = 3 := (Option.some.inj ht).symm; exact (show Tryz.prog.wantsStandIn 3 = false by kernel_rfl)
    | _ + 2, ht => cases ht⟩)
  (by kernel_rfl)
end Go.Proofs.YtjmfpeiidlpngaaGreatDoor.rulesetCompiles
namespace Go.Proofs.YtjmfpeiidlpngaaGreatDoor
theorem rulesetCompiles_holds : Rows.RulesetCompilesCardSaid := rulesetCompiles.card_holds
#print axioms rulesetCompiles_holds
end Go.Proofs.YtjmfpeiidlpngaaGreatDoor
