/-
  One step of a cursor.
-/
import Derived.Test.YthnheldoklgceaaDoorAutS
import Derived.Test.YthnheldoklgceaaDoorSortK
import Derived.Ground.NamesProg
import Derived.Shelf.Lay
namespace Go.Proofs
open Go.Shelf
shelf_lay Lays.n189 Nm 189 at Tryd as Tryd.lays189
end Go.Proofs
namespace Go.Proofs.YthnheldoklgceaaDoor
set_option linter.unusedSimpArgs false
set_option linter.unusedVariables false
set_option maxRecDepth 20000
open Go
open Go.IntKind (wrap)
def intV (n : Int) : List Value := [.int .i64 n]
def sortL (xs : List Int) : List Int := xs.mergeSort fun x y => decide (x ≤ y)
theorem sortI_c [Gh] {p : Option Addr} {cap : Nat} {xs : List Int} {h : Heap} (R : Row 1 intV h p cap xs) (hl : xs.length ≤ 2 ^ 40) {K : Value → Heap → Prop}
    (hk : ∀ h', Fr (InA p) h h' → Row 1 intV h' p cap (sortL xs) → K (.tuple #[]) h') : CallT Tryd.prog fn_slices_Sort_int_int #[.slice p xs.length cap] h K := by
  cases p with
  | none =>
    have : xs = [] := by
      cases xs with
      | nil => rfl
      | cons x xs => have := R.own.1; simp [intV] at this
    subst this
    refine none_bridge (fun _ _ => rfl) (fun w => Any.slices_Sort_int_none Tryd.lays189 none cap w) ?_
    exact hk h (Fr.refl _ _) (by simpa [sortL] using R)
  | some ad =>
    exact sort_bridge (enc := Value.int .i64) (ys := sortL xs) (fun _ _ => rfl) (List.length_mergeSort xs) R (fun w hw hH hb => Any.slices_Sort_int Tryd.lays189 ad.block 0 cap xs w hH hb (by omega)) hk
theorem sorted_eq : ∀ {xs ys : List Int}, xs.Perm ys → xs.Pairwise (· ≤ ·) → ys.Pairwise (· < ·) → xs = ys
  | [], ys, p, _, _ => (List.Perm.nil_eq p)
  | x :: xs, [], p, _, _ => by have := p.length_eq; simp at this
  | x :: xs, y :: ys, p, h1, h2 => by
    rw [List.pairwise_cons] at h1 h2
    have e : x = y := by
      have hx : x ∈ y :: ys := p.mem_iff.1 (by simp)
      have hy : y ∈ x :: xs := p.mem_iff.2 (by simp)
      rcases List.mem_cons.1 hx with e | hx
      · exact e
      · rcases List.mem_cons.1 hy with e | hy
        · exact e.symm
        · have := h1.1 y hy; have := h2.1 x hx; omega
    subst e
    rw [sorted_eq (List.Perm.cons_inv p) h1.2 h2.2]
theorem sortL_eq {xs ys : List Int} (p : xs.Perm ys) (h : ys.Pairwise (· < ·)) : sortL xs = ys := by
  refine sorted_eq ((List.mergeSort_perm xs _).trans p) ?_ h
  have := List.pairwise_mergeSort (le := fun (x y : Int) => decide (x ≤ y)) (fun a b c h1 h2 => by simp only [decide_eq_true_eq] at *; omega) (fun a b => by simp only [Bool.or_eq_true, decide_eq_true_eq]; omega) xs
  exact this.imp fun h => of_decide_eq_true h
theorem flat_int (l : List Nat) : (l.map Int.ofNat).flatMap intV = l.flatMap inV := by
  rw [List.flatMap_map]; rfl
theorem sortN_c [Gh] {p : Option Addr} {cap : Nat} {xs ys : List Nat} {h : Heap} (R : Row 1 inV h p cap xs) (hl : xs.length ≤ 2 ^ 20) (hp : xs.Perm ys) (hs : ys.Pairwise (· < ·)) {K : Value → Heap → Prop}
    (hk : ∀ h', Fr (InA p) h h' → Row 1 inV h' p cap ys → K (.tuple #[]) h') : CallT Tryd.prog fn_slices_Sort_int_int #[.slice p xs.length cap] h K := by
  have R' : Row 1 intV h p cap (xs.map Int.ofNat) := ⟨by rw [flat_int]; exact R.own, by rw [List.length_map]; exact R.le⟩
  have e : sortL (xs.map Int.ofNat) = ys.map Int.ofNat := sortL_eq (hp.map _) (List.pairwise_map.2 (hs.imp fun h => Int.ofNat_lt.2 h))
  have := sortI_c R' (by rw [List.length_map]; omega) (K := K) fun h' f R2 => by
    rw [e] at R2
    exact hk h' f ⟨by rw [← flat_int]; exact R2.own, by have := R2.le; rw [List.length_map] at this; exact this⟩
  rw [List.length_map] at this; exact this
/-- The first elements of a row. -/
theorem Row.none0 {α : Type} {sz : Nat} {vals : α → List Value} {h : Heap} {p : Option Addr} {cap : Nat} {L : List α} (R : Row sz vals h p cap L) : Row sz vals h p cap ([] : List α) := by
  refine ⟨?_, Nat.zero_le _⟩
  have o := R.own
  cases p with
  | none => exact ⟨rfl, o.2⟩
  | some ad =>
    obtain ⟨h1, h2, ds, t, fr, hfr, hg, hc, hl, hcs⟩ := o
    exact ⟨h1, h2, ds, t, fr, hfr, hg, hc, Nat.zero_le _, fun i hi => absurd hi (Nat.not_lt_zero _)⟩
section
variable {N : Nat} {h0 h : Heap} {c a : Addr} {sg : List St} {ws : List Nm} {L : List Pt}
theorem tail_snoc (s : Nm) (b : UInt8) : (s ++ [b]).drop ((s ++ [b]).length - 64) = (if (s.drop (s.length - 64)).length = 64 then (s.drop (s.length - 64)).drop 1 else s.drop (s.length - 64)) ++ [b] := by
  rw [List.length_append, List.length_singleton, List.length_drop]
  split
  · rename_i hh
    rw [List.drop_drop, List.drop_append_of_le_length (by omega)]
    congr 2; omega
  · rename_i hh
    rw [List.drop_append_of_le_length (by omega)]
    congr 2; omega
theorem step_b1 [Gh] (A : Auto N h a sg ws L) {now : Nat} {tl : Nm} {p : Option Addr} {cap : Nat} (text : Nm) (C : CurF h c a now (text.length + 1) tl p cap) (hN : N ≤ c.block) (hp : ∀ x, InA p x → N ≤ x) (b : UInt8)
    (htl : tl ++ [b] = (text ++ [b]).drop ((text ++ [b]).length - 64)) (hnow : ws[now]? = some (ls ws (lowL text))) (hlen : text.length ≤ 2 ^ 30) {Q : Value → Heap → Prop}
    (hk : ∀ h' now' p' cap' r rc, Fr (fun x => x = c.block ∨ InA p x) h h' → CurF h' c a now' (text.length + 1) ((text ++ [b]).drop ((text ++ [b]).length - 64)) p' cap' → ws[now']? = some (ls ws (lowL (text ++ [b]))) → (∀ x, InA p' x → InA p x ∨ h.size ≤ x) → Row 1 inV h' r rc (foundL L (text ++ [b])) → (∀ x, InA r x → h.size ≤ x) → (∀ x, InA r x → ¬ InA p' x) → Q (.slice r (foundL L (text ++ [b])).length rc) h') :
    automaton_Cursor_step_b1 (some c) (byteI b) Q h := by
  unfold automaton_Cursor_step_b1
  have cc := C.own.cells
  have lt := C.own.lt
  have htl64 : (tl ++ [b]).length ≤ 64 := by rw [htl, List.length_drop]; omega
  have htll : (tl ++ [b]).length = tl.length + 1 := by simp
  refine nn_mk (ldL_mk (cc.at (j := 3) rfl) ?_)
  refine al_mk (vs := bV b) fun t40 h4 f4 e4 o4 => ?_
  have z4 := f4.size
  refine app1 (C.row.fr0 f4) o4 (by omega) fun p' cap' h5 R5 f5 hn5 => ⟨_, _, _, rfl, ?_⟩
  have z5 := f5.size
  have o5 := (C.own.fr0 f4).fr f5 C.nc
  have nc5 : ¬ InA p' c.block := fun hh => by
    rcases hn5 _ hh with h | h
    · exact C.nc h
    · omega
  refine nn_mk (st1_own o5 3 (by simp) rfl fun h6 f6 s6 o6 => ?_)
  have o6 : Own h6 c [.pointer (some a), .int .u16 now, .int .i64 (text.length + 1 : Nat), .slice p' (tl ++ [b]).length cap'] T_automaton_Cursor := o6
  have R6 := R5.fr f6 fun x hx hb => by subst hb; exact nc5 hx
  have F6 : Fr (fun x => x = c.block ∨ InA p x) h h6 := ((f4.mono fun _ h => h.elim).tr f5 fun x hx hh => .inr hh).tr f6 fun x hx hh => .inl hh
  have hge : ∀ x, x < h.size → (x = c.block ∨ InA p x) → N ≤ x := fun x hx hh => by
    rcases hh with h | h
    · omega
    · exact hp x h
  have A6 := A.fr F6 hge
  have z6 := F6.size
  obtain ⟨q, cq, pq, pc, ca, cst, _⟩ := A6.s.now.blk
  have D := A.d
  have hlt : now < sg.length := by rw [D.len]; exact (List.getElem?_eq_some_iff.1 hnow).1
  have c6 := o6.cells
  obtain ⟨ad, had, ci⟩ := cst now hlt
  subst had
  refine nn_mk (ldP_mk (c6.at0 rfl) (nn_mk (ldL_mk (ca.at0 rfl) (nn_mk (ldI_mk (c6.at (j := 1) rfl) (idxA_mk now rfl hlt (nn_mk ?_)))))))
  rw [Int.toNat_natCast]
  have hbl := byteI_le b
  refine small_c _ hbl.1 hbl.2 ⟨_, rfl, ldP_mk (c6.at0 rfl) rfl, ldL_mk (ca.at0 rfl) rfl, ldI_mk (c6.at (j := 1) rfl) rfl, ?_⟩
  rw [← byteI_low]
  have hc256 : (lowB b).toNat < 256 := (lowB b).toNat_lt
  have hcn : (byteI (lowB b)).toNat * 1 = (lowB b).toNat := by unfold byteI; omega
  refine idxA_mk (lowB b).toNat rfl hc256 ?_
  rw [hcn]
  refine ldI_mk (ci.at (stV_nx _ hc256)) ?_
  have hlow : lowL (text ++ [b]) = lowL text ++ [lowB b] := by unfold lowL; rw [List.map_append]; rfl
  have hnx : ws[sg[now].nx (lowB b).toNat]? = some (ls ws (lowL (text ++ [b]))) := by
    rw [D.nx now hlt _ (lowB b) hnow, hlow, ls_step D.pre' (lowL text)]
  generalize sg[now].nx (lowB b).toNat = now' at *
  have hlt' : now' < sg.length := by rw [D.len]; exact (List.getElem?_eq_some_iff.1 hnx).1
  refine nn_mk (st1_own o6 1 (by simp) rfl fun h8 f8 s8 o8 => ?_)
  have o8 : Own h8 c [.pointer (some a), .int .u16 now', .int .i64 (text.length + 1 : Nat), .slice p' (tl ++ [b]).length cap'] T_automaton_Cursor := o8
  have R8 := R6.fr f8 fun x hx hb => by subst hb; exact nc5 hx
  have F8 : Fr (fun x => x = c.block ∨ InA p x) h h8 := F6.tr f8 fun x hx hh => .inl hh
  have z8 := F8.size
  have A8 := A.fr F8 hge
  have C8 : CurF h8 c a now' (text.length + 1) (tl ++ [b]) p' cap' := ⟨o8, R8, nc5⟩
  have hp' : ∀ x, InA p' x → InA p x ∨ h.size ≤ x := fun x hx => by
    rcases hn5 x hx with h | h
    · exact .inl h
    · exact .inr (by omega)
  refine nn_mk (ldI_mk (o8.cells.at (j := 1) rfl) ?_)
  -- the way out
  generalize hu0 : ls ws (lowL (text ++ [b])) = u0 at *
  have hu0s : u0 <:+ lowL (text ++ [b]) := by rw [← hu0]; exact ls_suf _
  have hfn := found_len D A.w A.ok (lowL (text ++ [b]))
  rw [hu0] at hfn
  have hm := A.m
  have hpe := found_perm D A.w A.ok (text ++ [b])
  rw [hu0, ← htl] at hpe
  generalize hsp : spB L (tl ++ [b]) = sp at *
  refine LoopV.go (fun n st h' => ∃ (i : Nat) (u : Nm) (F : List Nat), st.2.2.2 = (i : Int) ∧ st.2.1 = F.length ∧ ws[i]? = some u ∧ n = u.length ∧ u <:+ u0 ∧ F ++ (foundW ws (endsL L L.length) u).filter sp = (foundW ws (endsL L L.length) u0).filter sp ∧ Fr (fun _ => False) h8 h' ∧ Row 1 inV h' st.1 st.2.2.1 F ∧ ∀ x, InA st.1 x → h8.size ≤ x) u0.length
    ⟨now', u0, [], rfl, rfl, hnx, rfl, List.suffix_refl _, rfl, Fr.refl _ _, Row.nil, fun x hx => (notInA hx).elim⟩ ?_
  rintro n ⟨ra, rn, rc, t⟩ h9 ⟨i, u, F, e1, e2, hu, rfl, hus, hF, f9, R9, hr⟩ Kn hK
  dsimp only at e1 e2 R9 hr
  subst e1 e2
  dsimp only
  unfold automaton_Cursor_step_l2
  have z9 := f9.size
  have hFl : F.length ≤ 512 := by
    have h1 := congrArg List.length hF
    rw [List.length_append] at h1
    have := List.length_filter_le sp (foundW ws (endsL L L.length) u0)
    omega
  have A9 := A8.fr0 f9
  refine ifNe (fun hi => ?_) fun hi => ?_
  · have hil : i < sg.length := by rw [D.len]; exact (List.getElem?_eq_some_iff.1 hu).1
    have hune : u ≠ [] := fun h => by
      subst h
      exact hi (by rw [idx_uniq D.nd hu D.z]; rfl)
    have C9 := C8.fr0 f9
    have c9 := C9.own.cells
    have X9 := A9.s.now
    obtain ⟨q, cq, pq, pc, ca9, cst9, _⟩ := X9.blk
    obtain ⟨ad9, had9, ci9⟩ := cst9 i hil
    subst had9
    refine nn_mk (ldP_mk (c9.at0 rfl) (nn_mk (ldL_mk (ca9.at0 rfl) (idxA_mk i rfl hil (nn_mk ?_)))))
    rw [Int.toNat_natCast]
    refine ldL_mk (ci9.at (stV_en _)) ?_
    have hen := D.en i hil u hu
    have hE := X9.ends i hil
    have hel := endsL_len L L.length u
    rw [← hen] at hel
    refine keep_c hE (by omega) _ sp (fun h' f' j hj K hK => ?_) fun r2 rc2 h10 f10 R10 hr10 => ⟨_, _, _, rfl, ?_⟩
    · rw [callV_func]
      rw [hen] at hj
      obtain ⟨hj1, hj2⟩ := mem_ends.1 hj
      rw [getPt L j hj1] at hj2
      have hjl : L[j].t.length ≤ text.length + 1 := by
        have := (hus.trans hu0s).length_le
        rw [← hj2, lowL_len, lowL_len] at this
        simpa using this
      have h64 := (errL_ok A.ok _ (List.getElem_mem hj1)).2
      rw [← hsp] at hK
      refine spelt_c (A9.fr0 f').s.now (C9.fr0 f') j hj1 ?_ htl64 hK
      rw [htl, List.length_drop, List.length_append, List.length_singleton]; omega
    have z10 := f10.size
    refine (R9.fr0 f10).appL el_int Tryd.underlying56 (by intro k e; cases e) (by kernel_rfl) (by decide +kernel) inV_len (fun _ => rfl) (R10.src inV_len (by decide)) (by have := List.length_filter_le sp sg[i].en; omega) fun p11 cap11 h11 R11 f11 hn11 => ⟨_, _, _, rfl, ?_⟩
    have f911 : Fr (fun _ => False) h8 h11 := (f9.trans f10).tr f11 fun x hx hh => by have := hr x hh; omega
    have F911 : Fr (InA ra) h9 h11 := (f10.mono fun _ h => h.elim).tr f11 fun x hx hh => hh
    have C11 := C8.fr0 f911
    have A11 := A8.fr0 f911
    have c11 := C11.own.cells
    obtain ⟨q, cq, pq, pc, ca11, cst11, _⟩ := A11.s.now.blk
    obtain ⟨ad11, had11, ci11⟩ := cst11 i hil
    subst had11
    refine nn_mk (ldP_mk (c11.at0 rfl) (nn_mk (ldL_mk (ca11.at0 rfl) (idxA_mk i rfl hil (nn_mk ?_)))))
    refine ldI_mk (ci11.at (stV_ou _)) ?_
    have hou := D.ou i hil u hu
    have hol := outW_len (sg := ws) (endsL L L.length) _ u (Nat.le_refl _) hune
    refine hK _ _ _ hol ⟨sg[i].ou, outW ws (endsL L L.length) u, _, rfl, rfl, hou, rfl, (outW_suf _ _ u (Nat.le_refl _)).trans hus, ?_, f911, R11, fun x hx => ?_⟩
    · rw [← hF, foundW_ne _ hune, List.filter_append, hen, List.append_assoc]
    · rcases hn11 x hx with h | h
      · exact hr x h
      · omega
  · have hun : u = [] := by
      have : i = 0 := by omega
      subst this
      exact Option.some.inj (hu.symm.trans D.z)
    subst hun
    rw [foundW_nil, List.filter_nil, List.append_nil] at hF
    subst hF
    unfold automaton_Cursor_step_b3
    refine sortN_c R9 (by omega) hpe (foundL_asc _ _) fun h10 f10 R10 => ⟨rfl, ?_⟩
    rw [hpe.length_eq]
    have f810 : Fr (fun _ => False) h8 h10 := f9.tr f10 fun x hx hh => by have := hr x hh; omega
    refine hk h10 now' p' cap' ra rc (F8.tr f810 fun _ _ h => h.elim) ?_ hnx hp' R10 (fun x hx => by have := hr x hx; omega) fun x hx hh => ?_
    · rw [← htl]; exact C8.fr0 f810
    · have := hr x hx
      have := R8.lt hh
      omega
theorem step_c [Gh] (A : Auto N h a sg ws L) {now : Nat} {p : Option Addr} {cap : Nat} (text : Nm) (C : CurF h c a now text.length (text.drop (text.length - 64)) p cap) (hN : N ≤ c.block) (hp : ∀ x, InA p x → N ≤ x) (b : UInt8)
    (hnow : ws[now]? = some (ls ws (lowL text))) (hlen : text.length ≤ 2 ^ 30) {Q : Value → Heap → Prop}
    (hk : ∀ h' now' p' cap' r rc, Fr (fun x => x = c.block ∨ InA p x) h h' → CurF h' c a now' (text.length + 1) ((text ++ [b]).drop ((text ++ [b]).length - 64)) p' cap' → ws[now']? = some (ls ws (lowL (text ++ [b]))) → (∀ x, InA p' x → InA p x ∨ h.size ≤ x) → Row 1 inV h' r rc (foundL L (text ++ [b])) → (∀ x, InA r x → h.size ≤ x) → (∀ x, InA r x → ¬ InA p' x) → Q (.slice r (foundL L (text ++ [b])).length rc) h') :
    CallT Tryd.prog fn_automaton_Cursor_step #[.pointer (some c), .int .u8 (byteI b)] h Q := by
  apply automaton_Cursor_step_s
  unfold automaton_Cursor_step_v
  have cc := C.own.cells
  have lt := C.own.lt
  refine nn_mk (ldI_mk (cc.at (j := 2) rfl) ?_)
  rw [wr (by omega) (by omega)]
  refine nn_mk (st1_own C.own 2 (by simp) rfl fun h1 f1 s1 o1 => ?_)
  have o1 : Own h1 c [.pointer (some a), .int .u16 now, .int .i64 (text.length + 1 : Nat), .slice p (text.drop (text.length - 64)).length cap] T_automaton_Cursor := o1
  have R1 := C.row.fr f1 fun x hx hb => by subst hb; exact C.nc hx
  have F1 : Fr (fun x => x = c.block ∨ InA p x) h h1 := f1.mono fun x hx => .inl hx
  have z1 := F1.size
  have hge : ∀ x, x < h.size → (x = c.block ∨ InA p x) → N ≤ x := fun x hx hh => by
    rcases hh with h | h
    · omega
    · exact hp x h
  have c1 := o1.cells
  have hts := tail_snoc text b
  refine nn_mk (ldL_mk (c1.at (j := 3) rfl) (ifE (fun e => ?_) fun e => ?_))
  · rw [if_pos (by omega)] at hts
    generalize htl : text.drop (text.length - 64) = tl at *
    refine nn_mk (ldL_mk (c1.at (j := 3) rfl) ?_)
    refine ⟨by omega, by have := R1.le; omega, nn_mk (ldL_mk (c1.at (j := 3) rfl) ?_)⟩
    have hl64 : tl.length = 64 := by omega
    refine row_from R1 1 rfl (by omega) fun p2 c2 h3 h4 => ?_
    have R0 : Row 1 bV h1 p cap [] := R1.none0
    have s : Src h1 1 (.slice p2 (tl.drop 1).length c2) (tl.drop 1).length ((tl.drop 1).flatMap bV) := by
      rw [bV_flat]
      cases p2 with
      | none => exact absurd (congrArg List.length (h4 rfl)) (by rw [List.length_drop, List.length_nil]; omega)
      | some ad => exact .sl ad _ _ _ (by unfold bytesV; rw [List.length_map, Nat.mul_one]) (h3 ad rfl)
    refine R0.appL el_u8 Tryd.underlying62 (by intro k e; cases e) (by kernel_rfl) (by decide +kernel) bV_len (fun _ => rfl) s (by rw [List.length_drop, List.length_nil]; omega) fun p5 cap5 h5 R5 f5 hn5 => ⟨_, _, _, rfl, ?_⟩
    rw [List.nil_append] at R5 ⊢
    have z5 := f5.size
    have o5 := o1.fr f5 C.nc
    have nc5 : ¬ InA p5 c.block := fun hh => by
      rcases hn5 _ hh with h | h
      · exact C.nc h
      · omega
    refine nn_mk (st1_own o5 3 (by simp) rfl fun h6 f6 s6 o6 => ?_)
    have o6 : Own h6 c [.pointer (some a), .int .u16 now, .int .i64 (text.length + 1 : Nat), .slice p5 (tl.drop 1).length cap5] T_automaton_Cursor := o6
    have R6 := R5.fr f6 fun x hx hb => by subst hb; exact nc5 hx
    have F6 : Fr (fun x => x = c.block ∨ InA p x) h h6 := (F1.tr f5 fun x hx hh => .inr hh).tr f6 fun x hx hh => .inl hh
    have z6 := F6.size
    have hp5 : ∀ x, InA p5 x → InA p x ∨ h.size ≤ x := fun x hx => by
      rcases hn5 x hx with h | h
      · exact .inl h
      · exact .inr (by omega)
    refine step_b1 (A.fr F6 hge) text ⟨o6, R6, nc5⟩ hN (fun x hx => ?_) b hts.symm hnow hlen fun h' now' p' cap' r rc f C' hn' hp' R hr hrp => ?_
    · rcases hp5 x hx with h | h
      · exact hp x h
      · have := A.s.1; omega
    · refine hk h' now' p' cap' r rc (F6.tr f fun x hx hh => ?_) C' hn' (fun x hx => ?_) R (fun x hx => by have := hr x hx; omega) hrp
      · rcases hh with h | h
        · exact .inl h
        · rcases hp5 x h with h | h
          · exact .inr h
          · omega
      · rcases hp' x hx with h | h
        · exact hp5 x h
        · exact .inr (by omega)
  · rw [if_neg (by omega)] at hts
    refine step_b1 (A.fr F1 hge) text ⟨o1, R1, C.nc⟩ hN hp b hts.symm hnow hlen fun h' now' p' cap' r rc f C' hn' hp' R hr hrp => ?_
    refine hk h' now' p' cap' r rc (F1.trans f) C' hn' (fun x hx => ?_) R (fun x hx => by have := hr x hx; omega) hrp
    rcases hp' x hx with h | h
    · exact .inl h
    · exact .inr (by omega)
end
end Go.Proofs.YthnheldoklgceaaDoor
