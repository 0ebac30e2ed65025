/-
  The laws Exact and Plants.
-/
import Derived.Test.YthnheldoklgceaaDoorAutW
namespace Go.Proofs.YthnheldoklgceaaDoor
set_option linter.unusedSimpArgs false
set_option linter.unusedVariables false
set_option maxRecDepth 20000
open Go
open Go.IntKind (wrap)
theorem tlower_c [Gh] (l : Nm) (hl : l.length ≤ 2 ^ 28) {h : Heap} {Q : Value → Heap → Prop} (hk : ∀ h', Fr (fun _ => False) h h' → Q (.string (bs (lowL l))) h') : CallT Tryd.prog fn_transform_text_lower #[.string (bs l)] h Q := by
  apply transform_text_lower_s
  unfold transform_text_lower_v
  refine convSB_mk Tryd.underlying48 Tryd.underlying62 Tryd.underlying5 l fun p c h1 f1 hp o1 hc => ⟨_, _, _, rfl, ?_⟩
  have R : Row 1 bV h1 p c l := ⟨by rw [bV_flat]; exact o1, hc⟩
  have z1 := f1.size
  refine LoopV.go (fun n st h' => ∃ (i : Nat), st = (i : Int) ∧ i ≤ l.length ∧ n = l.length - i ∧ Fr (fun _ => False) h h' ∧ Row 1 bV h' p c (lowL (l.take i) ++ l.drop i)) l.length ⟨0, rfl, by omega, rfl, f1, by simpa [lowL] using R⟩ ?_
  rintro n - h2 ⟨i, rfl, hi, rfl, f2, R2⟩ Kn hK
  unfold transform_text_lower_l1
  refine ifD (fun e => ?_) fun e => ?_
  · have hlt : i < l.length := by omega
    have ht := lowTot l i hi
    have hx := byteI_le l[i]
    obtain ⟨ad, had, ce⟩ := R2.cellsAt bV_len (by omega) i (by omega)
    rw [lowAt l i hlt] at ce
    have hnx : byteI (lowB l[i]) = byteI l[i] → lowL (l.take i) ++ l.drop i = lowL (l.take (i + 1)) ++ l.drop (i + 1) := fun hb => by
      rw [← lowSet l i hlt]
      have : lowB l[i] = l[i] := byteI_inj hb
      rw [this]
      refine (List.ext_getElem (by rw [List.length_set]) fun j h1 h2 => ?_).symm
      rw [List.getElem_set]
      split
      · rename_i hij; subst hij; exact (lowAt l i hlt _).symm
      · rfl
    have hst := R2.setB (n := (i : Int)) i rfl ht.symm (by omega) (lowB l[i]) (c := byteI (lowB l[i])) rfl (K := fun h3 => Kn (wrap .i64 ((i : Int) + 1)) h3) fun h3 f3 R3 => by
      rw [lowSet l i hlt] at R3
      rw [wr (by omega) (by omega)]
      exact hK (l.length - (i + 1)) _ _ (by omega) ⟨i + 1, rfl, hlt, rfl, f2.tr f3 fun b hb hi => by have := hp b hi; omega, R3⟩
    rw [had] at hst ⊢
    have hno : byteI (lowB l[i]) = byteI l[i] → Kn (wrap .i64 ((i : Int) + 1)) h2 := fun hb => by
      rw [wr (by omega) (by omega)]
      exact hK (l.length - (i + 1)) _ _ (by omega) ⟨i + 1, rfl, hlt, rfl, f2, by rw [← hnx hb]; exact R2⟩
    refine idxA_mk i rfl hlt (nn_mk ?_)
    refine ldI_mk (n := byteI l[i]) (by rw [Int.toNat_natCast]; exact ce.at0 rfl) ?_
    have hlo := byteI_low l[i]
    unfold smallI at hlo
    refine ifD (fun e3 => ifD (fun e4 => ?_) fun e4 => ?_) fun e3 => ?_
    · rw [if_pos ⟨e3, e4⟩] at hlo
      rw [wrb (x := byteI l[i] + 97) (by omega) (by omega), wrb (by omega) (by omega), show byteI l[i] + 97 - 65 = byteI (lowB l[i]) by omega]
      exact hst
    · exact hno (by rw [hlo, if_neg (by omega)])
    · exact hno (by rw [hlo, if_neg (by omega)])
  · have hil : i = l.length := by omega
    subst hil
    rw [List.take_length, List.drop_length, List.append_nil] at R2
    have := conv8 R2 (K := fun v h4 => ∃ t22 : ByteArray, v = .string t22 ∧ Q (.string t22) h4) ⟨_, rfl, hk h2 f2⟩
    rw [lowL_len] at this; exact this
theorem Apply1_c [Gh] (l : Nm) (hl : l.length ≤ 2 ^ 28) {h : Heap} {Q : Value → Heap → Prop} (hk : ∀ h', Fr (fun _ => False) h h' → Q (.string (bs (lowL l))) h') : CallT Tryd.prog fn_transform_Apply #[.int .i64 1, .string (bs l)] h Q := by
  apply transform_Apply_s
  unfold transform_Apply_v
  apply transform_of_s
  unfold transform_of_v
  rw [if_pos (by decide)]
  refine ⟨_, rfl, callV_func.2 ?_⟩
  exact tlower_c l hl fun h' f => ⟨_, rfl, hk h' f⟩
/-! ### The hits -/
theorem mem_hA {L : List Pt} {s : Nm} {n i : Nat} {x : Hit} : x ∈ hA L s n i ↔ x.2 = n ∧ x.1 < i ∧ occB (L.getD x.1 ⟨[], false⟩) s n = true := by
  unfold hA
  rw [flat_if, List.mem_map]
  constructor
  · rintro ⟨j, hj, rfl⟩
    rw [List.mem_filter, List.mem_range] at hj
    exact ⟨rfl, hj.1, hj.2⟩
  · rintro ⟨h1, h2, h3⟩
    exact ⟨x.1, List.mem_filter.2 ⟨List.mem_range.2 h2, h3⟩, by rw [← h1]⟩
theorem mem_hAll {L : List Pt} {s : Nm} {fm k : Nat} {x : Hit} : x ∈ hAll L s fm k ↔ fm < x.2 ∧ x.2 ≤ fm + k ∧ x.1 < L.length ∧ occB (L.getD x.1 ⟨[], false⟩) s x.2 = true := by
  unfold hAll
  rw [List.mem_flatMap]
  constructor
  · rintro ⟨m, hm, hx⟩
    rw [List.mem_range] at hm
    obtain ⟨h1, h2, h3⟩ := mem_hA.1 hx
    rw [← h1] at h3
    exact ⟨by omega, by omega, h2, h3⟩
  · rintro ⟨h1, h2, h3, h4⟩
    refine ⟨x.2 - fm - 1, List.mem_range.2 (by omega), mem_hA.2 ⟨by omega, h3, ?_⟩⟩
    rw [show fm + 1 + (x.2 - fm - 1) = x.2 by omega]; exact h4
def hLt (a b : Hit) : Prop := a.2 < b.2 ∨ a.2 = b.2 ∧ a.1 < b.1
theorem hA_asc (L : List Pt) (s : Nm) (n i : Nat) : (hA L s n i).Pairwise hLt := by
  unfold hA
  rw [flat_if]
  refine List.pairwise_map.2 ((List.Pairwise.filter _ List.pairwise_lt_range).imp fun h => .inr ⟨rfl, h⟩)
theorem hAll_asc (L : List Pt) (s : Nm) (fm : Nat) : ∀ k, (hAll L s fm k).Pairwise hLt
  | 0 => List.Pairwise.nil
  | k + 1 => by
    rw [hAll_succ]
    refine List.pairwise_append.2 ⟨hAll_asc L s fm k, hA_asc L s _ _, fun a ha b hb => .inl ?_⟩
    have h1 := (mem_hAll.1 ha).2.1
    have h2 := (mem_hA.1 hb).1
    omega
theorem occ_full {p : Pt} {s : Nm} {n : Nat} (h : occB p s n = true) : p.t.length ≤ n ∧ (endL s p.t.length n = p.t ∨ p.nc = true ∧ lowL (endL s p.t.length n) = lowL p.t) := by
  unfold occB at h
  rw [Bool.and_eq_true, Bool.and_eq_true, decide_eq_true_iff, decide_eq_true_iff] at h
  refine ⟨h.2.1, ?_⟩
  have h3 := h.2.2
  by_cases hn : p.nc = true
  · rw [if_pos hn, decide_eq_true_iff] at h3; exact .inr ⟨hn, h3⟩
  · rw [if_neg hn, decide_eq_true_iff] at h3; exact .inl h3
theorem AutomatonExact_c [Gh] (l : Sl S_api_Pattern) (s : Nm) {h : Heap} (ol : SlOk 2 S_api_Pattern.vals S_api_Pattern.ok h l) (os : sOk h s) {Q : Value → Heap → Prop} (hk : ∀ h', Fr (fun _ => False) h h' → Q (.bool true) h') :
    CallT Tryd.prog fn_law45_AutomatonExact #[.slice l.p l.xs.length l.cap, .string (bs s)] h Q := by
  have o := ptS_ok ol
  have el : l.xs.length = (ptS l).xs.length := (List.length_map ..).symm
  rw [el, show l.p = (ptS l).p from rfl, show l.cap = (ptS l).cap from rfl]
  generalize ptS l = l at *
  apply law45_AutomatonExact_s
  unfold law45_AutomatonExact_v
  have aw : ∀ h', Fr (fun _ => False) h h' → CallT Tryd.prog fn_law45_awake #[] h' fun v h1 => ∃ t17 : Bool, v = .bool t17 ∧ Q (.bool t17) h1 := fun h' f => awake_c fun h2 f2 => ⟨_, rfl, hk h2 (f.trans f2)⟩
  refine ifD (fun _ => aw h (Fr.refl _ _)) fun e => ?_
  refine large_c o.pts (fun b hb => ⟨_, rfl, ifB (fun _ => aw h (Fr.refl _ _)) fun e2 => ?_⟩) o.cap
  obtain ⟨hb1, hb2⟩ := hb e2
  rw [bs_size]
  refine ifD (fun _ => aw h (Fr.refl _ _)) fun e3 => ?_
  refine Build_c l o trueOk (by omega) (fun h1 f1 he => ⟨_, _, rfl, ?_⟩) fun a h1 sg ws f1 A1 he => ⟨_, _, rfl, ?_⟩
  · rw [if_pos (by simpa using he)]; exact aw h1 f1
  rw [he, if_neg (by decide)]
  refine All_c A1 s (by omega) fun h2 r2 c2 f2 R2 hr2 => ⟨_, _, _, rfl, ?_⟩
  have hp : ∀ p ∈ l.xs, p.t.length ≤ 2 ^ 20 := fun p h => by have := hb2 p h; omega
  have F2 := f1.trans f2
  refine Plain_c (by omega) hp s (by omega) (PtOk.fr0 F2 o.pts) fun p3 c3 h3 f3 R3 hp3 => ⟨_, _, _, rfl, ?_⟩
  have hl := hAll_len l.xs s 0 s.length
  have hl2 : s.length * l.xs.length ≤ 600 * 600 := Nat.mul_le_mul (by omega) hb1
  refine same_c (R2.fr0 f3) R3 (by omega) ⟨_, rfl, ?_⟩
  rw [if_neg (by decide)]
  have F3 := F2.trans f3
  have Rh := R2.fr0 f3
  have hmem : ∀ x ∈ hAll l.xs s 0 s.length, 0 < x.2 ∧ x.2 ≤ 0 + s.length ∧ x.1 < l.xs.length ∧ occB (l.xs.getD x.1 ⟨[], false⟩) s x.2 = true := fun x hx => mem_hAll.1 hx
  generalize hAll l.xs s 0 s.length = H at *
  refine LoopV.go (fun n st h' => ∃ i : Nat, st = (i : Int) ∧ i ≤ H.length ∧ n = H.length - i ∧ Fr (fun _ => False) h3 h') H.length ⟨0, rfl, by omega, rfl, Fr.refl _ _⟩ ?_
  rintro n - h4 ⟨i, rfl, hi, rfl, f4⟩ Kn hK
  unfold law45_AutomatonExact_l1
  refine ifD (fun e4 => ?_) fun e4 => ?_
  · have hil : i < H.length := by omega
    obtain ⟨m1, m2, m3, m4⟩ := hmem _ (List.getElem_mem hil)
    rw [getPt _ _ m3] at m4
    obtain ⟨m5, m6⟩ := occ_full m4
    have hpl := hb2 _ (List.getElem_mem m3)
    refine (Rh.fr0 f4).idx hitV_len (by decide) i rfl hil fun ad ci => ?_
    have ci : Cells h4 (ad.add (i * 2)) [.int .i64 H[i].1, .int .i64 H[i].2] := ci
    rw [Int.toNat_natCast]
    refine ldI_mk (ci.at0 rfl) (ldI_mk (ci.at (j := 1) rfl) ?_)
    refine al_mk (vs := [.int .i64 0, .int .i64 0]) fun t9 h5 f5 e5 o5 => ?_
    refine stN_own o5 (ws := [.int .i64 H[i].1, .int .i64 H[i].2]) (by rfl) (by rfl) fun h6 f6 s6 o6 => ?_
    have f46 : Fr (fun _ => False) h4 h6 := f5.tr f6 fun b hb hi => by omega
    have F6 := (F3.trans f4).trans f46
    have S6 := PtOk.fr0 F6 o.pts
    have c6 := o6.cells
    generalize hx : H[i] = x at *
    obtain ⟨j, en⟩ := x
    dsimp only at m1 m2 m3 m4 m5 m6 hpl c6
    have hget : ∀ {K : Addr → Prop}, (∀ ad, Cells h6 (ad.add (j * 2)) [.string (bs l.xs[j].t), .bool l.xs[j].nc] → K ad) → idxA (j : Int) l.xs.length (nn l.p fun a => K a) := fun hk => S6.get j rfl m3 hk
    refine ldI_mk (c6.at0 rfl) (ifD (fun hh => absurd hh (by omega)) fun _ => ?_)
    refine ldI_mk (c6.at0 rfl) (ifD (fun hh => absurd hh (by omega)) fun _ => ?_)
    refine ldI_mk (c6.at (j := 1) rfl) (ldI_mk (c6.at0 rfl) (hget fun ad2 c2 => ?_))
    rw [Int.toNat_natCast]
    refine ldS_mk (c2.at0 rfl) ?_
    rw [bs_size]
    refine ifD (fun hh => absurd hh (by omega)) fun _ => ?_
    refine ldI_mk (c6.at (j := 1) rfl) (ifD (fun hh => absurd hh (by rw [bs_size]; omega)) fun _ => ?_)
    refine ldI_mk (c6.at (j := 1) rfl) (ldI_mk (c6.at0 rfl) (hget fun ad2 c2 => ?_))
    refine ldS_mk (c2.at0 rfl) (ldI_mk (c6.at (j := 1) rfl) ?_)
    rw [bs_size, wr (by omega) (by omega)]
    refine slS s (en - l.xs[j].t.length) en (by omega) rfl (by omega) (by omega) ?_
    have he2 : (s.drop (en - l.xs[j].t.length)).take (en - (en - l.xs[j].t.length)) = endL s l.xs[j].t.length en := by unfold endL; rw [show en - (en - l.xs[j].t.length) = l.xs[j].t.length by omega]
    rw [he2]
    have hel : (endL s l.xs[j].t.length en).length ≤ 300 := by unfold endL; rw [List.length_take]; omega
    refine ldI_mk (c6.at0 rfl) (hget fun ad2 c2 => ldS_mk (c2.at0 rfl) ?_)
    have next : ∀ h7, Fr (fun _ => False) h6 h7 → Kn (wrap .i64 ((i : Int) + 1)) h7 := fun h7 f7 => by
      rw [wr (by omega) (by omega)]
      exact hK (H.length - (i + 1)) _ _ (by omega) ⟨i + 1, rfl, hil, rfl, (f4.trans f46).trans f7⟩
    refine ifSn (fun hne => ?_) fun _ => next h6 (Fr.refl _ _)
    have m6 := m6.resolve_left hne
    refine ldI_mk (c6.at0 rfl) (hget fun ad2 c2 => ldB_mk (c2.at (j := 1) rfl) ?_)
    rw [m6.1, if_neg (by decide)]
    refine ldI_mk (c6.at0 rfl) (hget fun ad2 c2 => ldS_mk (c2.at0 rfl) ?_)
    refine Apply1_c _ (by omega) fun h7 f7 => ⟨_, rfl, ldI_mk ((c6.fr0 f7).at0 rfl) rfl, ldS_mk ((c2.fr0 f7).at0 rfl) rfl, ?_⟩
    refine Apply1_c _ (by omega) fun h8 f8 => ⟨_, rfl, ?_⟩
    rw [m6.2]
    exact ifSn (fun hh => absurd rfl hh) fun _ => next h8 (f7.trans f8)
  · unfold law45_AutomatonExact_b2
    exact aw h4 (F3.trans f4)
theorem low_idem (l : Nm) : lowL (lowL l) = lowL l := by
  unfold lowL
  rw [List.map_map]
  refine List.map_congr_left fun x _ => byteI_inj ?_
  show byteI (lowB (lowB x)) = _
  rw [byteI_low, byteI_low]
  unfold smallI
  by_cases h : 65 ≤ byteI x ∧ byteI x ≤ 90
  · rw [if_pos h, if_neg (by omega)]
  · rw [if_neg h, if_neg h]
theorem AutomatonPlants_c [Gh] (l : Sl S_api_Pattern) (w : Int) (bf af : Nm) {h : Heap} (ol : SlOk 2 S_api_Pattern.vals S_api_Pattern.ok h l) (ow : kOk .u8 h w) (ob : sOk h bf) (oa : sOk h af) {Q : Value → Heap → Prop} (hk : ∀ h', Fr (fun _ => False) h h' → Q (.bool true) h') :
    CallT Tryd.prog fn_law45_AutomatonPlants #[.slice l.p l.xs.length l.cap, .int .u8 w, .string (bs bf), .string (bs af)] h Q := by
  have o := ptS_ok ol
  have el : l.xs.length = (ptS l).xs.length := (List.length_map ..).symm
  rw [el, show l.p = (ptS l).p from rfl, show l.cap = (ptS l).cap from rfl]
  generalize ptS l = l at *
  apply law45_AutomatonPlants_s
  unfold law45_AutomatonPlants_v
  have hw := wf8 ow
  have aw : ∀ h', Fr (fun _ => False) h h' → CallT Tryd.prog fn_law45_awake #[] h' fun v h1 => ∃ t17 : Bool, v = .bool t17 ∧ Q (.bool t17) h1 := fun h' f => awake_c fun h2 f2 => ⟨_, rfl, hk h2 (f.trans f2)⟩
  refine ifE (fun _ => aw h (Fr.refl _ _)) fun e0 => ?_
  refine ifD (fun _ => aw h (Fr.refl _ _)) fun e => ?_
  refine large_c o.pts (fun b hb => ⟨_, rfl, ifB (fun _ => aw h (Fr.refl _ _)) fun e2 => ?_⟩) o.cap
  obtain ⟨hb1, hb2⟩ := hb e2
  rw [bs_size, bs_size]
  refine ifD (fun _ => aw h (Fr.refl _ _)) fun e3 => ?_
  refine ifD (fun _ => aw h (Fr.refl _ _)) fun e4 => ?_
  refine Build_c l o trueOk (by omega) (fun h1 f1 he => ⟨_, _, rfl, ?_⟩) fun a h1 sg ws f1 A1 he => ⟨_, _, rfl, ?_⟩
  · rw [if_pos (by simpa using he)]; exact aw h1 f1
  rw [he, if_neg (by decide)]
  have hpos : 0 < l.xs.length := by omega
  obtain ⟨i, hi, hil⟩ : ∃ i : Nat, Int.tmod (wrap .i64 w) ((l.xs.length : Nat) : Int) = (i : Int) ∧ i < l.xs.length := by
    rw [wr (by omega) (by omega)]
    have h1 := Int.tmod_nonneg ((l.xs.length : Nat) : Int) hw.1
    have h2 := Int.tmod_lt_of_pos w (b := ((l.xs.length : Nat) : Int)) (by omega)
    exact ⟨(Int.tmod w ((l.xs.length : Nat) : Int)).toNat, by omega, by omega⟩
  rw [hi]
  have S1 := PtOk.fr0 f1 o.pts
  have hpl := errL_ok A1.ok _ (List.getElem_mem hil)
  refine ⟨by omega, S1.get i rfl hil fun ad ci => ?_⟩
  rw [Int.toNat_natCast]
  refine ldS_mk (ci.at0 rfl) (S1.get i rfl hil fun ad ci => ldB_mk (ci.at (j := 1) rfl) ?_)
  -- the text with the pattern
  have main : ∀ (p : Nm) (h2 : Heap), Fr (fun _ => False) h1 h2 → (if l.xs[i].nc = true then p = lowL l.xs[i].t else p = l.xs[i].t) → law45_AutomatonPlants_b1 (bs bf) (bs af) (some a) (i : Int) (bs p) Q h2 := fun p h2 f2 hp => by
    unfold law45_AutomatonPlants_b1
    have hlen : p.length = l.xs[i].t.length := by
      split at hp
      · rw [hp, lowL_len]
      · rw [hp]
    have emax : IntKind.max .i64 = 9223372036854775807 := by decide
    rw [bs_append, bs_append, bs_size, bs_size, bs_size, bs_size, List.length_append, emax]
    refine ⟨by omega, by omega, ?_⟩
    have hocc : occB l.xs[i] (bf ++ p ++ af) (bf.length + p.length) = true := by
      unfold occB
      have hend : endL (bf ++ p ++ af) l.xs[i].t.length (bf.length + p.length) = p := by
        unfold endL
        rw [← hlen, Nat.add_sub_cancel, List.append_assoc, List.drop_left' rfl, List.take_left' rfl]
      rw [decide_eq_true hpl.1, decide_eq_true (by omega), hend, Bool.true_and, Bool.true_and]
      by_cases hn : l.xs[i].nc = true
      · rw [if_pos hn] at hp ⊢
        rw [hp, low_idem, decide_eq_true rfl]
      · rw [if_neg hn] at hp ⊢
        rw [hp, decide_eq_true rfl]
    refine All_c (A1.fr0 f2) (bf ++ p ++ af) (by rw [List.length_append, List.length_append]; omega) fun h3 r c f3 R3 hr => ⟨_, _, _, rfl, ?_⟩
    have hin : (i, bf.length + p.length) ∈ hAll l.xs (bf ++ p ++ af) 0 (bf ++ p ++ af).length := mem_hAll.2 ⟨by have := List.length_pos_iff.2 hpl.1; show 0 < bf.length + p.length; omega, by rw [List.length_append, List.length_append]; show bf.length + p.length ≤ _; omega, hil, by rw [getPt _ _ hil]; exact hocc⟩
    have hasc := hAll_asc l.xs (bf ++ p ++ af) 0 (bf ++ p ++ af).length
    have hbd : ∀ x ∈ hAll l.xs (bf ++ p ++ af) 0 (bf ++ p ++ af).length, x.1 < 600 ∧ x.2 ≤ 1000 := fun x hx => by
      have := mem_hAll.1 hx
      rw [List.length_append, List.length_append] at this
      exact ⟨by omega, by omega⟩
    have hHl := hAll_len l.xs (bf ++ p ++ af) 0 (bf ++ p ++ af).length
    have hHl2 : (bf ++ p ++ af).length * l.xs.length ≤ 1000 * 600 := Nat.mul_le_mul (by rw [List.length_append, List.length_append]; omega) hb1
    generalize hAll l.xs (bf ++ p ++ af) 0 (bf ++ p ++ af).length = H at *
    have hnd : H.Nodup := hasc.imp fun {a b} hh e => by subst e; rcases hh with h | h <;> omega
    generalize hgx : ((i, bf.length + p.length) : Hit) = gx at *
    have hg1 : gx.1 = i := by rw [← hgx]
    have hg2 : gx.2 = bf.length + p.length := by rw [← hgx]
    refine LoopV.go (fun n st h' => ∃ k : Nat, st.2 = (k : Int) ∧ st.1 = ((H.take k).count gx : Nat) ∧ k ≤ H.length ∧ n = H.length - k ∧ h' = h3) H.length ⟨0, rfl, by simp, by omega, rfl, rfl⟩ ?_
    rintro n ⟨cn, t73⟩ h4 ⟨k, e5, e6, hk', rfl, rfl⟩ Kn hK
    dsimp only at e5 e6
    subst e5 e6
    dsimp only
    unfold law45_AutomatonPlants_l2
    have hcl := List.count_le_length (l := H.take k) (a := gx)
    rw [List.length_take] at hcl
    refine ifD (fun e7 => ?_) fun e7 => ?_
    · have hkl : k < H.length := by omega
      have htk : (H.take (k + 1)).count gx = (H.take k).count gx + (if H[k] = gx then 1 else 0) := by
        rw [show H.take (k + 1) = H.take k ++ [H[k]] by rw [List.take_append_getElem], List.count_append, List.count_singleton]
        congr 1
        by_cases hh : H[k] = gx
        · rw [if_pos hh, if_pos (by rw [hh]; exact beq_self_eq_true _)]
        · rw [if_neg hh, if_neg (by simpa using hh)]
      have hbk := hbd _ (List.getElem_mem hkl)
      have b3 : ∀ m : Int, m = ((H.take (k + 1)).count gx : Nat) → law45_AutomatonPlants_b3 (bs bf) (i : Int) (bs p) r H.length c m (k : Int) ((H.length : Nat) : Int) (k : Int) Q Kn h4 := fun m hm => by
        subst hm
        unfold law45_AutomatonPlants_b3
        rw [wr (x := (k : Int) + 1) (by omega) (by omega)]
        have nx := hK (H.length - (k + 1)) (((((H.take (k + 1)).count gx : Nat) : Int)), ((k : Int) + 1)) h4 (by omega) ⟨k + 1, rfl, rfl, hkl, rfl, rfl⟩
        refine ifD (fun e8 => ?_) fun e8 => nx
        have hk1 : k - 1 < H.length := by omega
        have ek : wrap .i64 ((k : Int) - 1) = ((k - 1 : Nat) : Int) := by rw [wr (by omega) (by omega)]; omega
        have hlt : hLt H[k - 1] H[k] := List.pairwise_iff_getElem.1 hasc (k - 1) k hk1 hkl (by omega)
        rw [ek]
        have g1 : ∀ {K : Addr → Prop}, (∀ ad, Cells h4 (ad.add (k * 2)) [.int .i64 H[k].1, .int .i64 H[k].2] → K ad) → idxA (k : Int) H.length (nn r fun a => K a) := fun hk => R3.idx hitV_len (by decide) k rfl hkl hk
        have g2 : ∀ {K : Addr → Prop}, (∀ ad, Cells h4 (ad.add ((k - 1) * 2)) [.int .i64 H[k - 1].1, .int .i64 H[k - 1].2] → K ad) → idxA ((k - 1 : Nat) : Int) H.length (nn r fun a => K a) := fun hk => R3.idx hitV_len (by decide) (k - 1) rfl hk1 hk
        rw [Int.toNat_natCast, Int.toNat_natCast]
        refine g1 fun ad c1 => ldI_mk (c1.at (j := 1) rfl) (g2 fun ad c2 => ldI_mk (c2.at (j := 1) rfl) (ifD (fun hh => ?_) fun _ => ?_))
        · rcases hlt with h | h <;> omega
        refine g1 fun ad c1 => ldI_mk (c1.at (j := 1) rfl) (g2 fun ad c2 => ldI_mk (c2.at (j := 1) rfl) (ifE (fun hh => ?_) fun _ => nx))
        refine g1 fun ad c1 => ldI_mk (c1.at0 rfl) (g2 fun ad c2 => ldI_mk (c2.at0 rfl) (ifD (fun hh2 => ?_) fun _ => nx))
        rcases hlt with h | h <;> omega
      refine R3.idx hitV_len (by decide) k rfl hkl fun ad ck => ?_
      have ck : Cells h4 (ad.add (k * 2)) [.int .i64 H[k].1, .int .i64 H[k].2] := ck
      rw [Int.toNat_natCast]
      refine ldI_mk (ck.at0 rfl) (ldI_mk (ck.at (j := 1) rfl) ?_)
      rw [bs_size, bs_size, wr (x := ((bf.length : Nat) : Int) + ((p.length : Nat) : Int)) (by omega) (by omega), Bool.and_true]
      by_cases hh : H[k] = gx
      · rw [if_pos (by rw [hh, hg1, hg2, Bool.and_eq_true, beq_iff_eq, beq_iff_eq]; exact ⟨rfl, by omega⟩)]
        rw [if_pos hh] at htk
        exact b3 _ (by rw [wr (by omega) (by omega), htk]; omega)
      · rw [if_neg (fun h2 => hh (by
          rw [Bool.and_eq_true, beq_iff_eq, beq_iff_eq] at h2
          exact Prod.ext (by omega) (by omega)))]
        rw [if_neg hh] at htk
        exact b3 _ (by rw [htk]; rfl)
    · have : k = H.length := by omega
      subst this
      unfold law45_AutomatonPlants_b4
      rw [List.take_length, hnd.count, if_pos hin, if_pos (by decide)]
      exact aw h4 ((f1.trans f2).trans f3)
  refine ifB (fun hn => ?_) fun hn => ?_
  · exact Apply1_c _ (by omega) fun h2 f2 => ⟨_, rfl, main _ h2 f2 (by rw [if_pos hn])⟩
  · exact main _ h1 (Fr.refl _ _) (by rw [if_neg (by rw [hn]; decide)])
end Go.Proofs.YthnheldoklgceaaDoor
