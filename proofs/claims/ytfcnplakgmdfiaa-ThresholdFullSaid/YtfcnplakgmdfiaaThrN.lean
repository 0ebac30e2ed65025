/-
  The reference's Filter: the new list.
-/
import Derived.Test.YtfcnplakgmdfiaaThrM
namespace Go.Proofs.Ytfcnplakgmdfiaa
set_option linter.unusedSimpArgs false
set_option linter.unusedVariables false
set_option maxRecDepth 20000
open Go
open Go.IntKind (wrap)
theorem cur_take_ne {L : List Tri} {e : Tri} {K : Key} (T secs : Int) (h : e.1 ≠ K) : curL (L ++ [e]) K T secs = curL L K T secs := by
  unfold curL
  rw [List.find?_append]
  have : [e].find? (fun e => decide (e.1 = K)) = none := by
    rw [List.find?_eq_none]; intro x hx; rw [List.mem_singleton.1 hx]; exact fun hh => h (of_decide_eq_true hh)
  rw [this, Option.or_none]
theorem cur_take_eq {L : List Tri} {e : Tri} {K : Key} (T secs : Int) (h : e.1 = K) (hn : ∀ x ∈ L, x.1 ≠ K) : curL (L ++ [e]) K T secs = (if T ≥ e.2.1 + 1000 * secs then (T, 0) else (e.2.1, e.2.2)) ∧ curL L K T secs = (T, 0) := by
  have h1 : L.find? (fun e => decide (e.1 = K)) = none := by
    rw [List.find?_eq_none]; intro x hx; exact fun hh => hn x hx (of_decide_eq_true hh)
  have h2 : [e].find? (fun e => decide (e.1 = K)) = some e := by simp [h]
  unfold curL
  rw [List.find?_append, h1, h2]
  exact ⟨rfl, rfl⟩
theorem keyEq (a b : Key) : (!((a.sid == b.sid) && (((a.th.kind == b.th.kind) && ((a.th.by_ == b.th.by_) && ((a.th.count == b.th.count) && ((a.th.secs == b.th.secs) && true)))) && (((a.a.v6 == b.a.v6) && ((a.a.hi == b.a.hi) && ((a.a.lo == b.a.lo) && true))) && (((a.b.v6 == b.b.v6) && ((a.b.hi == b.b.hi) && ((a.b.lo == b.b.lo) && true))) && true))))) = decide (a ≠ b) := by
  obtain ⟨s1, ⟨t1, t2, t3, t4⟩, ⟨a1, a2, a3⟩, ⟨b1, b2, b3⟩⟩ := a
  obtain ⟨s1', ⟨t1', t2', t3', t4'⟩, ⟨a1', a2', a3'⟩, ⟨b1', b2', b3'⟩⟩ := b
  rw [Bool.eq_iff_iff]
  simp [Key.mk.injEq, Th.mk.injEq, Ad.mk.injEq]
theorem rf_l3 [Gh] {ok : Nat → Prop} {h : Heap} {x : Addr} {T : Int} {p : Option Addr} {cap : Nat} {L : List Tri} (ox : Own h x [.int .i64 T, .slice p L.length cap] T_intrusionref51_Table) (okx : ok x.block) (hok : ∀ b, h.size ≤ b → ok b) (R : RowT h p cap L)
    (hT : 0 ≤ T ∧ T ≤ 2 ^ 40) (num : ∀ e ∈ L, 0 ≤ e.2.1 ∧ e.2.1 ≤ 2 ^ 40 ∧ 0 ≤ e.2.2 ∧ e.2.2 ≤ 2 ^ 40) (nd : (L.map (·.1)).Nodup) {t8 c11 : Addr} (hp : ∀ b, InA p b → b ≠ x.block ∧ b ≠ c11.block)
    {th : Th} (hcB : countsB th = true) (o8 : Own h t8 th.vals T_api_Threshold) (h8 : t8.block ≠ x.block ∧ t8.block ≠ c11.block) {K : Key} (oc : Own h c11 (triV (K, T, 0)) T_intrusionref51_Counter) (hc : c11.block ≠ x.block) (hl : L.length ≤ 2 ^ 18) {Q : Value → Heap → Prop}
    (hk : ∀ h' L', Fr (fun y => y = x.block ∨ y = c11.block) h h' → RefR ok h' x T L' → StepF L L' K T th.secs → Q (.bool (kindB th ((curL L K T th.secs).2 + 1))) h') :
    LoopV (fun (s : (Option Addr) × Nat × Nat × Int) h Kn => ref51_Table_Filter_l3 (some x) t8 c11 Q s.1 s.2.1 s.2.2.1 s.2.2.2 h Kn) (none, 0, 0, 0) h := by
  obtain ⟨b1, b2, b3, b4, b5, b6, b7, b8⟩ := countsB_iff.1 hcB
  have lx := ox.lt
  have l8 := o8.lt
  have lc := oc.lt
  refine LoopV.mk (fun st h' => ∃ (k : Nat) (p' : Option Addr) (cap' : Nat) (b n : Int), st = (p', ((L.take k).filter fun e => decide (e.1 ≠ K)).length, cap', (k : Int)) ∧ k ≤ L.length ∧ RowT h' p' cap' ((L.take k).filter fun e => decide (e.1 ≠ K)) ∧ (∀ y, InA p' y → h.size ≤ y) ∧ Own h' c11 (triV (K, b, n)) T_intrusionref51_Counter ∧
      curL (L.take k) K T th.secs = (b, n) ∧ (0 ≤ n ∧ n ≤ 2 ^ 40) ∧ Fr (fun y => y = c11.block) h h') (fun st _ => L.length - st.2.2.2.toNat)
    ⟨0, none, 0, T, 0, rfl, by omega, ⟨⟨rfl, rfl⟩, Nat.le_refl _⟩, fun y hy => (notInA hy).elim, oc, rfl, by omega, Fr.refl _ _⟩ ?_
  rintro - h1 ⟨k, p', cap', b, n, rfl, hkl, R', hp', oc, hcur, hn, f1⟩
  have ox := ox.fr f1 (fun e => hc e.symm)
  have o8 := o8.fr f1 h8.2
  have R1 := R.fr f1 (fun y hy => (hp y hy).2)
  have z1 := f1.size
  unfold ref51_Table_Filter_l3
  simp only
  refine nn_mk (ldL_mk (ox.cells.at rfl) ?_)
  refine ifD (fun hb => ?_) fun hb => ?_
  · have hi : k < L.length := by omega
    have hw : wrap .i64 ((k : Int) + 1) = ((k + 1 : Nat) : Int) := by rw [wr (by omega) (by omega)]; omega
    rw [hw]
    have et : L.take (k + 1) = L.take k ++ [L[k]] := List.take_succ_eq_append_getElem hi
    have hfl : ((L.take k).filter fun e => decide (e.1 ≠ K)).length ≤ k := Nat.le_trans (List.length_filter_le ..) (by rw [List.length_take]; omega)
    have hnum := num _ (List.getElem_mem hi)
    refine nn_mk (ldL_mk (ox.cells.at rfl) ?_)
    refine R1.idx k rfl hi fun ad c1 => ?_
    rw [Int.toNat_natCast]
    refine (ldI_mk (c1.at0 rfl) (ldI_mk (c1.at rfl) (ldI_mk (c1.at rfl) (ldI_mk (c1.at rfl) (ldI_mk (c1.at rfl) (ldB_mk (c1.at rfl) (ldI_mk (c1.at rfl) (ldI_mk (c1.at rfl) (ldB_mk (c1.at rfl) (ldI_mk (c1.at rfl) (ldI_mk (c1.at rfl) ?_)))))))))))
    refine (ldI_mk (oc.cells.at0 rfl) (ldI_mk (oc.cells.at rfl) (ldI_mk (oc.cells.at rfl) (ldI_mk (oc.cells.at rfl) (ldI_mk (oc.cells.at rfl) (ldB_mk (oc.cells.at rfl) (ldI_mk (oc.cells.at rfl) (ldI_mk (oc.cells.at rfl) (ldB_mk (oc.cells.at rfl) (ldI_mk (oc.cells.at rfl) (ldI_mk (oc.cells.at rfl) ?_)))))))))))
    rw [keyEq]
    refine ifD (fun e => ?_) fun e => ?_
    · have ef : ((L.take (k + 1)).filter fun e => decide (e.1 ≠ K)) = ((L.take k).filter fun e => decide (e.1 ≠ K)) ++ [L[k]] := by
        rw [et, List.filter_append]; congr 1; simp [e]
      have ec := cur_take_ne (L := L.take k) T th.secs e
      rw [← et, hcur] at ec
      refine nn_mk (ldL_mk (ox.cells.at rfl) ?_)
      refine R1.idx k rfl hi fun ad c1 => ?_
      refine (ldI_mk (c1.at0 rfl) (ldI_mk (c1.at rfl) (ldI_mk (c1.at rfl) (ldI_mk (c1.at rfl) (ldI_mk (c1.at rfl) (ldB_mk (c1.at rfl) (ldI_mk (c1.at rfl) (ldI_mk (c1.at rfl) (ldB_mk (c1.at rfl) (ldI_mk (c1.at rfl) (ldI_mk (c1.at rfl) (ldI_mk (c1.at rfl) (ldI_mk (c1.at rfl) ?_)))))))))))))
      refine al_mk (vs := triV L[k]) fun a h2 f2 e2 oa => ?_
      have z2 := f2.size
      refine (R'.fr f2 (fun _ _ => id)).app oa (by omega) fun p2 c2 h3 R3 f3 n3 => ⟨_, _, _, rfl, ?_⟩
      rw [← ef] at R3 ⊢
      have away : ∀ y, y < h.size → ¬ InA p' y := fun y hy hi => by have := hp' y hi; omega
      refine ⟨⟨k + 1, p2, c2, b, n, rfl, by omega, R3, fun y hy => ?_, (oc.fr0 f2).fr f3 (away _ lc), ec, hn, ?_⟩, by omega⟩
      · rcases n3 y hy with h | h
        · exact hp' y h
        · omega
      · exact (f1.trans (f2.mono fun _ h => h.elim)).tr f3 fun y hy hi => absurd hi (away y hy)
    · have eK : L[k].1 = K := by simpa using e
      have ef : ((L.take (k + 1)).filter fun e => decide (e.1 ≠ K)) = ((L.take k).filter fun e => decide (e.1 ≠ K)) := by
        rw [et, List.filter_append]; simp [eK]
      have hno : ∀ y ∈ L.take k, y.1 ≠ K := fun y hy hyK => by
        obtain ⟨j, hj, rfl⟩ := List.getElem_of_mem hy
        have hj' : j < k := by rw [List.length_take] at hj; omega
        rw [List.getElem_take] at hyK
        have := (List.getElem_inj (h₀ := by simp; omega) (h₁ := by simpa using hi) nd (i := j) (j := k)).1 (by simp only [List.getElem_map]; rw [hyK, eK])
        omega
      obtain ⟨ec, ec0⟩ := cur_take_eq (L := L.take k) T th.secs eK hno
      rw [← et] at ec
      rw [ec0] at hcur
      obtain ⟨rfl, rfl⟩ := Prod.mk.inj hcur
      refine nn_mk (ldI_mk (ox.cells.at0 rfl) (nn_mk (ldL_mk (ox.cells.at rfl) ?_)))
      refine R1.idx k rfl hi fun ad c1 => ?_
      refine ldI_mk (c1.at (j := 11) rfl) (ldI_mk (o8.cells.at rfl) ?_)
      rw [wr (x := 1000 * th.secs) (by omega) (by omega), wr (by omega) (by omega)]
      refine ifD (fun e3 => ?_) fun e3 => ?_
      · rw [if_neg (by omega)] at ec
        refine nn_mk (ldL_mk (ox.cells.at rfl) ?_)
        refine R1.idx k rfl hi fun ad c1 => ?_
        refine (ldI_mk (c1.at0 rfl) (ldI_mk (c1.at rfl) (ldI_mk (c1.at rfl) (ldI_mk (c1.at rfl) (ldI_mk (c1.at rfl) (ldB_mk (c1.at rfl) (ldI_mk (c1.at rfl) (ldI_mk (c1.at rfl) (ldB_mk (c1.at rfl) (ldI_mk (c1.at rfl) (ldI_mk (c1.at rfl) (ldI_mk (c1.at rfl) (ldI_mk (c1.at rfl) ?_)))))))))))))
        refine stN_own oc (ws := triV L[k]) rfl rfl fun h2 f2 s2 oc => ?_
        have eL : L[k] = (K, L[k].2.1, L[k].2.2) := by rw [← eK]
        rw [eL] at oc
        have R2 := R'.fr f2 (fun y hy => by have := hp' y hy; omega)
        rw [← ef] at R2 ⊢
        exact ⟨⟨k + 1, p', cap', _, _, rfl, by omega, R2, hp', oc, ec, ⟨hnum.2.2.1, hnum.2.2.2⟩, f1.trans f2⟩, by omega⟩
      · rw [if_pos (by omega)] at ec
        rw [← ef] at R' ⊢
        exact ⟨⟨k + 1, p', cap', _, _, rfl, by omega, R', hp', oc, ec, hn, f1⟩, by omega⟩
  · have ek : k = L.length := by omega
    subst ek
    rw [List.take_length] at hcur R' ⊢
    have hfl : (L.filter fun e => decide (e.1 ≠ K)).length ≤ L.length := List.length_filter_le ..
    have nd2 : (((L.filter fun e => decide (e.1 ≠ K)) ++ [(K, b, n + 1)]).map (·.1)).Nodup := by
      rw [List.map_append, List.nodup_append]
      refine ⟨nd.sublist (List.filter_sublist.map _), by simp, fun y hy z hz => ?_⟩
      obtain ⟨e, he, rfl⟩ := List.mem_map.1 hy
      simp at hz
      subst hz
      exact of_decide_eq_true (List.mem_filter.1 he).2
    have hk' := hk
    rw [hcur] at hk'
    refine rf_b4 ox okx (fun y hy => hok y (by omega)) R' (fun y hy => ?_) o8 h8 (by omega) oc hc b5 (by omega) nd2 fun h2 L' f2 R2 sh => hk' h2 L' ?_ R2 ?_
    · have := hp' y hy; exact ⟨by omega, hok y (by omega), by omega, by omega⟩
    · exact (f1.mono fun _ h => .inr h).tr f2 fun y hy hi => by
        rcases hi with h | h | h
        · exact .inl h
        · exact .inr h
        · have := hp' y h; omega
    · unfold StepF addL; rw [hcur]; exact sh
end Go.Proofs.Ytfcnplakgmdfiaa
