/-
  The reference's Filter: the counter that is forgotten, and the new list.
-/
import Derived.Test.YtfcnplakgmdfiaaThrL
namespace Go.Proofs.Ytfcnplakgmdfiaa
set_option linter.unusedSimpArgs false
set_option linter.unusedVariables false
set_option maxRecDepth 20000
open Go
open Go.IntKind (wrap)
theorem befT_irr (x : Tri) : befT x x = false := befK_irr _ _
theorem befT_trans {x y z : Tri} (h1 : befT x y = true) (h2 : befT y z = true) : befT x z = true := befK_trans h1 h2
theorem rf_loop [Gh] {ok : Nat → Prop} {h : Heap} {x : Addr} {T : Int} {v1 : Value} (ox : Own h x [.int .i64 T, v1] T_intrusionref51_Table) (okx : ok x.block) (hok : ∀ b, h.size ≤ b → ok b) {p : Option Addr} {cap : Nat} {L : List Tri} (R : RowT h p cap L)
    {t8 c11 : Addr} {th : Th} (o8 : Own h t8 th.vals T_api_Threshold) (h8 : t8.block ≠ x.block) {e : Tri} (oc : Own h c11 (triV e) T_intrusionref51_Counter) (hc : c11.block ≠ x.block) (hc1 : 1 ≤ th.count) (hl : L.length ≤ 2 ^ 19) (hpos : 0 < L.length) {Q : Value → Heap → Prop}
    (hk : ∀ h' (f : Nat) (hf : f < L.length), (∀ j (hj : j < L.length), befT L[j] L[f] = false) → Fr (fun b => b = x.block) h h' → RefR ok h' x T (L.take f ++ L.drop (f + 1)) → Q (.bool (kindB th e.2.2)) h') :
    LoopV (fun (s : Int × Int) h Kn => ref51_Table_Filter_l5 (some x) t8 c11 p L.length cap Q s.1 s.2 h Kn) (0, 1) h := by
  have m0 : ∀ j (hj : j < L.length), j < 1 → befT L[j] L[0] = false := fun j hj h1 => by
    have : j = 0 := by omega
    subst this
    exact befT_irr _
  refine LoopV.mk (fun st h' => ∃ (i f : Nat) (hf : f < L.length), st = ((f : Int), (i : Int)) ∧ i ≤ L.length ∧ Fr (fun _ => False) h h' ∧ ∀ j (hj : j < L.length), j < i → befT L[j] L[f] = false) (fun st _ => L.length - st.2.toNat)
    ⟨1, 0, hpos, rfl, by omega, Fr.refl _ _, m0⟩ ?_
  rintro - h1 ⟨i, f, hf, rfl, hil, f1, hmin⟩
  have R1 := R.fr f1 (fun _ _ => id)
  unfold ref51_Table_Filter_l5
  simp only
  refine ifD (fun hb => ?_) fun hb => ?_
  · have hi : i < L.length := by omega
    have hw : wrap .i64 ((i : Int) + 1) = ((i + 1 : Nat) : Int) := by rw [wr (by omega) (by omega)]; omega
    rw [hw]
    have take : ∀ h2, Fr (fun _ => False) h1 h2 → befT L[i] L[f] = true → (∃ (i' f' : Nat) (hf : f' < L.length), (((i : Nat) : Int), ((i + 1 : Nat) : Int)) = ((f' : Int), (i' : Int)) ∧ i' ≤ L.length ∧ Fr (fun _ => False) h h2 ∧ ∀ j (hj : j < L.length), j < i' → befT L[j] L[f'] = false) ∧ L.length - (((i + 1 : Nat) : Int)).toNat < L.length - i := by
      intro h2 f2 hbf
      refine ⟨⟨i + 1, i, hi, rfl, by omega, f1.trans f2, fun j hj hji => ?_⟩, by omega⟩
      by_cases e : j = i
      · subst e; exact befT_irr _
      · cases hx : befT L[j] L[i] with
        | false => rfl
        | true =>
          have := hmin j hj (by omega)
          rw [befT_trans hx hbf] at this; cases this
    have keep : ∀ h2, Fr (fun _ => False) h1 h2 → befT L[i] L[f] = false → (∃ (i' f' : Nat) (hf : f' < L.length), (((f : Nat) : Int), ((i + 1 : Nat) : Int)) = ((f' : Int), (i' : Int)) ∧ i' ≤ L.length ∧ Fr (fun _ => False) h h2 ∧ ∀ j (hj : j < L.length), j < i' → befT L[j] L[f'] = false) ∧ L.length - (((i + 1 : Nat) : Int)).toNat < L.length - i := by
      intro h2 f2 hbf
      refine ⟨⟨i + 1, f, hf, rfl, by omega, f1.trans f2, fun j hj hji => ?_⟩, by omega⟩
      by_cases e : j = i
      · subst e; exact hbf
      · exact hmin j hj (by omega)
    unfold befT befK at take keep
    refine R1.idx i rfl hi fun ad c1 => ?_
    rw [Int.toNat_natCast]
    refine ldI_mk (c1.at (j := 11) rfl) ?_
    refine R1.idx f rfl hf fun ad c2 => ?_
    rw [Int.toNat_natCast]
    refine ldI_mk (c2.at (j := 11) rfl) ?_
    refine ifD (fun e1 => take h1 (Fr.refl _ _) (by rw [decide_eq_true e1]; rfl)) fun e1 => ?_
    refine R1.idx i rfl hi fun ad c1 => ?_
    refine ldI_mk (c1.at (j := 11) rfl) ?_
    refine R1.idx f rfl hf fun ad c2 => ?_
    refine ldI_mk (c2.at (j := 11) rfl) ?_
    refine ifE (fun e2 => ?_) fun e2 => keep h1 (Fr.refl _ _) (by rw [decide_eq_false e1, decide_eq_false e2]; rfl)
    refine R1.idx i rfl hi fun ad c1 => ?_
    refine (ldI_mk (c1.at0 rfl) (ldI_mk (c1.at rfl) (ldI_mk (c1.at rfl) (ldI_mk (c1.at rfl) (ldI_mk (c1.at rfl) (ldB_mk (c1.at rfl) (ldI_mk (c1.at rfl) (ldI_mk (c1.at rfl) (ldB_mk (c1.at rfl) (ldI_mk (c1.at rfl) (ldI_mk (c1.at rfl) ?_)))))))))))
    refine R1.idx f rfl hf fun ad c2 => ?_
    refine (ldI_mk (c2.at0 rfl) (ldI_mk (c2.at rfl) (ldI_mk (c2.at rfl) (ldI_mk (c2.at rfl) (ldI_mk (c2.at rfl) (ldB_mk (c2.at rfl) (ldI_mk (c2.at rfl) (ldI_mk (c2.at rfl) (ldB_mk (c2.at rfl) (ldI_mk (c2.at rfl) (ldI_mk (c2.at rfl) ?_)))))))))))
    refine less_c L[i].1 L[f].1 fun h2 f2 => ⟨_, rfl, ?_⟩
    refine ifB (fun e3 => take h2 f2 (by rw [decide_eq_true e2, e3]; simp)) fun e3 => keep h2 f2 (by rw [decide_eq_false e1, e3]; simp)
  · have ei : i = L.length := by omega
    subst ei
    have z1 := f1.size
    exact rf_b6 (ox.fr0 f1) okx (fun b hb => hok b (by omega)) R1 (o8.fr0 f1) h8 (oc.fr0 f1) hc hc1 hl f hf fun h2 f2 R2 => hk h2 f hf (fun j hj => hmin j hj hj) ((f1.mono fun _ h => h.elim).trans f2) R2
theorem rf_b4 [Gh] {ok : Nat → Prop} {h : Heap} {x : Addr} {T : Int} {v1 : Value} (ox : Own h x [.int .i64 T, v1] T_intrusionref51_Table) (okx : ok x.block) (hok : ∀ b, h.size ≤ b → ok b) {p : Option Addr} {cap : Nat} {L : List Tri} (R : RowT h p cap L) {t8 c11 : Addr}
    (hp : ∀ b, InA p b → b ≠ x.block ∧ ok b ∧ b ≠ t8.block ∧ b ≠ c11.block) {th : Th} (o8 : Own h t8 th.vals T_api_Threshold) (h8 : t8.block ≠ x.block ∧ t8.block ≠ c11.block) {k : Key} {b n : Int} (hn : 0 ≤ n ∧ n ≤ 2 ^ 41) (oc : Own h c11 (triV (k, b, n)) T_intrusionref51_Counter) (hc : c11.block ≠ x.block) (hc1 : 1 ≤ th.count) (hl : L.length ≤ 2 ^ 18)
    (nd : ((L ++ [(k, b, n + 1)]).map (·.1)).Nodup) {Q : Value → Heap → Prop}
    (hk : ∀ h' L', Fr (fun y => y = x.block ∨ y = c11.block ∨ InA p y) h h' → RefR ok h' x T L' → Shrunk (L ++ [(k, b, n + 1)]) L' → Q (.bool (kindB th (n + 1))) h') : ref51_Table_Filter_b4 (some x) t8 c11 p L.length cap Q h := by
  unfold ref51_Table_Filter_b4
  have lx := ox.lt
  have l8 := o8.lt
  have lc := oc.lt
  refine ldI_mk (oc.cells.at (j := 12) rfl) ?_
  show st1 h (Addr.add c11 12) (.int .i64 (wrap .i64 (n + 1))) _
  rw [wr (by omega) (by omega)]
  refine st1_own oc 12 (by simp [triV]) rfl fun h1 f1 s1 oc => ?_
  have oc : Own h1 c11 (triV (k, b, n + 1)) T_intrusionref51_Counter := oc
  have ox := ox.fr f1 (fun e => hc e.symm)
  have o8 := o8.fr f1 h8.2
  have R := R.fr f1 (fun y hy => (hp y hy).2.2.2)
  refine (ldI_mk (oc.cells.at0 rfl) (ldI_mk (oc.cells.at rfl) (ldI_mk (oc.cells.at rfl) (ldI_mk (oc.cells.at rfl) (ldI_mk (oc.cells.at rfl) (ldB_mk (oc.cells.at rfl) (ldI_mk (oc.cells.at rfl) (ldI_mk (oc.cells.at rfl) (ldB_mk (oc.cells.at rfl) (ldI_mk (oc.cells.at rfl) (ldI_mk (oc.cells.at rfl) (ldI_mk (oc.cells.at rfl) (ldI_mk (oc.cells.at rfl) ?_)))))))))))))
  refine al_mk (vs := triV (k, b, n + 1)) fun a h2 f2 e2 oa => ?_
  have R := R.fr f2 (fun _ _ => id)
  have ox := ox.fr0 f2
  have o8 := o8.fr0 f2
  have oc := oc.fr0 f2
  refine R.app oa (by omega) fun p' cap' h3 R3 f3 n3 => ⟨_, _, _, rfl, ?_⟩
  have ox := ox.fr f3 (fun hi => (hp _ hi).1 rfl)
  have o8 := o8.fr f3 (fun hi => (hp _ hi).2.2.1 rfl)
  have oc := oc.fr f3 (fun hi => (hp _ hi).2.2.2 rfl)
  have z1 := f1.size
  have z2 := f2.size
  have z3 := f3.size
  have f03 : Fr (fun y => y = x.block ∨ y = c11.block ∨ InA p y) h h3 := ((f1.mono fun _ h => .inr (.inl h)).trans (f2.mono fun _ h => h.elim)).trans (f3.mono fun _ h => .inr (.inr h))
  have hp3 : ∀ y, InA p' y → y ≠ x.block ∧ ok y := fun y hy => by
    rcases n3 y hy with h | h
    · exact ⟨(hp y h).1, (hp y h).2.1⟩
    · exact ⟨by omega, hok y (by omega)⟩
  generalize hM : L ++ [(k, b, n + 1)] = M at *
  have hMl : M.length = L.length + 1 := by rw [← hM]; simp
  refine ifD (fun e => ?_) fun e => ?_
  · refine rf_loop ox okx (fun y hy => hok y (by omega)) R3 o8 h8.1 oc hc hc1 (by omega) (by omega) fun h4 f hf hmin f4 R4 => ?_
    refine hk h4 _ (f03.trans (f4.mono fun _ h => .inl h)) R4 ?_
    unfold Shrunk
    rw [if_neg (by omega)]
    refine ⟨M[f], List.getElem_mem hf, fun y hy => ?_, ?_⟩
    · obtain ⟨j, hj, rfl⟩ := List.getElem_of_mem hy
      exact hmin j hj
    · rw [← erase_filter (·.1) M f hf nd, List.eraseIdx_eq_take_drop_succ]
  · refine rf_b7 ox okx R3 hp3 o8 h8.1 oc hc hc1 fun h4 f4 R4 => hk h4 M (f03.trans (f4.mono fun _ h => .inl h)) R4 ?_
    unfold Shrunk
    rw [if_pos (by omega)]
end Go.Proofs.Ytfcnplakgmdfiaa
