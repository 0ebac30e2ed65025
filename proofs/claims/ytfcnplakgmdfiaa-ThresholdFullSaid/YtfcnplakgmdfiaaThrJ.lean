/-
  The law ThresholdCounts.
-/
import Derived.Test.YtfcnplakgmdfiaaThrI
import Derived.Test.YtfcnplakgmdfiaaTy
namespace Go.Proofs.Ytfcnplakgmdfiaa
set_option linter.unusedSimpArgs false
set_option linter.unusedVariables false
set_option maxRecDepth 20000
open Go
open Go.IntKind (wrap)
def HasN (L : List Tri) (k : Key) (n : Nat) : Prop := if n = 0 then ∀ e ∈ L, e.1 ≠ k else ∃ b, (k, b, (n : Int)) ∈ L
theorem cur_has {L : List Tri} {k : Key} {n : Nat} {T secs : Int} (nd : (L.map (·.1)).Nodup) (hb : ∀ e ∈ L, 0 ≤ e.2.1) (H : HasN L k n) (hT : T < 1000) (hs : 1 ≤ secs) : (curL L k T secs).2 = n := by
  unfold HasN at H
  unfold curL
  split at H
  · rename_i h0
    have : L.find? (fun e => decide (e.1 = k)) = none := by
      rw [List.find?_eq_none]; intro e he; exact fun h => H e he (of_decide_eq_true h)
    rw [this, h0]; rfl
  · rename_i h0
    obtain ⟨b, hm⟩ := H
    cases hf : L.find? (fun e => decide (e.1 = k)) with
    | none => rw [List.find?_eq_none] at hf; exact absurd (decide_eq_true rfl) (hf _ hm)
    | some e =>
      have he := List.mem_of_find?_eq_some hf
      have hk : e.1 = k := by have := List.find?_some hf; exact of_decide_eq_true this
      have : e = (k, b, (n : Int)) := by
        obtain ⟨i, hi, rfl⟩ := List.getElem_of_mem he
        obtain ⟨j, hj, e2⟩ := List.getElem_of_mem hm
        have hij : i = j := (List.getElem_inj (h₀ := by simpa using hi) (h₁ := by simpa using hj) nd).1 (by simp only [List.getElem_map]; rw [hk, e2])
        subst hij; exact e2
      subst this
      have := hb _ hm
      simp only at this ⊢
      rw [if_neg (by omega)]
theorem step_has {L L' : List Tri} {k : Key} {T secs : Int} {n : Nat} (hl : L.length ≤ 200) (hc : (curL L k T secs).2 = n) (st : StepF L L' k T secs) :
    L'.length ≤ L.length + 1 ∧ HasN L' k (n + 1) ∧ ∀ k' m, k' ≠ k → HasN L k' m → HasN L' k' m := by
  unfold StepF at st
  rw [hc] at st
  have hfl : (L.filter fun e => decide (e.1 ≠ k)).length ≤ L.length := List.length_filter_le ..
  have hlen : (addL L k (curL L k T secs).1 ((n : Int) + 1)).length ≤ L.length + 1 := by
    unfold addL; rw [List.length_append]; simp only [List.length_singleton]; omega
  unfold Shrunk at st
  rw [if_pos (by omega)] at st
  refine ⟨by rw [st.length_eq]; exact hlen, ?_, fun k' m hk' H => ?_⟩
  · unfold HasN
    rw [if_neg (by omega)]
    exact ⟨(curL L k T secs).1, st.mem_iff.2 (by unfold addL; simp)⟩
  · unfold HasN at H ⊢
    split
    · rename_i h0
      rw [if_pos h0] at H
      intro e he
      have he := st.mem_iff.1 he
      unfold addL at he
      rcases List.mem_append.1 he with h | h
      · exact H e (List.mem_filter.1 h).1
      · rw [List.mem_singleton.1 h]; exact fun h => hk' h.symm
    · rename_i h0
      rw [if_neg h0] at H
      obtain ⟨b, hm⟩ := H
      refine ⟨b, st.mem_iff.2 ?_⟩
      unfold addL
      exact List.mem_append_left _ (List.mem_filter.2 ⟨hm, decide_eq_true hk'⟩)
/-- How many of the first n alerts pass. -/
def passF (t : Th) (n : Nat) : Nat := if t.kind = 1 then min n t.count.toNat else if t.kind = 2 then n / t.count.toNat else if t.count.toNat ≤ n then 1 else 0
theorem passF_succ {t : Th} (hc : 1 ≤ t.count) (n : Nat) : passF t (n + 1) = passF t n + (if kindB t ((n : Int) + 1) then 1 else 0) := by
  obtain ⟨c, hcn⟩ : ∃ c : Nat, t.count = c := ⟨t.count.toNat, by omega⟩
  unfold passF kindB
  rw [hcn, Int.toNat_natCast]
  split
  · by_cases h : (n : Int) + 1 ≤ c
    · rw [decide_eq_true h, if_pos rfl]; omega
    · rw [decide_eq_false h, if_neg (by decide)]; omega
  split
  · rw [Nat.succ_div]
    have e : (Int.tmod ((n : Int) + 1) c == 0) = decide (c ∣ n + 1) := by
      rw [Bool.eq_iff_iff, beq_iff_eq, decide_eq_true_eq, Int.tmod_eq_emod_of_nonneg (by omega)]
      rw [← Int.natCast_dvd_natCast]
      constructor
      · intro h; exact Int.dvd_of_emod_eq_zero (by simpa using h)
      · intro h; have := Int.emod_eq_zero_of_dvd h; simpa using this
    rw [e]
    by_cases h : c ∣ n + 1
    · rw [if_pos h, decide_eq_true h, if_pos rfl]
    · rw [if_neg h, decide_eq_false h, if_neg (by decide)]
  · have e : ((n : Int) + 1 == (c : Int)) = decide (n + 1 = c) := by rw [Bool.eq_iff_iff, beq_iff_eq, decide_eq_true_eq]; omega
    rw [e]
    by_cases h : n + 1 = c
    · rw [decide_eq_true h, if_pos (show c ≤ n + 1 by omega), if_neg (show ¬ c ≤ n by omega)]; rfl
    · rw [decide_eq_false h]
      by_cases h2 : c ≤ n
      · rw [if_pos (show c ≤ n + 1 by omega), if_pos h2]; rfl
      · rw [if_neg (show ¬ c ≤ n + 1 by omega), if_neg h2]; rfl
theorem passF_zero {t : Th} (hc : 1 ≤ t.count) : passF t 0 = 0 := by
  unfold passF; split
  · omega
  split
  · simp
  · rw [if_neg (by omega)]
theorem passF_le {t : Th} (hc : 1 ≤ t.count) (n : Nat) : passF t n ≤ n := by
  induction n with
  | zero => rw [passF_zero hc]; omega
  | succ m ih => rw [passF_succ hc]; split <;> omega
theorem key_ne {th : Th} (hb : 1 ≤ th.by_ ∧ th.by_ ≤ 3) {k : Nat} (hk : k < 4) (h0 : k ≠ 0) : keyL (1 + ((k % 2 : Nat) : Int)) th (flowL (5 + ((k / 2 : Nat) : Int)) (7 + ((k / 2 : Nat) : Int))) ≠ keyL 1 th (flowL 5 7) := by
  intro h
  unfold keyL flowL at h
  simp only [Key.mk.injEq] at h
  obtain ⟨h1, _, h2, h3⟩ := h
  have h1 : k % 2 = 0 := by omega
  have h4 : k / 2 = 1 := by omega
  rw [h4] at h2 h3
  by_cases e : th.by_ = 2
  · rw [if_neg (by omega), if_neg (by omega)] at h3
    simp at h3
  · rw [if_neg e, if_neg e] at h2
    simp at h2
theorem ThresholdCounts_c [Gh] (x : S_api_Threshold) (w : Sl Int) {h : Heap} (_ : x.ok h) (ow : SlOk 1 (fun n : Int => [Value.int .u8 n]) (kOk .u8) h w) {Q : Value → Heap → Prop} (hk : ∀ h', Fr (fun _ => False) h h' → Q (.bool true) h') :
    CallT Try.prog fn_law51_ThresholdCounts #[.agg x.vals.toArray, .slice w.p w.xs.length w.cap] h Q := by
  apply law51_ThresholdCounts_s
  unfold law51_ThresholdCounts_v
  obtain ⟨th, hth⟩ : ∃ th : Th, th = ⟨x.Kind, x.By, x.Count, x.Seconds⟩ := ⟨_, rfl⟩
  refine al_mk (vs := x.vals) fun t2 h1 f1 e1 o2 => ?_
  have o2 : Own h1 t2 th.vals T_api_Threshold := by rw [hth]; exact o2
  clear hth
  have aw : CallT Try.prog fn_law51_awake #[] h1 fun v h2 => ∃ t55 : Bool, v = .bool t55 ∧ Q (.bool t55) h2 := awake_c fun h' f => ⟨_, rfl, hk h' (f1.trans f)⟩
  refine ifD (fun _ => aw) fun hn => ?_
  refine ldI_mk (o2.cells.at0 rfl) (ifD (fun _ => aw) fun k1 => ?_)
  refine ldI_mk (o2.cells.at0 rfl) (ifD (fun _ => aw) fun k2 => ?_)
  refine ldI_mk (o2.cells.at rfl) (ifD (fun _ => aw) fun k3 => ?_)
  refine ldI_mk (o2.cells.at rfl) (ifD (fun _ => aw) fun k4 => ?_)
  refine ldI_mk (o2.cells.at rfl) (ifD (fun _ => aw) fun k5 => ?_)
  refine ldI_mk (o2.cells.at rfl) (ifD (fun _ => aw) fun k6 => ?_)
  refine ldI_mk (o2.cells.at rfl) (ifD (fun _ => aw) fun k7 => ?_)
  refine ldI_mk (o2.cells.at rfl) (ifD (fun _ => aw) fun k8 => ?_)
  have hcB : countsB th = true := countsB_iff.2 ⟨by omega, by omega, by omega, by omega, by omega, by omega, by omega, by omega⟩
  refine new_c fun t r h2 f2 R2 => ⟨_, rfl, ?_⟩
  rw [if_neg (by simp)]
  have l2 := o2.lt
  have f12 := f1.trans f2
  have z1 := f1.size
  have z2 := f2.size
  have o2 := o2.fr0 f2
  obtain ⟨K0, hK0⟩ : ∃ K0 : Key, K0 = keyL 1 th (flowL 5 7) := ⟨_, rfl⟩
  refine LoopV.mk (fun st h' => ∃ (i n : Nat) (T : Int) (S : List Ct), st = ((n : Int), ((passF th n : Nat) : Int), (i : Int)) ∧ i ≤ w.xs.length ∧ n ≤ i ∧ Fr (fun b => h1.size ≤ b) h2 h' ∧ TabR (fun b => h1.size ≤ b) i h' t r T S ∧ T ≤ i ∧ S.length ≤ i ∧ HasN (S.map Ct.tri) K0 n ∧ (∀ k : Nat, k < 4 → ∃ m, HasN (S.map Ct.tri) (keyL (1 + ((k % 2 : Nat) : Int)) th (flowL (5 + ((k / 2 : Nat) : Int)) (7 + ((k / 2 : Nat) : Int)))) m))
    (fun st _ => w.xs.length - st.2.2.toNat) ⟨0, 0, 0, [], by rw [passF_zero (by omega)]; rfl, by omega, by omega, Fr.refl _ _, R2, by omega, by simp, by unfold HasN; simp, fun k _ => ⟨0, by unfold HasN; simp⟩⟩ ?_
  rintro - h3 ⟨i, n, T, S, rfl, hil, hni, f3, R3, hT, hSl, hH, hHs⟩
  have f13 : Fr (fun _ => False) h h3 := f12.tr f3 fun b hb hi => by omega
  have o3 := o2.fr f3 (by omega)
  have z3 := f3.size
  unfold law51_ThresholdCounts_l1
  simp only
  have ow3 : SlOk 1 (fun n : Int => [Value.int .u8 n]) (kOk .u8) h3 w := SlOk.fr0 fr_c f13 ow
  refine ifD (fun hb => ?_) fun hb => ?_
  · have hi : i < w.xs.length := by omega
    refine idx_sl ow3 i rfl hi fun ad cd okd => ?_
    rw [Int.toNat_natCast]
    refine ldI_mk (cd.at0 rfl) ?_
    obtain ⟨d0, d1⟩ := wf8 okd
    generalize w.xs[i] = d at *
    obtain ⟨d, rfl⟩ : ∃ m : Nat, d = m := ⟨d.toNat, by omega⟩
    have ek : Int.tmod (wrap .i64 (d : Int)) 4 = ((d % 4 : Nat) : Int) := by rw [wr (by omega) (by omega), Int.tmod_eq_emod_of_nonneg (by omega)]; omega
    have hk4 : d % 4 < 4 := Nat.mod_lt _ (by omega)
    rw [ek]
    generalize d % 4 = k at *
    have ek2 : Int.tdiv (k : Int) 2 = ((k / 2 : Nat) : Int) := by rw [Int.tdiv_eq_ediv_of_nonneg (by omega)]; omega
    have ek3 : Int.tmod (k : Int) 2 = ((k % 2 : Nat) : Int) := by rw [Int.tmod_eq_emod_of_nonneg (by omega)]; omega
    rw [ek2, ek3, wr (x := ((k / 2 : Nat) : Int)) (by omega) (by omega), wr (x := 5 + ((k / 2 : Nat) : Int)) (by omega) (by omega), wr (x := 7 + ((k / 2 : Nat) : Int)) (by omega) (by omega), wr (x := 1 + ((k % 2 : Nat) : Int)) (by omega) (by omega)]
    refine ⟨by decide, by decide, ?_⟩
    refine (ldI_mk (o3.cells.at0 rfl) (ldI_mk (o3.cells.at rfl) (ldI_mk (o3.cells.at rfl) (ldI_mk (o3.cells.at rfl) ?_))))
    refine ⟨by decide, by decide, ?_⟩
    refine flow_c _ _ (by omega) (by omega) fun h4 f4 => ⟨_, _, _, _, _, _, _, _, _, rfl, chk4 (o3.fr0 f4).cells, ?_⟩
    have R4 := R3.fr0 f4
    have z4 := f4.size
    refine filter_c R4 (by omega) (by omega) (fun b hb => by omega) i _ th _ (fun h => by rw [hcB] at h; cases h) fun _ h5 S' f5 R5 st => ⟨_, rfl, ?_⟩
    have hT5 : timeL T i ≤ i := by unfold timeL; split <;> split <;> omega
    have f35 : Fr (fun b => h1.size ≤ b) h2 h5 := (f3.trans (f4.mono fun _ h => h.elim)).trans f5
    have nd : ((S.map Ct.tri).map (·.1)).Nodup := by have := R3.keys; rw [List.map_map]; exact this
    have hb0 : ∀ e ∈ S.map Ct.tri, 0 ≤ e.2.1 := fun e he => by obtain ⟨c, hc, rfl⟩ := List.mem_map.1 he; exact (R3.num c hc).1
    have lS : (S.map Ct.tri).length ≤ 200 := by rw [List.length_map]; omega
    obtain ⟨m, hm⟩ := hHs k hk4
    have hcur := fun {kk : Key} {mm : Nat} (H : HasN (S.map Ct.tri) kk mm) => cur_has (T := timeL T i) (secs := th.secs) nd hb0 H (by omega) (by omega)
    obtain ⟨sl, sk, so⟩ := step_has lS (hcur hm) st
    rw [List.length_map, List.length_map] at sl
    have hHs' : ∀ k' : Nat, k' < 4 → ∃ m, HasN (S'.map Ct.tri) (keyL (1 + ((k' % 2 : Nat) : Int)) th (flowL (5 + ((k' / 2 : Nat) : Int)) (7 + ((k' / 2 : Nat) : Int)))) m := by
      intro k' hk'
      by_cases e : keyL (1 + ((k' % 2 : Nat) : Int)) th (flowL (5 + ((k' / 2 : Nat) : Int)) (7 + ((k' / 2 : Nat) : Int))) = keyL (1 + ((k % 2 : Nat) : Int)) th (flowL (5 + ((k / 2 : Nat) : Int)) (7 + ((k / 2 : Nat) : Int)))
      · rw [e]; exact ⟨_, sk⟩
      · obtain ⟨m', hm'⟩ := hHs k' hk'
        exact ⟨m', so _ _ e hm'⟩
    have R5' : TabR (fun b => h1.size ≤ b) (i + 1) h5 t r (timeL T i) S' := R5
    rw [hcur hm]
    refine ifE (fun e0 => ?_) fun e0 => ?_
    · have e0 : k = 0 := by omega
      subst e0
      have eK : keyL (1 + ((0 % 2 : Nat) : Int)) th (flowL (5 + ((0 / 2 : Nat) : Int)) (7 + ((0 / 2 : Nat) : Int))) = K0 := by rw [hK0]; rfl
      rw [eK] at hm sk
      have hmn : ((m : Nat) : Int) = n := by rw [← hcur hm, hcur hH]
      have hmn : m = n := by omega
      subst hmn
      have hp := passF_succ (t := th) (by omega) m
      have hple : passF th m ≤ m := passF_le (by omega) m
      refine ifB (fun eb => ?_) fun eb => ?_
      · rw [eb, if_pos rfl] at hp
        rw [wr (by omega) (by omega), wr (by omega) (by omega), wr (by omega) (by omega)]
        refine ⟨⟨i + 1, m + 1, _, S', by rw [hp]; rfl, by omega, by omega, f35, R5', by omega, by omega, sk, hHs'⟩, by omega⟩
      · rw [eb, if_neg (by decide)] at hp
        rw [wr (by omega) (by omega), wr (by omega) (by omega)]
        refine ⟨⟨i + 1, m + 1, _, S', by rw [hp]; rfl, by omega, by omega, f35, R5', by omega, by omega, sk, hHs'⟩, by omega⟩
    · rw [wr (by omega) (by omega)]
      have hne := key_ne (th := th) (by omega) hk4 (by omega)
      exact ⟨⟨i + 1, n, _, S', rfl, by omega, by omega, f35, R5', by omega, by omega, so K0 n (by rw [hK0]; exact fun h => hne h.symm) hH, hHs'⟩, by omega⟩
  · have b4 : ∀ want : Int, ((passF th n : Nat) : Int) = want → law51_ThresholdCounts_b4 ((passF th n : Nat) : Int) want Q h3 := fun want e => by
      unfold law51_ThresholdCounts_b4
      rw [if_pos (by rw [e]; simp)]
      exact awake_c fun h' f => ⟨_, rfl, hk h' (f13.trans f)⟩
    obtain ⟨c, hc⟩ : ∃ c : Nat, th.count = c := ⟨th.count.toNat, by omega⟩
    unfold law51_ThresholdCounts_b2
    refine ldI_mk (o3.cells.at rfl) ⟨by omega, ldI_mk (o3.cells.at0 rfl) ?_⟩
    refine ifE (fun e => ?_) fun e => ?_
    · have ep : passF th n = min n c := by unfold passF; rw [if_pos e, hc]; rfl
      refine ldI_mk (o3.cells.at rfl) (ifD (fun e2 => ?_) fun e2 => ?_)
      · refine ldI_mk (o3.cells.at rfl) ?_
        unfold law51_ThresholdCounts_b3
        refine ldI_mk (o3.cells.at0 rfl) ?_
        rw [if_neg (by rw [e]; decide)]
        exact b4 _ (by omega)
      · unfold law51_ThresholdCounts_b3
        refine ldI_mk (o3.cells.at0 rfl) ?_
        rw [if_neg (by rw [e]; decide)]
        exact b4 _ (by omega)
    · have ed : Int.tdiv (n : Int) th.count = ((n / c : Nat) : Int) := by rw [hc, Int.tdiv_eq_ediv_of_nonneg (by omega)]; exact (Int.natCast_ediv n c).symm
      have hle : n / c ≤ n := Nat.div_le_self _ _
      have hw : wrap .i64 ((n / c : Nat) : Int) = ((n / c : Nat) : Int) := by
        generalize n / c = q at hle ⊢
        exact wr (by omega) (by omega)
      rw [ed, hw]
      unfold law51_ThresholdCounts_b3
      refine ldI_mk (o3.cells.at0 rfl) ?_
      refine ifE (fun e3 => ?_) fun e3 => ?_
      · have ep : passF th n = if c ≤ n then 1 else 0 := by unfold passF; rw [if_neg e, if_neg (by omega), hc]; rfl
        have hpos : 0 < c := by omega
        refine ifD (fun e4 => ?_) fun e4 => ?_
        · refine b4 _ ?_
          have : c ≤ n := by
            rcases Nat.lt_or_ge n c with h | h
            · rw [Nat.div_eq_of_lt h] at e4; omega
            · exact h
          rw [ep, if_pos this]; rfl
        · refine b4 _ ?_
          rw [ep]
          split
          · rename_i h
            have := (Nat.div_pos_iff (a := n) (b := c)).2 ⟨hpos, h⟩
            omega
          · rename_i h
            rw [Nat.div_eq_of_lt (by omega)]
      · have ep : passF th n = n / c := by unfold passF; rw [if_neg e, if_pos (by omega), hc]; rfl
        exact b4 _ (by rw [ep])
end Go.Proofs.Ytfcnplakgmdfiaa
