/-
  The law FastpatternOnce.
-/
import Derived.Test.YtjelnknmjhceiaaFastQ
namespace Go.Proofs.Ytjelnknmjhceiaa
set_option linter.unusedSimpArgs false
set_option linter.unusedVariables false
set_option maxRecDepth 20000
open Go
open Go.IntKind (wrap)
def seenN (n : Nat) (U : List Int) : List Value := (List.range n).map fun x : Nat => Value.int .i64 (U.count (x : Int) : Nat)
theorem seenN_get {n m : Nat} (hm : m < n) (U : List Int) : (seenN n U)[m]? = some (.int .i64 (U.count (m : Int) : Nat)) := by
  unfold seenN; simp [hm]
theorem seenN_set {n m : Nat} (hm : m < n) (U : List Int) : (seenN n U).set m (.int .i64 ((U.count (m : Int) + 1 : Nat) : Int)) = seenN n (U ++ [(m : Int)]) := by
  unfold seenN
  apply List.ext_getElem (by simp)
  intro i h1 h2
  rw [List.getElem_set]
  have hi : i < n := by simpa using h1
  simp only [List.getElem_map, List.getElem_range, List.count_append, List.count_cons, List.count_nil, beq_iff_eq]
  split
  · rename_i e; subst e; simp
  · rename_i e
    rw [if_neg (by omega)]; simp
structure SeenI (h0 h : Heap) (sa : Addr) (n : Nat) (U : List Int) : Prop where
  fr : Fr (fun _ => False) h0 h
  own : Own h sa (seenN n U) T_int
theorem seen_step {h0 h : Heap} {sa : Addr} {n : Nat} {U : List Int} (I : SeenI h0 h sa n U) (hs : h0.size ≤ sa.block) (m : Nat) (hm : m < n) (hU : U.length ≤ 2 ^ 30) {Kn : Heap → Prop} (hk : ∀ h', SeenI h0 h' sa n (U ++ [(m : Int)]) → Kn h') :
    idxA (m : Int) n (nn (some sa) fun t92 => ldI h (Addr.add t92 (((m : Int)).toNat * 1)) .i64 fun t93 => idxA (m : Int) n (nn (some sa) fun t95 => st1 h (Addr.add t95 (((m : Int)).toNat * 1)) (.int .i64 (wrap .i64 (t93 + 1))) fun h6 => Kn h6)) := by
  refine idxA_mk m rfl hm (nn_mk ?_)
  rw [Int.toNat_natCast, Nat.mul_one]
  refine ldI_mk (I.own.cells.at (seenN_get hm U)) (idxA_mk m rfl hm (nn_mk ?_))
  have hc := List.count_le_length (a := (m : Int)) (l := U)
  rw [wr (by omega) (by omega)]
  refine st1_own I.own m (by simp [seenN, hm]) rfl fun h1 f1 s1 o1 => hk h1 ⟨I.fr.tr f1 fun x hx hi => by omega, ?_⟩
  have e : ((U.count (m : Int) : Nat) : Int) + 1 = ((U.count (m : Int) + 1 : Nat) : Int) := by omega
  rw [e, seenN_set hm] at o1
  exact o1
structure OnceCtx (h0 : Heap) (s : Sl Ru) (g : Sl S_api_Group) (sa : Addr) : Prop where
  okl : SlOk 21 S_api_Rule.vals S_api_Rule.ok h0 s
  okg : GrpsOk h0 g
  sh : ∀ r ∈ s.xs, ShortR r
  len : s.xs.length ≤ 40
  once : Once s.xs s.xs.length (g.xs.map grpOf)
  sb : h0.size ≤ sa.block
theorem OnceCtx.right {h0 : Heap} {s : Sl Ru} {g : Sl S_api_Group} {sa : Addr} (C : OnceCtx h0 s g sa) {i : Nat} (hi : i < g.xs.length) : Right s.xs s.xs.length (grpOf g.xs[i]) :=
  C.once.right _ (List.mem_map_of_mem (List.getElem_mem hi))
def preV (g : Sl S_api_Group) (i : Nat) : List Int := vgs ((g.xs.take i).map grpOf)
theorem preV_succ {g : Sl S_api_Group} {i : Nat} (hi : i < g.xs.length) : preV g (i + 1) = preV g i ++ vg (grpOf g.xs[i]) := by
  unfold preV vgs
  rw [List.take_succ_eq_append_getElem hi, List.map_append, List.flatMap_append]; simp
theorem preV_le {g : Sl S_api_Group} (i : Nat) : (preV g i).length ≤ (vgs (g.xs.map grpOf)).length := by
  have : vgs (g.xs.map grpOf) = preV g i ++ vgs ((g.xs.drop i).map grpOf) := by
    unfold preV vgs; rw [← List.flatMap_append, ← List.map_append, List.take_append_drop]
  rw [this, List.length_append]; omega
theorem take1 {α : Type} (l : List α) (k : Nat) (hk : k < l.length) : l.take (k + 1) = l.take k ++ [l[k]] := List.take_succ_eq_append_getElem hk
theorem flat_pre {α : Type} (l : List (List α)) (k : Nat) (hk : k < l.length) : (l.take k).flatten.length + l[k].length ≤ l.flatten.length := by
  have e : l = l.take k ++ l[k] :: l.drop (k + 1) := by rw [← List.drop_eq_getElem_cons hk, List.take_append_drop]
  have : l.flatten = (l.take k).flatten ++ (l[k] ++ (l.drop (k + 1)).flatten) := by
    conv => lhs; rw [e]
    rw [List.flatten_append, List.flatten_cons]
  rw [this]; simp only [List.length_append]; omega
section
variable {h0 h : Heap} {s : Sl Ru} {g : Sl S_api_Group} {sa : Addr} {Q : Value → Heap → Prop} {U : List Int}
theorem pair_c [Gh] (C : OnceCtx h0 s g sa) {i : Nat} (hi : i < g.xs.length) {k : Nat} (hk : k < g.xs[i].Rules.xs.length) {j : Nat} (hj : j < g.xs[i].Rules.xs[k].xs.length) (hU : U.length ≤ 2 ^ 30) (I : SeenI h0 h sa s.xs.length U)
    {m : Nat} (hm : m < s.xs.length) (hp : k < g.xs[i].Patterns.xs.length) (ep : patL s.xs[m].Contents.xs = some (g.xs[i].Patterns.xs[k].Text, g.xs[i].Patterns.xs[k].Nocase)) {Kn1 Kn5 Kn6 : Int → Heap → Prop}
    (hkn : ∀ h', SeenI h0 h' sa s.xs.length (U ++ [(m : Int)]) → Kn6 (wrap .i64 ((j : Int) + 1)) h') :
    law46_FastpatternOnce_b8 s.p s.xs.length s.cap g.p g.xs.length g.cap (some sa) s.xs.length s.xs.length i k j m Q Kn1 Kn5 Kn6 h := by
  unfold law46_FastpatternOnce_b8
  refine idx_sl (SlOk.fr0 S_api_Rule.ok_fr I.fr C.okl) m rfl hm fun ad c ok => ?_
  rw [Int.toNat_natCast]
  refine (ldI_mk (c.at0 rfl) (ldI_mk (c.at rfl) (ldL_mk (c.at rfl) (ldL_mk (c.at rfl) (ldL_mk (c.at rfl) (ldL_mk (c.at rfl) (ldB_mk (c.at rfl) (ldI_mk (c.at rfl) (ldI_mk (c.at rfl) (ldI_mk (c.at rfl) (ldS_mk (c.at rfl) (ldI_mk (c.at rfl) (ldI_mk (c.at rfl) (ldL_mk (c.at rfl) (ldL_mk (c.at rfl) (ldL_mk (c.at rfl) (ldL_mk (c.at rfl) (ldI_mk (c.at rfl) (ldI_mk (c.at rfl) (ldI_mk (c.at rfl) (ldI_mk (c.at rfl) ?_)))))))))))))))))))))
  refine Pattern_c _ ok (C.sh _ (List.getElem_mem hm)).c fun h1 f1 => ?_
  unfold patV
  rw [ep]
  refine ⟨_, _, _, rfl, ?_⟩
  refine cp_mk rfl rfl fun t8 h2 f2 hb2 o8 => ?_
  have f12 := I.fr.trans (f1.trans f2)
  refine ifN (fun hx => by cases hx) fun _ => ?_
  refine ldS_mk (o8.cells.at0 rfl) (ldB_mk (o8.cells.at rfl) ?_)
  refine idx_sl (SlOk.fr0 S_api_Group.ok_fr f12 C.okg) i rfl hi fun ag cg okg => ?_
  rw [Int.toNat_natCast]
  refine ldL_mk (cg.at rfl) ?_
  refine idx_sl okg.k2 k rfl hp fun ap cp _ => ?_
  rw [Int.toNat_natCast]
  refine ldS_mk (cp.at0 rfl) (ldB_mk (cp.at rfl) ?_)
  have eT : ∀ l : List UInt8, (bs l == bs l) = true := fun l => by rw [bs_beq]; simp
  simp only [eT, beq_self_eq_true, Bool.and_true, Bool.not_true]
  unfold law46_FastpatternOnce_b9
  rw [if_neg (by decide)]
  have I2 : SeenI h0 h2 sa s.xs.length U := ⟨f12, (I.own.fr0 f1).fr0 f2⟩
  exact seen_step I2 C.sb m hm hU hkn
theorem rules_c [Gh] (C : OnceCtx h0 s g sa) {i : Nat} (hi : i < g.xs.length) (hU : U.length + (g.xs[i].Rules.xs.map (·.xs)).flatten.length ≤ 2 ^ 30) (I : SeenI h0 h sa s.xs.length U) {Kn1 : Int → Heap → Prop}
    (hkn : ∀ h', SeenI h0 h' sa s.xs.length (U ++ (g.xs[i].Rules.xs.map (·.xs)).flatten) → Kn1 (wrap .i64 ((i : Int) + 1)) h') :
    law46_FastpatternOnce_b3 s.p s.xs.length s.cap g.p g.xs.length g.cap (some sa) s.xs.length s.xs.length i Q Kn1 h := by
  unfold law46_FastpatternOnce_b3
  have R := C.right hi
  have rl : g.xs[i].Rules.xs.length = g.xs[i].Patterns.xs.length := by have := R.len; simpa [grpOf] using this
  have hlr : ∀ (h' : Heap), Fr (fun _ => False) h0 h' → g.xs[i].Rules.xs.length ≤ 9223372036854775807 := fun h' f => by
    obtain ⟨_, _, _, ok⟩ := (SlOk.fr0 S_api_Group.ok_fr f C.okg).at_ i hi
    exact ok.k3.cap
  have hlr := hlr h I.fr
  refine LoopV.mk (fun st h' => ∃ k : Nat, st = (k : Int) ∧ k ≤ g.xs[i].Rules.xs.length ∧ SeenI h0 h' sa s.xs.length (U ++ ((g.xs[i].Rules.xs.map (·.xs)).take k).flatten)) (fun st _ => g.xs[i].Rules.xs.length - st.toNat) ⟨0, rfl, by omega, by simpa using I⟩ ?_
  rintro - h1 ⟨k, rfl, hkl, I1⟩
  unfold law46_FastpatternOnce_l5
  refine idx_sl (SlOk.fr0 S_api_Group.ok_fr I1.fr C.okg) i rfl hi fun ag cg okg => ?_
  rw [Int.toNat_natCast]
  refine ldL_mk (cg.at rfl) ?_
  refine ifD (fun hb => ?_) fun hb => ?_
  · have hk : k < g.xs[i].Rules.xs.length := by omega
    have hkm : k < (g.xs[i].Rules.xs.map (·.xs)).length := by simpa using hk
    have fp := flat_pre (g.xs[i].Rules.xs.map (·.xs)) k hkm
    have gk : (g.xs[i].Rules.xs.map (·.xs))[k] = g.xs[i].Rules.xs[k].xs := by simp
    rw [gk] at fp
    have ef : ((g.xs[i].Rules.xs.map (·.xs)).take (k + 1)).flatten = ((g.xs[i].Rules.xs.map (·.xs)).take k).flatten ++ g.xs[i].Rules.xs[k].xs := by
      rw [take1 _ k hkm, List.flatten_append, List.flatten_cons, List.flatten_nil, List.append_nil, gk]
    refine LoopV.mk (fun st h' => ∃ j : Nat, st = (j : Int) ∧ j ≤ g.xs[i].Rules.xs[k].xs.length ∧ SeenI h0 h' sa s.xs.length (U ++ ((g.xs[i].Rules.xs.map (·.xs)).take k).flatten ++ g.xs[i].Rules.xs[k].xs.take j)) (fun st _ => g.xs[i].Rules.xs[k].xs.length - st.toNat) ⟨0, rfl, by omega, by simpa using I1⟩ ?_
    rintro - h2 ⟨j, rfl, hjl, I2⟩
    unfold law46_FastpatternOnce_l6
    have okG := SlOk.fr0 S_api_Group.ok_fr I2.fr C.okg
    have rules : ∀ {K : Option Addr → Nat → Nat → Prop}, K g.xs[i].Rules.xs[k].p g.xs[i].Rules.xs[k].xs.length g.xs[i].Rules.xs[k].cap →
        idxA (i : Int) g.xs.length (nn g.p fun t109 => ldL h2 (Addr.add (Addr.add t109 (((i : Int)).toNat * 5)) 3) fun t111a t111n t111c => idxA (k : Int) t111n (nn t111a fun t113 => ldL h2 (Addr.add t113 (((k : Int)).toNat * 1)) fun t114a t114n t114c => K t114a t114n t114c)) := fun hK => by
      refine idx_sl okG i rfl hi fun ag cg okg => ?_
      rw [Int.toNat_natCast]
      refine ldL_mk (cg.at rfl) ?_
      refine idx_sl okg.k3 k rfl hk fun ar cr okr => ?_
      rw [Int.toNat_natCast]
      exact ldL_mk (cr.at0 rfl) hK
    obtain ⟨_, _, _, okg2⟩ := okG.at_ i hi
    obtain ⟨_, _, _, okr⟩ := okg2.k3.at_ k hk
    refine rules ?_
    have hcap := okr.cap
    refine ifD (fun hb2 => ?_) fun hb2 => ?_
    · have hj : j < g.xs[i].Rules.xs[k].xs.length := by omega
      obtain ⟨m, hm, em, hmn, ekind, epat⟩ := R.ru k (by simpa [grpOf] using hk) (by simp [grpOf]; omega) (g.xs[i].Rules.xs[k].xs[j]) (by simp [grpOf])
      have epat : patL s.xs[m].Contents.xs = some (g.xs[i].Patterns.xs[k].Text, g.xs[i].Patterns.xs[k].Nocase) := by rw [epat]; simp [grpOf]
      refine rules ?_
      refine idx_sl okr j rfl hj fun aj cj _ => ?_
      rw [Int.toNat_natCast]
      refine ldI_mk (cj.at0 rfl) ?_
      rw [em]
      rw [if_neg (by rw [decide_eq_true_eq]; omega), if_neg (by rw [decide_eq_true_eq]; omega)]
      refine idx_sl (SlOk.fr0 S_api_Rule.ok_fr I2.fr C.okl) m rfl hm fun al cl _ => ?_
      rw [Int.toNat_natCast]
      refine ldI_mk (cl.at rfl) ?_
      refine idx_sl okG i rfl hi fun ag cg okg => ?_
      rw [Int.toNat_natCast]
      refine ldI_mk (cg.at0 rfl) ?_
      refine ifNe (fun h => absurd ekind h) fun _ => ?_
      have hU2 : (U ++ ((g.xs[i].Rules.xs.map (·.xs)).take k).flatten ++ g.xs[i].Rules.xs[k].xs.take j).length ≤ 2 ^ 30 := by
        simp only [List.length_append, List.length_take]; omega
      have fin : law46_FastpatternOnce_b8 s.p s.xs.length s.cap g.p g.xs.length g.cap (some sa) s.xs.length s.xs.length i k j m Q Kn1 (fun s' h' => (∃ k : Nat, s' = (k : Int) ∧ k ≤ g.xs[i].Rules.xs.length ∧ SeenI h0 h' sa s.xs.length (U ++ ((g.xs[i].Rules.xs.map (·.xs)).take k).flatten)) ∧ g.xs[i].Rules.xs.length - s'.toNat < g.xs[i].Rules.xs.length - ((k : Int)).toNat)
          (fun s' h' => (∃ j : Nat, s' = (j : Int) ∧ j ≤ g.xs[i].Rules.xs[k].xs.length ∧ SeenI h0 h' sa s.xs.length (U ++ ((g.xs[i].Rules.xs.map (·.xs)).take k).flatten ++ g.xs[i].Rules.xs[k].xs.take j)) ∧ g.xs[i].Rules.xs[k].xs.length - s'.toNat < g.xs[i].Rules.xs[k].xs.length - ((j : Int)).toNat) h2 := by
        refine pair_c C hi hk hj hU2 I2 hm (by omega) epat fun h3 I3 => ?_
        rw [wr (by omega) (by omega)]
        refine ⟨⟨j + 1, rfl, by omega, ?_⟩, by omega⟩
        rw [take1 _ j hj, em]
        simpa [List.append_assoc] using I3
      refine ifD (fun hb3 => ?_) fun hb3 => fin
      refine rules ?_
      rw [wr (x := (j : Int) - 1) (by omega) (by omega)]
      have hj1 : j - 1 < g.xs[i].Rules.xs[k].xs.length := by omega
      refine idx_sl okr (j - 1) (by omega) hj1 fun aj cj _ => ?_
      have ej : ((j : Int) - 1).toNat = j - 1 := by omega
      rw [ej]
      refine ldI_mk (cj.at0 rfl) ?_
      have up := R.up k (by simpa [grpOf] using hk)
      have up2 : g.xs[i].Rules.xs[k].xs[j - 1] < g.xs[i].Rules.xs[k].xs[j] := by
        have := List.pairwise_iff_getElem.1 up (j - 1) j (by simp [grpOf]; omega) (by simp [grpOf]; omega) (by omega)
        simpa [grpOf] using this
      rw [em] at up2
      rw [if_neg (by rw [decide_eq_true_eq]; omega)]
      exact fin
    · have ej : j = g.xs[i].Rules.xs[k].xs.length := by omega
      subst ej
      rw [List.take_length, List.append_assoc, ← ef] at I2
      rw [wr (by omega) (by omega)]
      exact ⟨⟨k + 1, rfl, by omega, I2⟩, by omega⟩
  · have ek : k = g.xs[i].Rules.xs.length := by omega
    subst ek
    have et : (g.xs[i].Rules.xs.map (·.xs)).take g.xs[i].Rules.xs.length = g.xs[i].Rules.xs.map (·.xs) := by rw [List.take_of_length_le (by simp)]
    rw [et] at I1
    exact hkn h1 I1
end
theorem FastpatternOnce_c [Gh] (s : Sl Ru) {h : Heap} (ok : SlOk 21 S_api_Rule.vals S_api_Rule.ok h s) {Q : Value → Heap → Prop} (hk : ∀ h', Fr (fun _ => False) h h' → Q (.bool true) h') :
    CallT Try.prog fn_law46_FastpatternOnce #[.slice s.p s.xs.length s.cap] h Q := by
  apply law46_FastpatternOnce_s
  unfold law46_FastpatternOnce_v
  refine lives_c fun h1 f1 => ⟨_, rfl, ?_⟩
  rw [if_neg (by decide)]
  have ok1 := SlOk.fr0 S_api_Rule.ok_fr f1 ok
  refine short_c s ok1 fun b h2 f2 hb => ⟨_, rfl, ?_⟩
  refine ifN (fun _ => hk _ (f1.trans f2)) fun hbt => ?_
  obtain ⟨hl, sh⟩ := hb hbt
  have ok2 := SlOk.fr0 S_api_Rule.ok_fr f2 ok1
  refine Groups_c s ok2 hl sh fun g h3 f3 okg eg => ⟨_, _, _, rfl, ?_⟩
  have eb : (Try.t3).bytes = 8 := by kernel_rfl
  refine mkSl_mk el_int s.xs.length rfl (by rw [eb]; omega) fun sa h4 f4 e4 o4 => ⟨_, _, _, rfl, ?_⟩
  have f03 := (f1.trans f2).trans f3
  have C : OnceCtx h3 s g sa := ⟨SlOk.fr0 S_api_Rule.ok_fr f3 ok2, okg, sh, hl, by rw [eg]; exact once_groups s.xs, by omega⟩
  have I0 : SeenI h3 h4 sa s.xs.length [] := by
    refine ⟨f4, ?_⟩
    have e : (List.replicate s.xs.length (Value.int .i64 0).cells.toList).flatten = seenN s.xs.length [] := by
      unfold seenN
      apply List.ext_getElem
      · simp [Value.cells]
      · intro i h1 h2
        have : (Value.int .i64 0).cells.toList = [Value.int .i64 0] := rfl
        simp [this]
    rw [e] at o4; exact o4
  have hgc := okg.cap
  have hvl : ∀ i (hi : i < g.xs.length), (preV g i).length + (vg (grpOf g.xs[i])).length ≤ 40 := fun i hi => by
    have h1 := preV_le (g := g) (i + 1)
    rw [preV_succ hi, List.length_append, C.once.len] at h1
    omega
  refine LoopV.mk (fun st h' => ∃ i : Nat, st = (i : Int) ∧ i ≤ g.xs.length ∧ SeenI h3 h' sa s.xs.length (preV g i)) (fun st _ => g.xs.length - st.toNat) ⟨0, rfl, by omega, I0⟩ ?_
  rintro - h5 ⟨i, rfl, hil, I5⟩
  unfold law46_FastpatternOnce_l1
  refine ifD (fun hb => ?_) fun hb => ?_
  · have hi : i < g.xs.length := by omega
    have R := C.right hi
    have hv := hvl i hi
    have hv2 : (vg (grpOf g.xs[i])).length = g.xs[i].Always.xs.length + (g.xs[i].Rules.xs.map (·.xs)).flatten.length := by simp only [vg, grpOf, List.length_append]
    have okG := SlOk.fr0 S_api_Group.ok_fr I5.fr C.okg
    refine idx_sl okG i rfl hi fun ag cg ogk => ?_
    rw [Int.toNat_natCast]
    refine ldL_mk (cg.at rfl) ?_
    refine idx_sl okG i rfl hi fun ag cg ogk => ?_
    refine ldL_mk (cg.at rfl) ?_
    have rl : g.xs[i].Rules.xs.length = g.xs[i].Patterns.xs.length := by have := R.len; simpa [grpOf] using this
    refine ifNe (fun h => absurd (by omega) h) fun _ => ?_
    refine LoopV.mk (fun st h' => ∃ k : Nat, st = (k : Int) ∧ k ≤ g.xs[i].Always.xs.length ∧ SeenI h3 h' sa s.xs.length (preV g i ++ g.xs[i].Always.xs.take k)) (fun st _ => g.xs[i].Always.xs.length - st.toNat) ⟨0, rfl, by omega, by simpa using I5⟩ ?_
    rintro - h6 ⟨k, rfl, hkl, I6⟩
    unfold law46_FastpatternOnce_l2
    have okG := SlOk.fr0 S_api_Group.ok_fr I6.fr C.okg
    refine idx_sl okG i rfl hi fun ag cg ogk => ?_
    rw [Int.toNat_natCast]
    refine ldL_mk (cg.at rfl) ?_
    refine ifD (fun hb2 => ?_) fun hb2 => ?_
    · have hk2 : k < g.xs[i].Always.xs.length := by omega
      refine idx_sl okG i rfl hi fun ag cg ogk => ?_
      refine ldL_mk (cg.at rfl) ?_
      refine idx_sl ogk.k4 k rfl hk2 fun aa ca _ => ?_
      rw [Int.toNat_natCast]
      refine ldI_mk (ca.at0 rfl) ?_
      obtain ⟨m, hm, em, hmn, ekind, epat⟩ := R.al (g.xs[i].Always.xs[k]) (by simp [grpOf])
      rw [em]
      rw [if_neg (by rw [decide_eq_true_eq]; omega), if_neg (by rw [decide_eq_true_eq]; omega)]
      have okL := SlOk.fr0 S_api_Rule.ok_fr I6.fr C.okl
      refine idx_sl okL m rfl hm fun al cl _ => ?_
      rw [Int.toNat_natCast]
      refine ldI_mk (cl.at rfl) ?_
      refine idx_sl okG i rfl hi fun ag cg ogk => ?_
      refine ldI_mk (cg.at0 rfl) ?_
      refine ifNe (fun h => absurd ekind h) fun _ => ?_
      refine idx_sl okL m rfl hm fun al c okr => ?_
      refine (ldI_mk (c.at0 rfl) (ldI_mk (c.at rfl) (ldL_mk (c.at rfl) (ldL_mk (c.at rfl) (ldL_mk (c.at rfl) (ldL_mk (c.at rfl) (ldB_mk (c.at rfl) (ldI_mk (c.at rfl) (ldI_mk (c.at rfl) (ldI_mk (c.at rfl) (ldS_mk (c.at rfl) (ldI_mk (c.at rfl) (ldI_mk (c.at rfl) (ldL_mk (c.at rfl) (ldL_mk (c.at rfl) (ldL_mk (c.at rfl) (ldL_mk (c.at rfl) (ldI_mk (c.at rfl) (ldI_mk (c.at rfl) (ldI_mk (c.at rfl) (ldI_mk (c.at rfl) ?_)))))))))))))))))))))
      refine Choose_c _ okr (sh _ (List.getElem_mem hm)).c fun h7 f7 => ⟨_, rfl, ?_⟩
      have ec : chooseL s.xs[m].Contents.xs = -1 := by
        have hb := best_choose s.xs[m].Contents.xs
        have := hb.lo
        unfold patL at epat
        split at epat
        · omega
        · cases epat
      rw [ec]
      unfold law46_FastpatternOnce_b10
      rw [if_neg (by decide)]
      have I7 : SeenI h3 h7 sa s.xs.length (preV g i ++ g.xs[i].Always.xs.take k) := ⟨I6.fr.trans f7, I6.own.fr0 f7⟩
      refine seen_step I7 C.sb m hm (by simp only [List.length_append, List.length_take]; omega) fun h8 I8 => ?_
      rw [wr (by omega) (by omega)]
      refine ⟨⟨k + 1, rfl, by omega, ?_⟩, by omega⟩
      rw [take1 _ k hk2, em, ← List.append_assoc]
      exact I8
    · have ek : k = g.xs[i].Always.xs.length := by omega
      subst ek
      rw [List.take_length] at I6
      refine rules_c C hi (by simp only [List.length_append]; omega) I6 fun h7 I7 => ?_
      rw [wr (by omega) (by omega)]
      refine ⟨⟨i + 1, rfl, by omega, ?_⟩, by omega⟩
      rw [preV_succ hi]
      have e : preV g i ++ vg (grpOf g.xs[i]) = preV g i ++ g.xs[i].Always.xs ++ (g.xs[i].Rules.xs.map (·.xs)).flatten := by simp only [vg, grpOf, List.append_assoc]
      rw [e]; exact I7
  · have ei : i = g.xs.length := by omega
    subst ei
    have ev : preV g g.xs.length = vgs (g.xs.map grpOf) := by unfold preV; rw [List.take_length]
    rw [ev] at I5
    unfold law46_FastpatternOnce_b4
    refine LoopV.mk (fun st h' => h' = h5 ∧ ∃ k : Nat, st = (k : Int) ∧ k ≤ s.xs.length) (fun st _ => s.xs.length - st.toNat) ⟨rfl, 0, rfl, by omega⟩ ?_
    rintro - h6 ⟨rfl, k, rfl, hkl⟩
    unfold law46_FastpatternOnce_l7
    refine ifD (fun hb2 => ?_) fun hb2 => hk _ (f03.trans I5.fr)
    have hk2 : k < s.xs.length := by omega
    refine idxA_mk k rfl hk2 (nn_mk ?_)
    rw [Int.toNat_natCast, Nat.mul_one]
    refine ldI_mk (I5.own.cells.at (seenN_get hk2 _)) ?_
    rw [C.once.count k, if_pos hk2, if_neg (by decide), wr (by omega) (by omega)]
    exact ⟨⟨by trivial, k + 1, rfl, by omega⟩, by omega⟩
end Go.Proofs.Ytjelnknmjhceiaa
